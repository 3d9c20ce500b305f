/- A slice of piles that is read as a list; pileValid, l3Pile, PilesValid. -/
import Derived.Test.YtlfgmljgoolbeaaBaParse
import Derived.Test.YtlfgmljgoolbeaaPiPlain
import Derived.Test.YtlfgmljgoolbeaaGrow
namespace Go.Proofs.Ytlfgmljgoolbeaa
open Go.RowKit

/-- the slice at A, of n elements, reads as ps and lies below block B -/
def RdP (W : World) (B : Nat) (A : Option Addr) (n : Nat) (ps : List Pil.Pl) : Prop :=
  ps.length = n ∧ (0 < n → ∃ b off, A = some ⟨b, off, none⟩ ∧ b < B ∧ ∀ j (h : j < ps.length), W.cell? ⟨b, off + j * 2, none⟩ = some (.string ps[j].1) ∧ W.cell? ⟨b, off + j * 2 + 1, none⟩ = some (.int .i64 ps[j].2))
section
variable {W W' : World} {B B' n : Nat} {A : Option Addr} {ps : List Pil.Pl}
theorem RdP.len (h : RdP W B A n ps) : ps.length = n := h.1
theorem RdP.nil : RdP W B A 0 [] := ⟨rfl, fun h => absurd h (by omega)⟩
theorem RdP.keep (h : RdP W B A n ps) (hk : ∀ b o, b < B → W'.cell? ⟨b, o, none⟩ = W.cell? ⟨b, o, none⟩) : RdP W' B A n ps :=
  ⟨h.1, fun hn => by
    obtain ⟨b, off, e, hb, hc⟩ := h.2 hn
    exact ⟨b, off, e, hb, fun j hj => ⟨(hk b _ hb).trans (hc j hj).1, (hk b _ hb).trans (hc j hj).2⟩⟩⟩
theorem RdP.more (h : RdP W B A n ps) (hB : B ≤ B') : RdP W B' A n ps :=
  ⟨h.1, fun hn => by
    obtain ⟨b, off, e, hb, hc⟩ := h.2 hn
    exact ⟨b, off, e, by omega, hc⟩⟩
theorem RdP.below (h : RdP W B A n ps) (hb : Below B W W') : RdP W' B A n ps := h.keep fun b o hlt => hb.cell (p := ⟨b, o, none⟩) hlt
theorem RdP.drewN (h : RdP W B A n ps) (k : Nat) : RdP (W.drewN k) B A n ps := h
theorem RdP.at_ {k : Nat} (h : RdP W B A n ps) (hk : k < ps.length) : ∃ b off, A = some ⟨b, off, none⟩ ∧ b < B ∧ ∀ j (h : j < ps.length), W.cell? ⟨b, off + j * 2, none⟩ = some (.string ps[j].1) ∧ W.cell? ⟨b, off + j * 2 + 1, none⟩ = some (.int .i64 ps[j].2) :=
  h.2 (by have := h.1; omega)
end

theorem iPileValid_any (s : ByteArray) (m : Int) (W : World) (hs : s.size ≤ 4194304) :
    Calls Try.prog 41 #[.agg #[.string s, .int .i64 m]] W fun e w' => e = .returned (.bool (Pil.pv (s, m))) ∧ Below W.heap.size W w' := by
  have hp := fun w => iBallotParse_any s w hs
  have hB := fun (w : World) (hb : Below (W.alloc (.cells #[.string s, .int .i64 m] 44)).heap.size (W.alloc (.cells #[.string s, .int .i64 m] 44)) w) => Reg.newbox hb
  cases ok : Bal.okT s.data.toList with
  | false =>
    have HV := Lib.hid (show Pil.pv (s, m) = false by simp [Pil.pv, ok])
    rw [ok] at hp
    have HP := Lib.hid hp
    have HB := Lib.hid hB
    clear hp hB ok
    go_enter Try.func41, Try.ntmps41
    go_wp2_with fail
    refine (HP.out _).mono ?_
    rintro e w1 ⟨A, n, c, rfl, -, hb⟩
    have hbw := Reg.unalloc hb
    obtain ⟨z, c0, c1, -, -⟩ := HB.out _ hb
    clear hb
    go_wp2_with fail
    go_ret
    exact ⟨ret_bool HV.out.symm, hbw⟩
  | true =>
    have HV := Lib.hid (show Pil.pv (s, m) = decide (1 ≤ m ∧ m ≤ 99) by simp [Pil.pv, ok])
    rw [ok] at hp
    have HP := Lib.hid hp
    have HB := Lib.hid hB
    clear hp hB ok
    by_cases h1 : 1 ≤ m
    case' pos => by_cases h2 : m ≤ 99
    all_goals
      go_enter Try.func41, Try.ntmps41
      go_wp2_with fail
      refine (HP.out _).mono ?_
      rintro e w1 ⟨A, n, c, rfl, -, hb⟩
      have hbw := Reg.unalloc hb
      obtain ⟨z, c0, c1, -, -⟩ := HB.out _ hb
      clear hb
      go_wp2_with fail
      go_ret
      exact ⟨ret_bool (by rw [HV.out]; simp; omega), hbw⟩

theorem sPile_any (s : ByteArray) (m : Int) (W : World) (hs : s.size ≤ 4194304) :
    Calls Try.prog 53 #[.agg #[.string s, .int .i64 m]] W fun e w' => e = .returned (.bool (Pil.pv (s, m))) ∧ Below W.heap.size W w' := by
  have hp := fun w => sBallotParse_any s w hs
  have hB := fun (w : World) (hb : Below (W.alloc (.cells #[.string s, .int .i64 m] 44)).heap.size (W.alloc (.cells #[.string s, .int .i64 m] 44)) w) => Reg.newbox hb
  cases ok : Bal.okT s.data.toList with
  | false =>
    have HV := Lib.hid (show Pil.pv (s, m) = false by simp [Pil.pv, ok])
    rw [ok] at hp
    have HP := Lib.hid hp
    have HB := Lib.hid hB
    clear hp hB ok
    go_enter Try.func53, Try.ntmps53
    go_wp2_with fail
    refine (HP.out _).mono ?_
    rintro e w1 ⟨A, n, c, rfl, -, hb⟩
    have hbw := Reg.unalloc hb
    obtain ⟨z, c0, c1, -, -⟩ := HB.out _ hb
    clear hb
    go_wp2_with fail
    go_ret
    exact ⟨ret_bool HV.out.symm, hbw⟩
  | true =>
    have hv : Pil.pv (s, m) = decide (1 ≤ m ∧ m ≤ 99) := by simp [Pil.pv, ok]
    rw [ok] at hp
    have HP := Lib.hid hp
    have HB := Lib.hid hB
    clear hp hB ok
    by_cases h1 : 1 ≤ m ∧ m ≤ 99
    · have HV := Lib.hid (hv.trans (decide_eq_true h1))
      have HI := Lib.hid (fun w => l6In_t m 1 99 w h1)
      clear hv
      go_enter Try.func53, Try.ntmps53
      go_wp2_with fail
      refine (HP.out _).mono ?_
      rintro e w1 ⟨A, n, c, rfl, -, hb⟩
      have hbw := Reg.unalloc hb
      obtain ⟨z, c0, c1, -, -⟩ := HB.out _ hb
      clear hb
      go_wp2_with fail
      refine (HI.out _).mono ?_
      rintro e w2 ⟨rfl, rfl⟩
      go_wp2_with fail
      go_ret
      exact ⟨ret_bool HV.out.symm, hbw⟩
    · have HV := Lib.hid (hv.trans (decide_eq_false h1))
      have HI := Lib.hid (fun w => l6In_f m 1 99 w h1)
      clear hv h1
      go_enter Try.func53, Try.ntmps53
      go_wp2_with fail
      refine (HP.out _).mono ?_
      rintro e w1 ⟨A, n, c, rfl, -, hb⟩
      have hbw := Reg.unalloc hb
      obtain ⟨z, c0, c1, -, -⟩ := HB.out _ hb
      clear hb
      go_wp2_with fail
      refine (HI.out _).mono ?_
      rintro e w2 ⟨rfl, rfl⟩
      go_wp2_with fail
      go_ret
      exact ⟨ret_bool HV.out.symm, hbw⟩
end Go.Proofs.Ytlfgmljgoolbeaa
