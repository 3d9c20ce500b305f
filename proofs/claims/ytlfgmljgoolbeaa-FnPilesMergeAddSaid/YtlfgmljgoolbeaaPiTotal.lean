/- PilesTotal, of the program and of the reference. -/
import Derived.Test.YtlfgmljgoolbeaaPiValid
namespace Go.Proofs.Ytlfgmljgoolbeaa
open Go.RowKit
set_option linter.unusedSimpArgs false

theorem ret_num {k : IntKind} {a b : Int} (h : a = b) : Ending.returned (.int k a) = .returned (.int k b) := by rw [h]
theorem total_snoc {ps : List Pil.Pl} {k : Nat} (hk : k < ps.length) : Pil.total (ps.take (k + 1)) = Pil.total (ps.take k) + ps[k].2 := by
  have e : ∀ a : List Pil.Pl, ∀ p, Pil.total (a ++ [p]) = Pil.total a + p.2 := by
    intro a p
    induction a with
    | nil => simp [Pil.total]
    | cons q a ih => simp only [List.cons_append, Pil.total]; omega
  rw [Bal.take_succ_get ps k hk, e]
theorem total_take {ps : List Pil.Pl} (h : Pil.plv ps = true) (k : Nat) : 0 ≤ Pil.total (ps.take k) ∧ Pil.total (ps.take k) ≤ 1188 := Pil.plv_total (Pil.plv_take h k)

set_option maxHeartbeats 1600000 in
theorem iPilesTotal_any (A : Option Addr) (n c : Nat) (ps : List Pil.Pl) (W : World) (h : RdP W W.heap.size A n ps) (hn : n ≤ 4194304) (hS : ∀ p ∈ ps, p.1.size ≤ 4194304) :
    Calls Try.prog 20 #[.slice A n c] W fun e w' => e = .returned (.int .i64 (Pil.ptot ps)) ∧ Below W.heap.size W w' := by
  have hv := iPilesValid_any A n c ps W h hn hS
  have HL := Lib.hid h.len
  cases hp : Pil.plv ps with
  | false =>
    have HV := Lib.hid (bool_to hv hp)
    have HR := Lib.hid (show Pil.ptot ps = -1 by simp [Pil.ptot, hp])
    clear hv hp h hS
    go_enter Try.func20, Try.ntmps20
    go_wp2_with fail
    refine HV.out.mono ?_
    rintro e w1 ⟨rfl, hb⟩
    go_wp2_with fail
    go_ret
    exact ⟨ret_num HR.out.symm, hb⟩
  | true =>
    have HV := Lib.hid (bool_to hv hp)
    have HR := Lib.hid (show Pil.ptot ps = Pil.total ps by simp [Pil.ptot, hp])
    have HT := Lib.hid (fun k => total_take hp k)
    have HM := Lib.hid (fun k (hk : k < ps.length) => Pil.pv_pos ((Pil.plv_iff.1 hp).1 ps[k] (List.getElem_mem hk)))
    clear hv hp hS
    go_enter Try.func20, Try.ntmps20
    go_wp2_with fail
    refine HV.out.mono ?_
    rintro e w1 ⟨rfl, hb1⟩
    go_wp2_with fail
    go_loopw [3, 11] (fun v i wr => ∃ k : Nat, k ≤ n ∧ i = .int .i64 k ∧ v = .int .i64 (Pil.total (ps.take k)) ∧ Below W.heap.size W wr) (fun _ i _ => n - (intOf i).toNat)
    case atStart => exact ⟨0, Nat.zero_le _, rfl, by simp [Pil.total], hb1⟩
    case round =>
      obtain ⟨k, hk, rfl, rfl, hb⟩ := hrel
      by_cases hlt : k < n
      · have hk' : k < ps.length := by have := HL.out; omega
        obtain ⟨b, off, rfl, hbB, hcell⟩ := (h.below hb).at_ hk'
        obtain ⟨c0, c1⟩ := hcell k hk'
        have hlt' : (k : Int) < (n : Int) := by omega
        have hk0 : (0 : Int) ≤ (k : Int) := by omega
        have HS := Lib.hid (total_snoc hk')
        obtain ⟨t0, t1⟩ := HT.out k
        obtain ⟨m0, m1⟩ := HM.out k hk'
        clear h hcell
        generalize Pil.total (ps.take k) = t at *
        generalize ps[k].1 = s at *
        generalize ps[k].2 = m at *
        go_wp2_with fail
        go_roundw
        case rel => exact ⟨k + 1, by omega, by go_num, by rw [HS.out], hb.alloc hb.size _⟩
        case measure => simp [intOf]; omega
      · have hlt' : ¬ (k : Int) < (n : Int) := by omega
        have hkn : ps.length ≤ k := by have := HL.out; omega
        have hR := HR.out
        rw [← List.take_of_length_le hkn (l := ps)] at hR
        have HR2 := Lib.hid (show Pil.ptot ps = Pil.total (ps.take k) by rw [HR.out, List.take_of_length_le hkn])
        clear h hR
        go_wp2_with fail
        go_ret
        exact ⟨ret_num HR2.out.symm, hb⟩

theorem sTotal_any (A : Option Addr) (n c : Nat) (ps : List Pil.Pl) (W : World) (h : RdP W W.heap.size A n ps) (hn : n ≤ 4194304) (hp : Pil.plv ps = true) :
    Calls Try.prog 54 #[.slice A n c] W fun e w' => e = .returned (.int .i64 (Pil.total ps)) ∧ W = w' := by
  have HL := Lib.hid h.len
  have HT := Lib.hid (fun k => total_take hp k)
  have HM := Lib.hid (fun k (hk : k < ps.length) => Pil.pv_pos ((Pil.plv_iff.1 hp).1 ps[k] (List.getElem_mem hk)))
  clear hp
  go_enter Try.func54, Try.ntmps54
  go_wp2_with fail
  go_loop [3, 4] (fun v i => ∃ k : Nat, k ≤ n ∧ i = .int .i64 k ∧ v = .int .i64 (Pil.total (ps.take k))) (fun _ i => n - (intOf i).toNat)
  case atStart => exact ⟨0, Nat.zero_le _, rfl, by simp [Pil.total]⟩
  case round =>
    obtain ⟨k, hk, rfl, rfl⟩ := hrel
    by_cases hlt : k < n
    · have hk' : k < ps.length := by have := HL.out; omega
      obtain ⟨b, off, rfl, hbB, hcell⟩ := h.at_ hk'
      obtain ⟨c0, c1⟩ := hcell k hk'
      have hlt' : (k : Int) < (n : Int) := by omega
      have hk0 : (0 : Int) ≤ (k : Int) := by omega
      have HS := Lib.hid (total_snoc hk')
      obtain ⟨t0, t1⟩ := HT.out k
      obtain ⟨m0, m1⟩ := HM.out k hk'
      clear h hcell
      generalize Pil.total (ps.take k) = t at *
      generalize ps[k].1 = s at *
      generalize ps[k].2 = m at *
      go_wp2_with fail
      go_round
      case rel => exact ⟨k + 1, by omega, by go_num, by rw [HS.out]⟩
      case measure => simp [intOf]; omega
    · have hlt' : ¬ (k : Int) < (n : Int) := by omega
      have hkn : ps.length ≤ k := by have := HL.out; omega
      have HR2 := Lib.hid (show Pil.total ps = Pil.total (ps.take k) by rw [List.take_of_length_le hkn])
      clear h
      go_wp2_with fail
      go_ret
      exact ⟨ret_num HR2.out.symm, rfl⟩

theorem sPilesTotal_any (A : Option Addr) (n c : Nat) (ps : List Pil.Pl) (W : World) (h : RdP W W.heap.size A n ps) (hn : n ≤ 4194304) (hS : ∀ p ∈ ps, p.1.size ≤ 4194304) :
    Calls Try.prog 31 #[.slice A n c] W fun e w' => e = .returned (.int .i64 (Pil.ptot ps)) ∧ Below W.heap.size W w' := by
  have hv := sPilesValid_any A n c ps W h hn hS
  cases hp : Pil.plv ps with
  | false =>
    have HV := Lib.hid (bool_to hv hp)
    have HR := Lib.hid (show Pil.ptot ps = -1 by simp [Pil.ptot, hp])
    clear hv hp h hS
    go_enter Try.func31, Try.ntmps31
    go_wp2_with fail
    refine HV.out.mono ?_
    rintro e w1 ⟨rfl, hb⟩
    go_wp2_with fail
    go_ret
    exact ⟨ret_num HR.out.symm, hb⟩
  | true =>
    have HV := Lib.hid (bool_to hv hp)
    have HR := Lib.hid (show Pil.ptot ps = Pil.total ps by simp [Pil.ptot, hp])
    have HT := Lib.hid (fun (w1 : World) (hb : Below W.heap.size W w1) => sTotal_any A n c ps w1 ((h.below hb).more hb.size) hn hp)
    clear hv hp hS h
    go_enter Try.func31, Try.ntmps31
    go_wp2_with fail
    refine HV.out.mono ?_
    rintro e w1 ⟨rfl, hb1⟩
    have HT1 := Lib.hid (HT.out w1 hb1)
    go_wp2_with fail
    refine HT1.out.mono ?_
    rintro e w2 ⟨rfl, rfl⟩
    go_wp2_with fail
    go_ret
    exact ⟨ret_num HR.out.symm, hb1⟩
end Go.Proofs.Ytlfgmljgoolbeaa
