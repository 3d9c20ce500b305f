/- A slice of bools that is read as a list; toBoolS copies it, eqBoolS compares two. -/
import Derived.Test.YtcheobglpbackaaBaText
namespace Go.Proofs.Ytcheobglpbackaa
open Go.RowKit

/-- the slice at A, of n elements, reads as xs and lies below block B -/
def RdB (W : World) (B : Nat) (A : Option Addr) (n : Nat) (xs : List Bool) : Prop :=
  xs.length = n ∧ (0 < n → ∃ b off, A = some ⟨b, off, none⟩ ∧ b < B ∧ ∀ j, j < n → W.cell? ⟨b, off + j, none⟩ = some (.bool (xs.getD j false)))
section
variable {W W' : World} {B B' n : Nat} {A : Option Addr} {xs : List Bool}
theorem RdB.len (h : RdB W B A n xs) : xs.length = n := h.1
theorem RdB.nil : RdB W B A 0 [] := ⟨rfl, fun h => absurd h (by omega)⟩
theorem RdB.keep (h : RdB W B A n xs) (hk : ∀ b o, b < B → W'.cell? ⟨b, o, none⟩ = W.cell? ⟨b, o, none⟩) : RdB W' B A n xs :=
  ⟨h.1, fun hn => by
    obtain ⟨b, off, e, hb, hc⟩ := h.2 hn
    exact ⟨b, off, e, hb, fun j hj => (hk b _ hb).trans (hc j hj)⟩⟩
theorem RdB.more (h : RdB W B A n xs) (hB : B ≤ B') : RdB W B' A n xs :=
  ⟨h.1, fun hn => by
    obtain ⟨b, off, e, hb, hc⟩ := h.2 hn
    exact ⟨b, off, e, by omega, hc⟩⟩
theorem RdB.below (h : RdB W B A n xs) (hb : Below B W W') : RdB W' B A n xs := h.keep fun b o hlt => hb.cell (p := ⟨b, o, none⟩) hlt
theorem RdB.drewN (h : RdB W B A n xs) (k : Nat) : RdB (W.drewN k) B A n xs := h
theorem RdB.at_ {k : Nat} (h : RdB W B A n xs) (hk : k < n) : ∃ b off, A = some ⟨b, off, none⟩ ∧ b < B ∧ W.cell? ⟨b, off + k, none⟩ = some (.bool (xs.getD k false)) := by
  obtain ⟨b, off, e, hb, hc⟩ := h.2 (by omega)
  exact ⟨b, off, e, hb, hc k hk⟩
end

theorem OwnC.rdB {W : World} {g : Nat} {xs : List Bool} {T : TypeId} (h : OwnC W g T (xs.map Value.bool)) (B : Nat) (hB : g < B) (n : Nat) (hn : xs.length = n) : RdB W B (some ⟨g, 0, none⟩) n xs :=
  ⟨hn, fun _ => ⟨g, 0, rfl, hB, fun j hj => by
    rw [Nat.zero_add, h.cell j, List.getElem?_map, List.getD_eq_getElem?_getD, List.getElem?_eq_getElem (by omega)]
    rfl⟩⟩
theorem OwnC.below {W W' : World} {g B : Nat} {T : TypeId} {vs : List Value} (h : OwnC W g T vs) (hb : Below B W W') (hg : g < B) : OwnC W' g T vs := (hb.block g hg).trans h

theorem bool_info : (Try.prog.info? 4).map (fun i => (i.zero, i.size, i.bytes)) = some (some (.bool false), 1, 1) := by kernel_rfl
theorem run_make_bools (n : Nat) (hn : n ≤ 4194304) (w : World) :
    (Instr.makeSlice 35 (.int .i64 (n : Int)) (.int .i64 (n : Int))).run Try.prog w = .ok (.slice (some ⟨w.heap.size, 0, none⟩) n n) (w.alloc (.cells (madeCells #[Value.bool false] n) 4)) := by
  obtain ⟨i, hi, hz, hs, hb⟩ := info_parts bool_info
  have h := run_make (P := Try.prog) w 35 4 i _ Try.underlying35 hi hz .i64 .i64 (n : Int) (n : Int) (by omega) (by omega) (by rw [hb]; omega) (by omega)
  rw [hs] at h
  simpa [Value.cells] using h
theorem madeB (w : World) (n : Nat) : OwnC (w.alloc (.cells (madeCells #[Value.bool false] n) 4)) w.heap.size 4 (List.replicate n (.bool false)) := by
  unfold OwnC
  rw [heap_alloc_new]
  congr 2
  apply Array.ext_getElem?
  intro i
  simp only [madeCells]
  simp
  by_cases hi : i < n <;> simp [hi, Nat.mod_one]
def fillB (b : List Bool) (k : Nat) : List Value := (b.take k).map Value.bool ++ List.replicate (b.length - k) (.bool false)
theorem fillB_zero (b : List Bool) : fillB b 0 = List.replicate b.length (.bool false) := by simp [fillB]
theorem fillB_all (b : List Bool) (k : Nat) (h : k = b.length) : fillB b k = b.map Value.bool := by subst h; simp [fillB]
theorem fillB_set (b : List Bool) (k : Nat) (h : k < b.length) : (fillB b k).set k (.bool (b.getD k false)) = fillB b (k + 1) := by
  unfold fillB
  have hl : ((b.take k).map Value.bool).length = k := by simp; omega
  rw [List.set_append_right _ _ (by omega), hl, Nat.sub_self]
  have e : b.length - k = (b.length - (k + 1)) + 1 := by omega
  rw [e, List.replicate_succ, List.set_cons_zero, Bal.take_succ_get b k h, List.map_append, List.append_assoc, List.getD_eq_getElem?_getD, List.getElem?_eq_getElem h]
  rfl
theorem fillB_at (b : List Bool) (k : Nat) (h : k < b.length) : (fillB b k)[k]? = some (.bool false) := by
  unfold fillB
  have hl : ((b.take k).map Value.bool).length = k := by simp; omega
  rw [List.getElem?_append_right (by omega), hl, Nat.sub_self, List.getElem?_replicate, if_pos (by omega)]

theorem toBoolS_any (A : Option Addr) (n c : Nat) (xs : List Bool) (W : World) (h : RdB W W.heap.size A n xs) (hn : n ≤ 4194304) :
    Calls Try.prog 28 #[.slice A n c] W fun e w' => e = .returned (.slice (some ⟨W.heap.size, 0, none⟩) n n) ∧ OwnC w' W.heap.size 4 (xs.map Value.bool) ∧ Below W.heap.size W w' := by
  have hmk := run_make_bools n hn
  have HL := Lib.hid h.1
  have HM := Lib.hid (madeB W n)
  go_enter Try.func28, Try.ntmps28
  go_wp2_with fail
  clear hmk
  go_loopw [4] (fun i wr => ∃ k : Nat, k ≤ n ∧ i = .int .i64 k ∧ OwnC wr W.heap.size 4 (fillB xs k) ∧ Below W.heap.size W wr) (fun i _ => n - (intOf i).toNat)
  case atStart => exact ⟨0, Nat.zero_le _, rfl, by rw [fillB_zero, HL.out]; exact HM.out, (Below.refl _ _).alloc (Nat.le_refl _) _⟩
  case round =>
    obtain ⟨k, hk, rfl, ho, hb⟩ := hrel
    have HO := Lib.hid ho
    clear ho
    by_cases hlt : k < n
    · have hk' : k < xs.length := by have := HL.out; omega
      obtain ⟨b, off, rfl, hbB, hcell⟩ := (h.below hb).at_ hlt
      have hlt' : (k : Int) < (n : Int) := by omega
      have hf := HO.out.frozen k
      have hcl := HO.out.cell k
      rw [fillB_at xs k hk'] at hcl
      have HS := Lib.hid (HO.out.set_ k (.bool (xs.getD k false)))
      have HF := Lib.hid (fillB_set xs k hk')
      clear h
      generalize xs.getD k false = y at hcell HS HF
      go_wp2_with fail
      go_roundw
      case rel => exact ⟨k + 1, by omega, by go_num, by rw [← HF.out]; exact HS.out, hb.setCell (Nat.le_refl _) _⟩
      case measure => simp [intOf]; omega
    · have hlt' : ¬ (k : Int) < (n : Int) := by omega
      clear h
      go_wp2_with fail
      go_ret
      have h1 := HO.out
      rw [fillB_all xs k (by have := HL.out; omega)] at h1
      exact ⟨rfl, h1, hb⟩

/-- eqBoolS at equal lists: it reads; it may draw. -/
theorem eqBoolS_same (A A' : Option Addr) (n c c' : Nat) (xs : List Bool) (W : World) (B B' : Nat) (h : RdB W B A n xs) (h' : RdB W B' A' n xs) (hn : n ≤ 4194304) :
    Calls Try.prog 30 #[.slice A n c, .slice A' n c'] W fun e w' => e = .returned (.bool true) ∧ ∃ q, w' = W.drewN q := by
  have hne : ((n : Int) != (n : Int)) = false := by simp
  go_enter Try.func30, Try.ntmps30
  go_wp2_with fail
  go_loopw [5] (fun i wr => ∃ k q : Nat, k ≤ n ∧ i = .int .i64 k ∧ wr = W.drewN q) (fun i _ => n - (intOf i).toNat)
  case atStart => exact ⟨0, 0, Nat.zero_le _, rfl, rfl⟩
  case round =>
    obtain ⟨k, q, hk, rfl, hwq⟩ := hrel
    have r1 : RdB wr B A n xs := by rw [hwq]; exact h.drewN q
    have r2 : RdB wr B' A' n xs := by rw [hwq]; exact h'.drewN q
    have HW := Lib.hid hwq
    clear hwq
    by_cases hlt : k < n
    · obtain ⟨b, off, rfl, hbB, hcell⟩ := r1.at_ hlt
      obtain ⟨b', off', rfl, hbB', hcell'⟩ := r2.at_ hlt
      have hlt' : (k : Int) < (n : Int) := by omega
      have hk0 : (0 : Int) ≤ (k : Int) := by omega
      clear h h' r1 r2
      generalize xs.getD k false = y at hcell hcell'
      go_wp2_with fail
      go_quiet (fail)
      go_wp2_with fail
      go_roundw
      case rel => exact ⟨k + 1, q + nq, by omega, by go_num, by rw [HW.out]; exact World.drewN_drewN _ _ _⟩
      case measure => simp [intOf]; omega
    · have hlt' : ¬ (k : Int) < (n : Int) := by omega
      clear h h' r1 r2
      go_wp2_with fail
      go_ret
      exact ⟨rfl, q, HW.out⟩
end Go.Proofs.Ytcheobglpbackaa
