/- A slice of bools that is read as a list; toBoolS copies it, eqBoolS compares two. -/
import Derived.Test.YtpiajeibfggpiaaBaText
namespace Go.Proofs.Ytpiajeibfggpiaa
open Go.RowKit

/-- the slice at A, of n elements, reads as xs and lies below block B -/
def RdB (W : World) (B : Nat) (A : Option Addr) (n : Nat) (xs : List Bool) : Prop :=
  xs.length = n ∧ (0 < n → ∃ b off, A = some ⟨b, off, none⟩ ∧ b < B ∧ ∀ j, j < n → W.cell? ⟨b, off + j, none⟩ = some (.bool (xs.getD j false)))
section
variable {W W' : World} {B B' n : Nat} {A : Option Addr} {xs : List Bool}
theorem RdB.len (h : RdB W B A n xs) : xs.length = n := h.1
theorem RdB.nil : RdB W B A 0 [] := ⟨rfl, fun h => absurd h (by omega)⟩
theorem RdB.keep (h : RdB W B A n xs) (hk : ∀ b o, b < B → W'.cell? ⟨b, o, none⟩ = W.cell? ⟨b, o, none⟩) : RdB W' B A n xs :=
  ⟨h.1, fun hn => by
    obtain ⟨b, off, e, hb, hc⟩ := h.2 hn
    exact ⟨b, off, e, hb, fun j hj => (hk b _ hb).trans (hc j hj)⟩⟩
theorem RdB.more (h : RdB W B A n xs) (hB : B ≤ B') : RdB W B' A n xs :=
  ⟨h.1, fun hn => by
    obtain ⟨b, off, e, hb, hc⟩ := h.2 hn
    exact ⟨b, off, e, by omega, hc⟩⟩
theorem RdB.below (h : RdB W B A n xs) (hb : Below B W W') : RdB W' B A n xs := h.keep fun b o hlt => hb.cell (p := ⟨b, o, none⟩) hlt
theorem RdB.drewN (h : RdB W B A n xs) (k : Nat) : RdB (W.drewN k) B A n xs := h
theorem RdB.at_ {k : Nat} (h : RdB W B A n xs) (hk : k < n) : ∃ b off, A = some ⟨b, off, none⟩ ∧ b < B ∧ W.cell? ⟨b, off + k, none⟩ = some (.bool (xs.getD k false)) := by
  obtain ⟨b, off, e, hb, hc⟩ := h.2 (by omega)
  exact ⟨b, off, e, hb, hc k hk⟩
end

theorem OwnC.rdB {W : World} {g : Nat} {xs : List Bool} {T : TypeId} (h : OwnC W g T (xs.map Value.bool)) (B : Nat) (hB : g < B) (n : Nat) (hn : xs.length = n) : RdB W B (some ⟨g, 0, none⟩) n xs :=
  ⟨hn, fun _ => ⟨g, 0, rfl, hB, fun j hj => by
    rw [Nat.zero_add, h.cell j, List.getElem?_map, List.getD_eq_getElem?_getD, List.getElem?_eq_getElem (by omega)]
    rfl⟩⟩
theorem OwnC.below {W W' : World} {g B : Nat} {T : TypeId} {vs : List Value} (h : OwnC W g T vs) (hb : Below B W W') (hg : g < B) : OwnC W' g T vs := (hb.block g hg).trans h

theorem bool_info : (Try.prog.info? 4).map (fun i => (i.zero, i.size, i.bytes)) = some (some (.bool false), 1, 1) := by kernel_rfl
theorem run_make_bools (n : Nat) (hn : n ≤ 4194304) (w : World) :
    (Instr.makeSlice 39 (.int .i64 (n : Int)) (.int .i64 (n : Int))).run Try.prog w = .ok (.slice (some ⟨w.heap.size, 0, none⟩) n n) (w.alloc (.cells (madeCells #[Value.bool false] n) 4)) := by
  obtain ⟨i, hi, hz, hs, hb⟩ := info_parts bool_info
  have h := run_make (P := Try.prog) w 39 4 i _ Try.underlying39 hi hz .i64 .i64 (n : Int) (n : Int) (by omega) (by omega) (by rw [hb]; omega) (by omega)
  rw [hs] at h
  simpa [Value.cells] using h
theorem madeB (w : World) (n : Nat) : OwnC (w.alloc (.cells (madeCells #[Value.bool false] n) 4)) w.heap.size 4 (List.replicate n (.bool false)) := by
  unfold OwnC
  rw [heap_alloc_new]
  congr 2
  apply Array.ext_getElem?
  intro i
  simp only [madeCells]
  simp
  by_cases hi : i < n <;> simp [hi, Nat.mod_one]
def fillB (b : List Bool) (k : Nat) : List Value := (b.take k).map Value.bool ++ List.replicate (b.length - k) (.bool false)
theorem fillB_zero (b : List Bool) : fillB b 0 = List.replicate b.length (.bool false) := by simp [fillB]
theorem fillB_all (b : List Bool) (k : Nat) (h : k = b.length) : fillB b k = b.map Value.bool := by subst h; simp [fillB]
theorem fillB_set (b : List Bool) (k : Nat) (h : k < b.length) : (fillB b k).set k (.bool (b.getD k false)) = fillB b (k + 1) := by
  unfold fillB
  have hl : ((b.take k).map Value.bool).length = k := by simp; omega
  rw [List.set_append_right _ _ (by omega), hl, Nat.sub_self]
  have e : b.length - k = (b.length - (k + 1)) + 1 := by omega
  rw [e, List.replicate_succ, List.set_cons_zero, Bal.take_succ_get b k h, List.map_append, List.append_assoc, List.getD_eq_getElem?_getD, List.getElem?_eq_getElem h]
  rfl
theorem fillB_at (b : List Bool) (k : Nat) (h : k < b.length) : (fillB b k)[k]? = some (.bool false) := by
  unfold fillB
  have hl : ((b.take k).map Value.bool).length = k := by simp; omega
  rw [List.getElem?_append_right (by omega), hl, Nat.sub_self, List.getElem?_replicate, if_pos (by omega)]


end Go.Proofs.Ytpiajeibfggpiaa
