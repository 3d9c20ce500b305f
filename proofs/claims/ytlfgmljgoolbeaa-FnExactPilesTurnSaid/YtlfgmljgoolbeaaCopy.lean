/- A row of numbers that the call owns, known whole; toIntS copies a slice into one, eqIntS compares two slices. -/
import Derived.Test.YtlfgmljgoolbeaaInts
import Derived.Laws.MakeOwn
namespace Go.Proofs.Ytlfgmljgoolbeaa
open Go.RowKit

/-- block g is just the numbers xs -/
def OwnI (W : World) (g : Nat) (xs : List Int) : Prop := W.heap[g]? = some (.cells (xs.map (Value.int .i64)).toArray 3 (0, 0))

section
variable {W W' : World} {g : Nat} {xs : List Int}
theorem OwnI.lt (h : OwnI W g xs) : g < W.heap.size := by
  rcases Nat.lt_or_ge g W.heap.size with hl | hg
  · exact hl
  · unfold OwnI at h; rw [Array.getElem?_eq_none hg] at h; cases h
theorem OwnI.cell (h : OwnI W g xs) (k : Nat) (hk : k < xs.length) : W.cell? ⟨g, k, none⟩ = some (.int .i64 xs[k]) := by
  rw [cell_of_row W g k _ 3 (0, 0) h]
  simp [hk]
theorem OwnI.frozen (h : OwnI W g xs) (k : Nat) : W.frozen? ⟨g, k, none⟩ = false := by
  unfold OwnI at h
  simp [World.frozen?, h]
theorem OwnI.set_ (h : OwnI W g xs) (k : Nat) (v : Int) : OwnI (W.setCell ⟨g, k, none⟩ (.int .i64 v)) g (xs.set k v) := by
  unfold OwnI at h ⊢
  simp [World.setCell, Array.getElem?_modify, h, List.map_set]
theorem OwnI.keep (h : OwnI W g xs) (hk : W'.heap[g]? = W.heap[g]?) : OwnI W' g xs := hk.trans h
theorem OwnI.below {B : Nat} (h : OwnI W g xs) (hb : Below B W W') (hg : g < B) : OwnI W' g xs := h.keep (hb.block g hg)
theorem OwnI.rd (h : OwnI W g xs) (B : Nat) (hB : g < B) (n : Nat) (hn : xs.length = n) : RdI W B (some ⟨g, 0, none⟩) n xs :=
  ⟨hn, fun _ => ⟨g, 0, rfl, hB, fun j hj => by
    rw [Nat.zero_add, h.cell j (by omega), List.getD_eq_getElem?_getD, List.getElem?_eq_getElem (by omega)]
    rfl⟩⟩
end

theorem made (w : World) (n : Nat) : OwnI (w.alloc (.cells (madeCells #[Value.int .i64 0] n) 3)) w.heap.size (List.replicate n 0) := by
  unfold OwnI
  rw [heap_alloc_new]
  congr 2
  apply Array.ext_getElem?
  intro i
  simp only [madeCells]
  simp
  by_cases hi : i < n <;> simp [hi, Nat.mod_one]

theorem int_info : (Try.prog.info? 3).map (fun i => (i.zero, i.size, i.bytes)) = some (some (.int .i64 0), 1, 8) := by kernel_rfl

theorem run_make_ints (n : Nat) (hn : n ≤ 4194304) (w : World) :
    (Instr.makeSlice 59 (.int .i64 (n : Int)) (.int .i64 (n : Int))).run Try.prog w = .ok (.slice (some ⟨w.heap.size, 0, none⟩) n n) (w.alloc (.cells (madeCells #[Value.int .i64 0] n) 3)) := by
  obtain ⟨i, hi, hz, hs, hb⟩ := info_parts int_info
  have h := run_make (P := Try.prog) w 59 3 i _ Try.underlying59 hi hz .i64 .i64 (n : Int) (n : Int) (by omega) (by omega) (by rw [hb]; omega) (by omega)
  rw [hs] at h
  simpa [Value.cells] using h

/-- the first k of xs, then zeros -/
def fill (xs : List Int) (k : Nat) : List Int := xs.take k ++ List.replicate (xs.length - k) 0
theorem fill_zero (xs : List Int) : fill xs 0 = List.replicate xs.length 0 := by simp [fill]
theorem fill_len (xs : List Int) (k : Nat) (h : k ≤ xs.length) : (fill xs k).length = xs.length := by simp [fill]; omega
theorem fill_all (xs : List Int) : fill xs xs.length = xs := by simp [fill]
theorem fill_set (xs : List Int) (k : Nat) (h : k < xs.length) : (fill xs k).set k xs[k] = fill xs (k + 1) := by
  apply List.ext_getElem?
  intro i
  unfold fill
  rw [List.getElem?_set]
  by_cases hi : k = i
  · subst hi
    rw [if_pos rfl, if_pos (by simp; omega), List.getElem?_append_left (by simp; omega), List.getElem?_take, if_pos (by omega), List.getElem?_eq_getElem h]
  · rw [if_neg hi]
    by_cases h2 : i < k
    · rw [List.getElem?_append_left (by simp; omega), List.getElem?_append_left (by simp; omega), List.getElem?_take, List.getElem?_take, if_pos h2, if_pos (by omega)]
    · rw [List.getElem?_append_right (by simp; omega), List.getElem?_append_right (by simp; omega), List.getElem?_replicate, List.getElem?_replicate]
      simp
      by_cases h3 : i < xs.length
      · rw [if_pos (by omega), if_pos (by omega)]
      · rw [if_neg (by omega), if_neg (by omega)]

theorem take_eq_succ {xs ys : List Int} {k : Nat} (h1 : k < xs.length) (h2 : k < ys.length) (h : xs.take k = ys.take k) (hv : xs[k] = ys[k]) : xs.take (k + 1) = ys.take (k + 1) := by
  rw [List.take_succ_eq_append_getElem h1, List.take_succ_eq_append_getElem h2, h, hv]
theorem ne_of_at {xs ys : List Int} {k : Nat} (h1 : k < xs.length) (h2 : k < ys.length) (hv : ¬ xs[k] = ys[k]) : ¬ xs = ys := by
  rintro rfl
  exact hv rfl



end Go.Proofs.Ytlfgmljgoolbeaa
