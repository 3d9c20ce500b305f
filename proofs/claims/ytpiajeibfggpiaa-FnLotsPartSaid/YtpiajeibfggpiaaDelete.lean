/- slices.Delete of one number, at a slice that the call owns. -/
import Derived.Test.YtpiajeibfggpiaaMark
import Derived.Test.YtpiajeibfggpiaaShelfDel
namespace Go.Proofs.Ytpiajeibfggpiaa
open Go.RowKit Go.Sort

theorem erase_eq (xs : List Int) (i : Nat) : xs.take i ++ xs.drop (i + 1) = xs.eraseIdx i := (List.eraseIdx_eq_take_drop_succ xs i).symm

theorem OwA.put {W : World} {B g n c : Nat} {xs ys : List Int} {d : List Int} (q : Nat) (h : OwA W B (some ⟨g, 0, none⟩) n c xs) (m : Nat) (hm : m ≤ n) (hd : d.length = n) (hy : d.take m = ys) (hl : ys.length = m) :
    OwA (putRow (Value.int .i64) (Sort.ahead W q) g 0 d.toArray) B (some ⟨g, 0, none⟩) m c ys := by
  rcases h.parts with ⟨h1, _⟩ | ⟨g', cur, h1, h2, h3, h4, h5, h6, h7⟩
  · cases h1
  · have e : g' = g := by injection h1 with e; injection e with e1; exact e1.symm
    subst e
    refine ⟨by simpa using hl, .inr ⟨g', c, putCells (Value.int .i64) 0 d.toArray cur, rfl, h2, ?_, by omega, h5, by simpa [putCells] using h6, ?_⟩⟩
    · show ((Sort.ahead W q).heap.modify g' (onCells (putCells (Value.int .i64) 0 d.toArray)))[g']? = _
      rw [Array.getElem?_modify, if_pos rfl]
      show Option.map _ (W.heap[g']?) = _
      rw [h3]
      rfl
    · simp only [Nat.mul_one]
      apply List.ext_getElem?
      intro j
      rw [List.getElem?_take]
      by_cases hj : j < m
      · rw [if_pos hj, Array.getElem?_toList]
        simp only [putCells]
        rw [Array.getElem?_mapIdx]
        have hjc : j < cur.size := by omega
        rw [Array.getElem?_eq_getElem hjc, Option.map_some, if_pos (by simp; omega)]
        have e2 : ys[j]? = d[j]? := by rw [← hy, List.getElem?_take, if_pos hj]
        rw [List.getElem?_map, e2, List.getElem?_eq_getElem (by omega)]
        simp only [Option.map_some, Nat.sub_zero]
        rw [getElem!_pos _ j (by simp; omega)]
        simp
      · rw [if_neg hj, List.getElem?_eq_none (by simp; omega)]

theorem grown_put {W : World} (q g : Nat) (d : Array Int) : W.grownBy (putRow (Value.int .i64) (Sort.ahead W q) g 0 d) (some g) :=
  ⟨rfl, rfl, rfl, by simp, fun k _ hne => by
    show ((Sort.ahead W q).heap.modify g (onCells (putCells (Value.int .i64) 0 d)))[k]? = _
    rw [Array.getElem?_modify, if_neg (fun e => hne (by rw [e]))]
    rfl⟩

theorem delete_any (g n c : Nat) (xs : List Int) (W : World) (B : Nat) (h : OwA W B (some ⟨g, 0, none⟩) n c xs) (i : Nat) (hi : i < n) :
    Calls Try.prog 49 #[.slice (some ⟨g, 0, none⟩) n c, .int .i64 (i : Int), .int .i64 ((i : Int) + 1)] W fun e w' =>
      e = .returned (.slice (some ⟨g, 0, none⟩) (n - 1) c) ∧ OwA w' B (some ⟨g, 0, none⟩) (n - 1) c (xs.eraseIdx i) ∧ W.grownBy w' (some g) := by
  have hl := h.len
  obtain ⟨g', e, _, _, hcell⟩ := h.at_ (by omega)
  have e' : g' = g := by injection e with e; injection e with e1; exact e1.symm
  subst e'
  have hcap := h.cap
  have hc := Try.slices_Delete_int g' 0 c i (i + 1) xs W (fun j hj => by
    have hj' : j < xs.length := by simpa using hj
    have h2 := hcell j (by omega)
    rw [Nat.zero_add, h2.1]
    refine ⟨?_, h2.2⟩
    rw [getElem!_pos _ j hj, List.getD_eq_getElem?_getD, List.getElem?_eq_getElem hj']
    simp) (by omega) (by have := hcap.2; unfold maxLen at this; omega) (by omega) (by omega)
  rw [hl] at hc
  refine hc.mono ?_
  rintro e w' ⟨rfl, q, rfl⟩
  have e1 : n - (i + 1 - i) = n - 1 := by omega
  have e2 : i + 1 - i = 1 := by omega
  rw [e1, e2]
  refine ⟨rfl, ?_, grown_put q g' _⟩
  have hle : (xs.eraseIdx i).length = n - 1 := by rw [List.length_eraseIdx, if_pos (by omega)]; omega
  refine h.put q (n - 1) (by omega) ?_ ?_ hle
  · rw [erase_eq, List.length_append, hle]; simp; omega
  · rw [erase_eq, List.take_append_of_le_length (by omega), List.take_of_length_le (by omega)]
end Go.Proofs.Ytpiajeibfggpiaa
