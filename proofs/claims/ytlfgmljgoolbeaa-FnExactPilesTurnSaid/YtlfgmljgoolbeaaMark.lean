/- markIntS writes numbers one after the other into a slice that the call owns; heldIntS reads them again. -/
import Derived.Test.YtlfgmljgoolbeaaOwn
namespace Go.Proofs.Ytlfgmljgoolbeaa
open Go.RowKit

/-- n numbers from k on -/
def marks (k : Int) (n : Nat) : List Int := (List.range n).map fun (i : Nat) => k + (i : Int)
theorem marks_len (k : Int) (n : Nat) : (marks k n).length = n := by simp [marks]
theorem marks_at (k : Int) (n i : Nat) (h : i < n) : (marks k n).getD i 0 = k + i := by
  rw [List.getD_eq_getElem?_getD, marks, List.getElem?_map, List.getElem?_range h]
  rfl
/-- the first j are marked -/
def marked (xs : List Int) (k : Int) (j : Nat) : List Int := marks k j ++ xs.drop j
theorem marked_zero (xs : List Int) (k : Int) : marked xs k 0 = xs := by simp [marked, marks]
theorem marked_all (xs : List Int) (k : Int) (n : Nat) (h : xs.length = n) : marked xs k n = marks k n := by simp [marked, ← h]
theorem marked_len (xs : List Int) (k : Int) (j : Nat) (h : j ≤ xs.length) : (marked xs k j).length = xs.length := by simp [marked, marks_len]; omega
theorem marked_set (xs : List Int) (k : Int) (j : Nat) (h : j < xs.length) : (marked xs k j).set j (k + j) = marked xs k (j + 1) := by
  unfold marked
  rw [List.set_append_right _ _ (by rw [marks_len]; omega), marks_len, Nat.sub_self, ← List.getElem_cons_drop h, List.set_cons_zero]
  have e : marks k (j + 1) = marks k j ++ [k + (j : Int)] := by simp [marks, List.range_succ]
  rw [e, List.append_assoc]
  rfl

theorem grown_set {W : World} {g : Nat} (k : Nat) (v : Value) : W.grownBy (W.setCell ⟨g, k, none⟩ v) (some g) :=
  ⟨rfl, rfl, rfl, by simp [World.setCell], fun i _ hne => Below.heap_setCell W ⟨g, k, none⟩ v i (fun e => hne (by rw [e]))⟩
theorem grown_trans {a b c : World} {r : Option Nat} (h : a.grownBy b r) (k : b.grownBy c r) : a.grownBy c r :=
  ⟨k.os.trans h.os, k.tape.trans h.tape, k.output.trans h.output, Nat.le_trans h.size k.size, fun i hi hne => (k.block i (Nat.lt_of_lt_of_le hi h.size) hne).trans (h.block i hi hne)⟩



end Go.Proofs.Ytlfgmljgoolbeaa
