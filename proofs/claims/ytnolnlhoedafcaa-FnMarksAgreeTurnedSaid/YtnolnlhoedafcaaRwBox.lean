/- Rows that lie in a box of one slice, and of three. -/
import Derived.Test.YtnolnlhoedafcaaRwDraw
import Derived.Test.YtnolnlhoedafcaaRwLaws
import Derived.Test.YtnolnlhoedafcaaLawKit
namespace Go.Proofs.Ytnolnlhoedafcaa
open Go.RowKit
set_option linter.unusedSimpArgs false

theorem rd_box1 {W : World} {B n c : Nat} {A : Option Addr} {xs : List Int} (h : OwA W B A n c xs) (T : TypeId) : RdR (W.alloc (.cells #[.slice A n c] T)) (W.alloc (.cells #[.slice A n c] T)).heap.size (some ⟨W.heap.size, 0, none⟩) 1 [xs] := by
  obtain rfl : n = xs.length := h.len.symm
  refine ⟨rfl, fun _ => ⟨W.heap.size, 0, rfl, by simp, fun j hj => ?_⟩⟩
  obtain rfl : j = 0 := by simp at hj; omega
  exact ⟨A, c, by simp [go_sem], (h.alloc _).rd, h.cap.1, h.cap.2⟩
theorem rd_box3 {W : World} {B n c : Nat} {A : Option Addr} {xs : List Int} (h : OwA W B A n c xs) (T : TypeId) : RdR (W.alloc (.cells #[.slice A n c, .slice A n c, .slice A n c] T)) (W.alloc (.cells #[.slice A n c, .slice A n c, .slice A n c] T)).heap.size (some ⟨W.heap.size, 0, none⟩) 3 [xs, xs, xs] := by
  obtain rfl : n = xs.length := h.len.symm
  refine ⟨rfl, fun _ => ⟨W.heap.size, 0, rfl, by simp, fun j hj => ?_⟩⟩
  have hj3 : j < 3 := by simpa using hj
  rcases (show j = 0 ∨ j = 1 ∨ j = 2 by omega) with rfl | rfl | rfl
  all_goals exact ⟨A, c, by simp [go_sem], (h.alloc _).rd, h.cap.1, h.cap.2⟩
end Go.Proofs.Ytnolnlhoedafcaa
