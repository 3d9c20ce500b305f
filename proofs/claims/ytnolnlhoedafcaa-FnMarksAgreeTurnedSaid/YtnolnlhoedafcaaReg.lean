/- Small lemmas for a walk over calls that make memory: what stood below stays; a box made just ahead of a call. -/
import Derived.Test.YtnolnlhoedafcaaRows
import Derived.WalkKit
import Derived.WalkSpells
import Derived.WalkLawsBesides
import Derived.Handy
import Derived.Lib.Hide
import Derived.BigQuiet
import Derived.Deep.QuietTactic
import Derived.Deep.RegionHeld3
import Derived.Deep.DeepCutAuto
import Derived.Deep.DeepMust
import Derived.RegionTactic
namespace Go.Proofs.Ytnolnlhoedafcaa.Reg
open Go.RowKit

theorem drewN {B : Nat} {a w : World} (h : Below B a w) (n : Nat) : Below B a (w.drewN n) := ⟨h.os, h.tape, h.output, h.size, h.block⟩
theorem undrew {W w1 : World} (h : Below W.drew.heap.size W.drew w1) : Below W.heap.size W w1 := ⟨h.os, h.tape, h.output, h.size, h.block⟩
theorem undrewN {W w1 : World} {n : Nat} (h : Below (W.drewN n).heap.size (W.drewN n) w1) : Below W.heap.size W w1 := ⟨h.os, h.tape, h.output, h.size, h.block⟩
theorem unalloc {W w1 : World} {o : Obj} (h : Below (W.alloc o).heap.size (W.alloc o) w1) : Below W.heap.size W w1 := ((Below.refl _ _).alloc (Nat.le_refl _) o).trans (h.mono (by simp))
theorem keepc {W w1 : World} {b o : Nat} {v : Value} (hb : Below W.heap.size W w1) (hlt : b < W.heap.size) (h : W.cell? ⟨b, o, none⟩ = some v) : w1.cell? ⟨b, o, none⟩ = some v :=
  (hb.cell (p := ⟨b, o, none⟩) hlt).trans h
theorem keepf {W w1 : World} {b o : Nat} {v : Bool} (hb : Below W.heap.size W w1) (hlt : b < W.heap.size) (h : W.frozen? ⟨b, o, none⟩ = v) : w1.frozen? ⟨b, o, none⟩ = v :=
  (hb.frozen (p := ⟨b, o, none⟩) hlt).trans h
theorem keepa {W : World} {b o : Nat} {v : Value} {O : Obj} (hlt : b < W.heap.size) (h : W.cell? ⟨b, o, none⟩ = some v) : (W.alloc O).cell? ⟨b, o, none⟩ = some v :=
  (World.cell?_alloc_lt W O ⟨b, o, none⟩ hlt).trans h
theorem keeps {W : World} {b o : Nat} {v x : Value} {p : Addr} (hne : b ≠ p.block) (h : W.cell? ⟨b, o, none⟩ = some v) : (W.setCell p x).cell? ⟨b, o, none⟩ = some v :=
  (World.cell?_setCell_other W p ⟨b, o, none⟩ x (fun e => hne (by rw [e]))).trans h
theorem realloc {W : World} {b o : Nat} {v : Value} {O O' : Obj} (hlt : b < W.heap.size) (h : (W.alloc O).cell? ⟨b, o, none⟩ = some v) : (W.alloc O').cell? ⟨b, o, none⟩ = some v :=
  keepa hlt ((World.cell?_alloc_lt W O ⟨b, o, none⟩ hlt).symm.trans h)
theorem reallocB {B : Nat} {a W : World} {O O' : Obj} (hB : B ≤ W.heap.size) (h : Below B a (W.alloc O)) : Below B a (W.alloc O') :=
  ⟨h.os, h.tape, h.output, by have := h.size; simp at this ⊢; omega, fun k hk => (Below.heap_alloc W O' k (by omega)).trans ((Below.heap_alloc W O k (by omega)).symm.trans (h.block k hk))⟩
/-- a box of two cells that was made just ahead of a call -/
theorem newbox {W w1 : World} {a b : Value} {T : TypeId} (h : Below (W.alloc (.cells #[a, b] T)).heap.size (W.alloc (.cells #[a, b] T)) w1) :
    W.heap.size < w1.heap.size ∧ w1.cell? ⟨W.heap.size, 0, none⟩ = some a ∧ w1.cell? ⟨W.heap.size, 1, none⟩ = some b ∧ w1.frozen? ⟨W.heap.size, 0, none⟩ = false ∧ w1.frozen? ⟨W.heap.size, 1, none⟩ = false := by
  refine ⟨by have := h.size; simp at this; omega, (h.cell (p := ⟨_, _, none⟩) (by simp)).trans (by simp [go_sem]), (h.cell (p := ⟨_, _, none⟩) (by simp)).trans (by simp [go_sem]), (h.frozen (p := ⟨_, _, none⟩) (by simp)).trans (by simp [go_sem]), (h.frozen (p := ⟨_, _, none⟩) (by simp)).trans (by simp [go_sem])⟩
theorem boxcarry {W w1 : World} {g : Nat} {a b : Value} (h : Below W.heap.size W w1)
    (q : g < W.heap.size ∧ W.cell? ⟨g, 0, none⟩ = some a ∧ W.cell? ⟨g, 1, none⟩ = some b ∧ W.frozen? ⟨g, 0, none⟩ = false ∧ W.frozen? ⟨g, 1, none⟩ = false) :
    g < w1.heap.size ∧ w1.cell? ⟨g, 0, none⟩ = some a ∧ w1.cell? ⟨g, 1, none⟩ = some b ∧ w1.frozen? ⟨g, 0, none⟩ = false ∧ w1.frozen? ⟨g, 1, none⟩ = false :=
  ⟨Nat.lt_of_lt_of_le q.1 h.size, keepc h q.1 q.2.1, keepc h q.1 q.2.2.1, keepf h q.1 q.2.2.2.1, keepf h q.1 q.2.2.2.2⟩
theorem start2 (w : World) (a b c d : Value) (T T' : TypeId) : ∀ W, W = ((w.alloc (.cells #[a, b] T)).alloc (.cells #[c, d] T')) →
    Below w.heap.size w W ∧ w.heap.size + 1 < W.heap.size ∧ W.cell? ⟨w.heap.size, 0, none⟩ = some a ∧ W.cell? ⟨w.heap.size, 1, none⟩ = some b ∧ W.cell? ⟨w.heap.size + 1, 0, none⟩ = some c ∧ W.cell? ⟨w.heap.size + 1, 1, none⟩ = some d := by
  rintro W rfl
  refine ⟨by go_grown, ?_⟩
  simp [go_sem]
theorem next {w W w1 : World} {k : Nat} (hb : Below W.heap.size W w1) (hw : Below w.heap.size w W) (hk : w.heap.size + k < W.heap.size) : Below w.heap.size w w1 ∧ w.heap.size + k < w1.heap.size :=
  ⟨hw.trans (hb.mono hw.size), by have := hb.size; omega⟩
end Go.Proofs.Ytnolnlhoedafcaa.Reg
