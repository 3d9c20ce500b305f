/- A region that draws its order, whose operations only read, and whose callees may make memory: one walk, in the class of the worlds that have grown. -/
import Derived.Test.YtnolnlhoedafcaaReg
namespace Go.Proofs.Ytnolnlhoedafcaa
open Go.RowKit

/-- a world in which nothing that W has has turned -/
def Grown (W : World) : Type := { x : World // Below W.heap.size W x }
def Grown.val {W : World} (x : Grown W) : World := Subtype.val x
theorem Grown.below {W : World} (x : Grown W) : Below W.heap.size W x.val := x.property
instance (W : World) : Nonempty (Grown W) := ⟨⟨W, Below.refl _ _⟩⟩
theorem Grown.cell {W : World} (x : Grown W) {b o : Nat} {v : Value} (hb : b < W.heap.size) (h : W.cell? ⟨b, o, none⟩ = some v) : x.val.cell? ⟨b, o, none⟩ = some v :=
  (x.below.cell (p := ⟨b, o, none⟩) hb).trans h
theorem Grown.call {P : Program} {f : FuncId} {args : Array Value} {W : World} {v : Value} (x : Grown W) (h : Calls P f args x.val fun e w' => e = .returned v ∧ Below x.val.heap.size x.val w') :
    Calls P f args x.val fun e w'' => e = .returned v ∧ ∃ y : Grown W, w'' = y.val :=
  h.mono fun _ w' ⟨he, hb⟩ => ⟨he, ⟨w', x.below.trans (hb.mono x.below.size)⟩, rfl⟩
theorem wp_region_grow {P : Program} {rid : Nat} {Q : Exit → Act → World → Prop} {a : Act} {w : World} {l : List Oper} (hm : P.follows .mixedOrders = true) (hB : Region.lexB .any l.toArray = true)
    (h : wpQuiet P l.toArray (fun w' => ∃ x : Grown w, w' = x.val) (fun a' => ∀ w', (∃ x : Grown w, w' = x.val) → Q .normal a' w') l a) : (Code.region rid l.toArray true).wp P Q a w :=
  wp_region_quiet (C := fun w' => ∃ x : Grown w, w' = x.val) hm hB ⟨⟨w.drew, (Below.refl _ _).drew⟩, rfl⟩ (by simpa using h)
end Go.Proofs.Ytnolnlhoedafcaa
