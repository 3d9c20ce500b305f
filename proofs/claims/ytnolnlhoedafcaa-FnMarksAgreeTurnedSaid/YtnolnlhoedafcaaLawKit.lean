/- What the walks of the exact laws share: contracts whose world is told by Below alone; what is carried over a call. -/
import Derived.Test.YtnolnlhoedafcaaMark
import Derived.Test.YtnolnlhoedafcaaKit
import Derived.Test.YtnolnlhoedafcaaRows2
namespace Go.Proofs.Ytnolnlhoedafcaa
open Go.RowKit

theorem quiet_below {P : Program} {f : FuncId} {args : Array Value} {W : World} {R : Ending → Prop} (h : Calls P f args W fun e w' => R e ∧ ∃ q, w' = W.drewN q) : Calls P f args W fun e w' => R e ∧ Below W.heap.size W w' :=
  h.mono fun _ _ ⟨he, q, hq⟩ => ⟨he, by rw [hq]; exact Reg.drewN (Below.refl _ _) q⟩
theorem same_below {P : Program} {f : FuncId} {args : Array Value} {W : World} {R : Ending → Prop} (h : Calls P f args W fun e w' => R e ∧ W = w') : Calls P f args W fun e w' => R e ∧ Below W.heap.size W w' :=
  h.mono fun _ _ ⟨he, hq⟩ => ⟨he, by rw [← hq]; exact Below.refl _ _⟩

theorem OwA.rdB {W : World} {B n c : Nat} {A : Option Addr} {xs : List Int} (h : OwA W B A n c xs) (B' : Nat) (hB : W.heap.size ≤ B') : RdI W B' A n xs := h.rd.more hB
theorem OwA.belowB {W W' : World} {B n c : Nat} {A : Option Addr} {xs : List Int} (h : OwA W B A n c xs) (hB : B ≤ W.heap.size) (hg : W.grownBy W' (Value.ownBlock (.slice A n c))) : Below B W W' := by
  refine (Below.refl _ _).grown hg hB ?_
  intro k hk
  rcases h.parts with ⟨rfl, _, _⟩ | ⟨g', cur, rfl, h2, _⟩
  · simp [Value.ownBlock] at hk
  · simp [Value.ownBlock] at hk; omega
end Go.Proofs.Ytnolnlhoedafcaa
