/- What is known of a slice of bools that came in. -/
import Derived.Test.YtcheobglpbackaaBools
import Derived.Test.YtcheobglpbackaaKit
import Derived.Deep.Grids
namespace Go.Proofs.Ytcheobglpbackaa
open Go.RowKit

/-- a slice of bools that came in: nil, or a row of cells -/
def IsRowB (w : World) (a : Option Addr) (len cap : Nat) (zs : List Bool) : Prop :=
  (a = none ∧ len = 0 ∧ cap = 0 ∧ zs = []) ∨
  ∃ x, a = some x ∧ len ≤ cap ∧ cap ≤ maxLen ∧ zs.length = cap ∧ ∀ i, i < cap → w.cell? (x.add i) = some (.bool (zs.getD i false))
theorem isRowB_of {w : World} {x : Addr} {len cap : Nat} {B : Nat → Bool} (hl : len ≤ cap) (hm : cap ≤ maxLen) (hc : ∀ i, i < cap → w.cell? (x.add i) = some (.bool (B i))) : IsRowB w (some x) len cap ((List.range cap).map B) :=
  .inr ⟨x, rfl, hl, hm, by simp, fun i hi => by rw [hc i hi, List.getD_eq_getElem?_getD, List.getElem?_map, List.getElem?_range hi]; rfl⟩
theorem rdB_of_row {w : World} {a : Option Addr} {len cap : Nat} {z : List Bool} (h : IsRowB w a len cap z) : RdB w w.heap.size a len (z.take len) ∧ len ≤ cap ∧ cap ≤ maxLen := by
  rcases h with ⟨rfl, rfl, rfl, rfl⟩ | ⟨x, rfl, hl, hm, hz, hcell⟩
  · exact ⟨RdB.nil, Nat.le_refl _, by unfold maxLen; omega⟩
  · refine ⟨⟨by simp; omega, fun h0 => ?_⟩, hl, hm⟩
    obtain ⟨b, off, spot⟩ := x
    have hc0 := hcell 0 (by omega)
    have hspot : spot = none := by simpa [Addr.add] using World.cell?_spot hc0
    subst hspot
    have hb : b < w.heap.size := by simpa [Addr.add] using World.block_lt_of_cell? w _ hc0
    refine ⟨b, off, rfl, hb, fun j hj => ?_⟩
    have hj' := hcell j (by omega)
    have e : (⟨b, off, none⟩ : Addr).add j = ⟨b, off + j, none⟩ := by unfold Addr.add; split <;> simp_all
    rw [e] at hj'
    rw [hj', List.getD_eq_getElem?_getD, List.getD_eq_getElem?_getD, List.getElem?_take, if_pos hj]
end Go.Proofs.Ytcheobglpbackaa
