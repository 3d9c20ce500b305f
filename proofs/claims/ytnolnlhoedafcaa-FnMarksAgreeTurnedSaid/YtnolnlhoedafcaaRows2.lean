/- What a slice of numbers that came in reads as. -/
import Derived.Test.YtnolnlhoedafcaaCopy
import Derived.Test.YtnolnlhoedafcaaBaWalk
import Derived.Test.YtnolnlhoedafcaaKit
namespace Go.Proofs.Ytnolnlhoedafcaa
open Go.RowKit

theorem rd_of_row {w : World} {a : Option Addr} {len cap : Nat} {z : List Int} (h : IsRow .i64 w a len cap z) : RdI w w.heap.size a len (z.take len) ∧ len ≤ cap ∧ cap ≤ maxLen := by
  rcases h with ⟨rfl, rfl, rfl, rfl⟩ | ⟨x, rfl, hl, hm, hz, hcell, _⟩
  · exact ⟨RdI.nil, Nat.le_refl _, by unfold maxLen; omega⟩
  · refine ⟨⟨by simp; omega, fun h0 => ?_⟩, hl, hm⟩
    obtain ⟨b, off, spot⟩ := x
    have hc0 := hcell 0 (by omega)
    have hspot : spot = none := by simpa [Addr.add] using World.cell?_spot hc0
    subst hspot
    have hb : b < w.heap.size := by simpa [Addr.add] using World.block_lt_of_cell? w _ hc0
    refine ⟨b, off, rfl, hb, fun j hj => ?_⟩
    have hj' := hcell j (by omega)
    have e : (⟨b, off, none⟩ : Addr).add j = ⟨b, off + j, none⟩ := by unfold Addr.add; split <;> simp_all
    rw [e] at hj'
    rw [hj', List.getD_eq_getElem?_getD, List.getD_eq_getElem?_getD, List.getElem?_take, if_pos hj]
end Go.Proofs.Ytnolnlhoedafcaa
