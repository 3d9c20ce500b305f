/- What a slice of piles that came in reads as. -/
import Derived.Test.YtlfgmljgoolbeaaPiWalk
import Derived.Test.YtlfgmljgoolbeaaKit
import Derived.Test.YtlfgmljgoolbeaaRows2
import Derived.Deep.SlicePairs
namespace Go.Proofs.Ytlfgmljgoolbeaa
open Go.RowKit Go.ChangeShapes Go.WideShapes Go.ChangeAt

theorem addr_add' (b o j : Nat) : (⟨b, o, none⟩ : Addr).add j = ⟨b, o + j, none⟩ := by unfold Addr.add; split <;> simp_all
def strOfV : Value → ByteArray
  | .string s => s
  | _ => ByteArray.empty
def intOfV : Value → Int
  | .int _ a => a
  | _ => 0
/-- a slice of piles that came in: nil, or a row of cells -/
def IsRowP (w : World) (a : Option Addr) (len cap : Nat) (zs : List Pil.Pl) : Prop :=
  (a = none ∧ len = 0 ∧ cap = 0 ∧ zs = []) ∨
  ∃ x, a = some x ∧ len ≤ cap ∧ cap ≤ maxLen ∧ zs.length = cap ∧ ∀ i (h : i < zs.length), w.cell? (x.add (i * 2)) = some (.string zs[i].1) ∧ w.cell? (x.add (i * 2 + 1)) = some (.int .i64 zs[i].2) ∧ zs[i].1.size ≤ maxLen
theorem isRowP_of_trod {H : Type} {enc : TypeId × Value → H} {w : World} {held : Bool} {fuel : Nat} {a : Option Addr} {len cap : Nat} {x : DataW H × List MemPlace}
    (h : DataW.trod enc Try.prog w 0 (fun _ => true) held fuel 32 [.slice a len cap] = some x) : ∃ zs, IsRowP w a len cap zs := by
  rcases Go.Deep.open_slice_pairs Try.underlying32 Try.underlying57 (by kernel_rfl) rfl rfl (by kernel_rfl) (by kernel_rfl) h with ⟨hc, _⟩ | ⟨b, l, c, m, k, V0, V1, D0, D1, P0, P1, hc, _, hl, hm, hmm, _, hall⟩
  · simp only [List.cons.injEq, and_true] at hc
    injection hc with e1 e2 e3
    exact ⟨[], .inl ⟨e1, e2, e3, rfl⟩⟩
  · simp only [List.cons.injEq, and_true] at hc
    injection hc with e1 e2 e3
    subst e1 e2 e3
    simp only [if_true] at hmm
    subst hmm
    refine ⟨(List.range m).map fun i => (strOfV (V0 i), intOfV (V1 i)), .inr ⟨b, rfl, hl, hm, by simp, fun i hi => ?_⟩⟩
    have hi' : i < m := by simpa using hi
    obtain ⟨c0, c1, t0, t1⟩ := hall i hi'
    obtain ⟨s, s1, -, s3⟩ := DataW.trod_string Try.underlying9 t0
    obtain ⟨n, n1, -, -⟩ := DataW.trod_int Try.underlying3 t1
    simp only [List.cons.injEq, and_true] at s1 n1
    simp only [List.getElem_map, List.getElem_range]
    rw [s1] at c0
    rw [n1] at c1
    rw [s1, n1]
    exact ⟨c0, c1, s3⟩
theorem rdP_of_row {w : World} {a : Option Addr} {len cap : Nat} {z : List Pil.Pl} (h : IsRowP w a len cap z) : RdP w w.heap.size a len (z.take len) ∧ len ≤ cap ∧ cap ≤ maxLen ∧ ∀ p ∈ z.take len, p.1.size ≤ maxLen := by
  rcases h with ⟨rfl, rfl, rfl, rfl⟩ | ⟨x, rfl, hl, hm, hz, hcell⟩
  · exact ⟨RdP.nil, Nat.le_refl _, by unfold maxLen; omega, by simp⟩
  · refine ⟨⟨by simp; omega, fun h0 => ?_⟩, hl, hm, fun p hp => ?_⟩
    · obtain ⟨b, off, spot⟩ := x
      obtain ⟨hc0, -, -⟩ := hcell 0 (by omega)
      have hspot : spot = none := by simpa [Addr.add] using World.cell?_spot hc0
      subst hspot
      have hb : b < w.heap.size := by simpa [Addr.add] using World.block_lt_of_cell? w _ hc0
      refine ⟨b, off, rfl, hb, fun j hj => ?_⟩
      have hj2 : j < z.length := by simp at hj; omega
      obtain ⟨h1, h2, -⟩ := hcell j hj2
      rw [addr_add'] at h1 h2
      rw [List.getElem_take]
      exact ⟨h1, h2⟩
    · obtain ⟨i, hi, rfl⟩ := List.getElem_of_mem hp
      rw [List.getElem_take]
      exact (hcell i (by simp at hi; omega)).2.2
end Go.Proofs.Ytlfgmljgoolbeaa
