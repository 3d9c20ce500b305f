/- A slice of rows of numbers: how it reads, what a slice of rows that came in reads as, and rows that a call owns. -/
import Derived.Test.YtnolnlhoedafcaaInts
import Derived.Test.YtnolnlhoedafcaaCopy
import Derived.Test.YtnolnlhoedafcaaOwn
import Derived.Test.YtnolnlhoedafcaaKit
import Derived.Test.YtnolnlhoedafcaaRows2
import Derived.Deep.Matrix
namespace Go.Proofs.Ytnolnlhoedafcaa
open Go.RowKit Go.ChangeShapes Go.WideShapes Go.ChangeAt
set_option linter.unusedSimpArgs false
set_option linter.unusedSectionVars false

abbrev Rw := List Int
/-- the slice of slices at A, of n elements, reads as Xs, and all of it lies below block B -/
def RdR (W : World) (B : Nat) (A : Option Addr) (n : Nat) (Xs : List Rw) : Prop :=
  Xs.length = n ∧ (0 < n → ∃ b off, A = some ⟨b, off, none⟩ ∧ b < B ∧ ∀ j (h : j < Xs.length), ∃ Aj cj, W.cell? ⟨b, off + j, none⟩ = some (.slice Aj Xs[j].length cj) ∧ RdI W B Aj Xs[j].length Xs[j] ∧ Xs[j].length ≤ cj ∧ cj ≤ maxLen)
section
variable {W W' : World} {B B' n : Nat} {A : Option Addr} {Xs : List Rw}
theorem RdR.len (h : RdR W B A n Xs) : Xs.length = n := h.1
theorem RdR.keep (h : RdR W B A n Xs) (hk : ∀ b o, b < B → W'.cell? ⟨b, o, none⟩ = W.cell? ⟨b, o, none⟩) : RdR W' B A n Xs :=
  ⟨h.1, fun hn => by
    obtain ⟨b, off, e, hb, hc⟩ := h.2 hn
    refine ⟨b, off, e, hb, fun j hj => ?_⟩
    obtain ⟨Aj, cj, h1, h2, h3⟩ := hc j hj
    exact ⟨Aj, cj, (hk b _ hb).trans h1, h2.keep hk, h3⟩⟩
theorem RdR.more (h : RdR W B A n Xs) (hB : B ≤ B') : RdR W B' A n Xs :=
  ⟨h.1, fun hn => by
    obtain ⟨b, off, e, hb, hc⟩ := h.2 hn
    refine ⟨b, off, e, by omega, fun j hj => ?_⟩
    obtain ⟨Aj, cj, h1, h2, h3⟩ := hc j hj
    exact ⟨Aj, cj, h1, h2.more hB, h3⟩⟩
theorem RdR.below (h : RdR W B A n Xs) (hb : Below B W W') : RdR W' B A n Xs := h.keep fun b o hlt => hb.cell (p := ⟨b, o, none⟩) hlt
theorem RdR.drewN (h : RdR W B A n Xs) (k : Nat) : RdR (W.drewN k) B A n Xs := h
theorem RdR.at_ {k : Nat} (h : RdR W B A n Xs) (hk : k < Xs.length) : ∃ b off, A = some ⟨b, off, none⟩ ∧ b < B ∧ ∀ j (h : j < Xs.length), ∃ Aj cj, W.cell? ⟨b, off + j, none⟩ = some (.slice Aj Xs[j].length cj) ∧ RdI W B Aj Xs[j].length Xs[j] ∧ Xs[j].length ≤ cj ∧ cj ≤ maxLen :=
  h.2 (by have := h.1; omega)
end

/-- a slice of rows that came in -/
def IsRowR (w : World) (a : Option Addr) (len cap : Nat) (z : List Rw) : Prop := RdR w w.heap.size a len z ∧ len ≤ cap ∧ cap ≤ maxLen
theorem rw_addr (b o j : Nat) : (⟨b, o, none⟩ : Addr).add j = ⟨b, o + j, none⟩ := by unfold Addr.add; split <;> simp_all
theorem isRowR_of_trod {H : Type} {enc : TypeId × Value → H} {w : World} {held : Bool} {fuel : Nat} {a : Option Addr} {len cap : Nat} {x : DataW H × List MemPlace}
    (h : DataW.trod enc Try.prog w 0 (fun _ => true) held fuel 22 [.slice a len cap] = some x) : ∃ zs, IsRowR w a len cap zs := by
  rcases Go.Deep.open_int_rows Try.underlying22 Try.underlying24 Try.underlying3 (by kernel_rfl) (by kernel_rfl) h with ⟨hc, _⟩ | ⟨y, l, c, A, L, C, Z, hc, _, hl, hm, _, hall⟩
  · simp only [List.cons.injEq, and_true] at hc
    injection hc with e1 e2 e3
    subst e1 e2 e3
    exact ⟨[], ⟨rfl, fun h => absurd h (by omega)⟩, Nat.le_refl _, by unfold maxLen; omega⟩
  · simp only [List.cons.injEq, and_true] at hc
    injection hc with e1 e2 e3
    subst e1 e2 e3
    refine ⟨(List.range len).map fun r => (Z r).take (L r), ⟨by simp, fun h0 => ?_⟩, hl, hm⟩
    obtain ⟨b, off, spot⟩ := y
    obtain ⟨hc0, -⟩ := hall 0 (by omega)
    have hspot : spot = none := by simpa [Addr.add] using World.cell?_spot hc0
    subst hspot
    have hb : b < w.heap.size := by simpa [Addr.add] using World.block_lt_of_cell? w _ hc0
    refine ⟨b, off, rfl, hb, fun j hj => ?_⟩
    have hj2 : j < len := by simpa using hj
    obtain ⟨q0, q1, q2, q3, q4, q5, q6⟩ := hall j (by omega)
    rw [rw_addr] at q0
    have hZ : ((Z j).take (L j)).length = L j := by rw [List.length_take]; omega
    simp only [List.getElem_map, List.getElem_range]
    rw [hZ]
    refine ⟨A j, C j, q0, ⟨hZ, fun h1 => ?_⟩, q1, q2⟩
    cases hA : A j with
    | none => have := q5 hA; omega
    | some y' =>
      obtain ⟨-, q7⟩ := q6 y' hA
      obtain ⟨b', off', spot'⟩ := y'
      have hc1 := q7 0 (by omega)
      have hspot : spot' = none := by simpa [Addr.add] using World.cell?_spot hc1
      subst hspot
      have hb' : b' < w.heap.size := by simpa [Addr.add] using World.block_lt_of_cell? w _ hc1
      refine ⟨b', off', rfl, hb', fun i hi => ?_⟩
      have := q7 i (by omega)
      rw [rw_addr] at this
      rw [this]
      congr 2
      rw [List.getD_eq_getElem?_getD, List.getD_eq_getElem?_getD, List.getElem?_take, if_pos hi]

/-- rows that a call owns: the slices in block G, the rows in blocks above it and below H -/
def OwR (W : World) (G H : Nat) (Xs : List Rw) (gs : Nat → Nat) : Prop :=
  G < W.heap.size ∧ (∀ j (h : j < Xs.length), W.cell? ⟨G, j, none⟩ = some (.slice (some ⟨gs j, 0, none⟩) Xs[j].length Xs[j].length) ∧ G < gs j ∧ gs j < H ∧ OwnI W (gs j) Xs[j]) ∧ ∀ i j, i < j → j < Xs.length → gs i < gs j
theorem OwR.below {W W' : World} {G H : Nat} {Xs : List Rw} {gs : Nat → Nat} (h : OwR W G H Xs gs) (hH : H ≤ W.heap.size) (hb : Below W.heap.size W W') : OwR W' G H Xs gs :=
  ⟨Nat.lt_of_lt_of_le h.1 hb.size, fun j hj => by
    obtain ⟨h1, h2, h3, h4⟩ := h.2.1 j hj
    exact ⟨(hb.cell (p := ⟨G, j, none⟩) h.1).trans h1, h2, h3, h4.below hb (by omega)⟩, h.2.2⟩
theorem OwR.rd {W : World} {G H n : Nat} {Xs : List Rw} {gs : Nat → Nat} (h : OwR W G H Xs gs) (hH : H ≤ W.heap.size) (hn : Xs.length = n) (hm : ∀ x ∈ Xs, x.length ≤ 4194304) : RdR W W.heap.size (some ⟨G, 0, none⟩) n Xs :=
  ⟨hn, fun _ => ⟨G, 0, rfl, h.1, fun j hj => by
    obtain ⟨h1, h2, h3, h4⟩ := h.2.1 j hj
    have := hm _ (List.getElem_mem hj)
    rw [Nat.zero_add]
    exact ⟨_, _, h1, h4.rd _ (by omega) _ rfl, Nat.le_refl _, by unfold maxLen; omega⟩⟩⟩
/-- the blocks from G to below H alone are written -/
def Rng (G H : Nat) (W W' : World) : Prop := W'.os = W.os ∧ W'.tape = W.tape ∧ W'.output = W.output ∧ W.heap.size = W'.heap.size ∧ ∀ i, i < G ∨ H ≤ i → W'.heap[i]? = W.heap[i]?
theorem Rng.refl (G H : Nat) (W : World) : Rng G H W W := ⟨rfl, rfl, rfl, rfl, fun _ _ => rfl⟩
theorem Rng.below {G H : Nat} {W W' : World} (h : Rng G H W W') : Below G W W' := ⟨h.1, h.2.1, h.2.2.1, by have := h.2.2.2.1; omega, fun i hi => h.2.2.2.2 i (.inl hi)⟩
end Go.Proofs.Ytnolnlhoedafcaa
