/- The reader of a code: what is known of it, and what its function pick does to it. -/
import Derived.Test.YtnolnlhoedafcaaReg
import Derived.Test.YtnolnlhoedafcaaKit
import Derived.Laws.BitsAllLaws
import Derived.Laws.BitsLemmas
namespace Go.Proofs.Ytnolnlhoedafcaa
open Go.RowKit

/-- the reader lies in block g: its code is a row of at most 2000 bytes in an older block, or empty; its place is at most P -/
def Rdr (W : World) (g P : Nat) : Prop :=
  ∃ (a : Option Addr) (n c : Nat) (z : List Int) (p : Nat), p ≤ P ∧ g < W.heap.size ∧ W.cell? ⟨g, 0, none⟩ = some (.slice a n c) ∧ W.cell? ⟨g, 1, none⟩ = some (.int .i64 p) ∧ W.frozen? ⟨g, 1, none⟩ = false ∧ n ≤ 2000 ∧ n ≤ c ∧
    (0 < n → ∃ b off, a = some ⟨b, off, none⟩ ∧ b < g ∧ ∀ j, j < n → W.cell? ⟨b, off + j, none⟩ = some (.int .u8 (z.getD j 0))) ∧ (∀ j, j < n → 0 ≤ z.getD j 0 ∧ z.getD j 0 ≤ 255)

theorem Rdr.mono {W : World} {g P P' : Nat} (h : Rdr W g P) (hP : P ≤ P') : Rdr W g P' := by
  obtain ⟨a, n, c, z, p, h1, h2⟩ := h
  exact ⟨a, n, c, z, p, by omega, h2⟩
theorem Rdr.lt {W : World} {g P : Nat} (h : Rdr W g P) : g < W.heap.size := by
  obtain ⟨a, n, c, z, p, _, h2, _⟩ := h
  exact h2
theorem Rdr.keep {W W' : World} {g P : Nat} (h : Rdr W g P) (hs : W.heap.size ≤ W'.heap.size) (hk : ∀ k, k ≤ g → W'.heap[k]? = W.heap[k]?) : Rdr W' g P := by
  obtain ⟨a, n, c, z, p, h1, h2, h3, h4, h5, h6, h7, h8, h9⟩ := h
  refine ⟨a, n, c, z, p, h1, by omega, (World.cell?_of_block (hk g (Nat.le_refl _))).trans h3, (World.cell?_of_block (hk g (Nat.le_refl _))).trans h4, (World.frozen?_of_block (hk g (Nat.le_refl _))).trans h5, h6, h7, fun hn => ?_, h9⟩
  obtain ⟨b, off, e1, e2, e3⟩ := h8 hn
  exact ⟨b, off, e1, e2, fun j hj => (World.cell?_of_block (hk b (by omega))).trans (e3 j hj)⟩
theorem Rdr.below {W W' : World} {g P : Nat} (h : Rdr W g P) (hb : Below W.heap.size W W') : Rdr W' g P :=
  h.keep hb.size fun k hk => hb.block k (by have := h.lt; omega)

theorem ofInt_i64 (a : Nat) (ha : a < 9223372036854775808) : (BitVec.ofInt 64 (a : Int)).toNat = a := by
  rw [BitVec.ofInt_natCast, BitVec.toNat_ofNat]; exact Nat.mod_eq_of_lt (by omega)
theorem i64_xor_nat (a b : Nat) (ha : a < 9223372036854775808) (hb : b < 9223372036854775808) : bits .xor .i64 (a : Int) (b : Int) = ((a ^^^ b : Nat) : Int) := by
  have hx : a ^^^ b < 2 ^ 63 := Nat.xor_lt_two_pow (by omega) (by omega)
  show IntKind.i64.wrap ((BitVec.ofInt 64 (a : Int) ^^^ BitVec.ofInt 64 (b : Int)).toNat : Int) = _
  rw [BitVec.toNat_xor, ofInt_i64 a ha, ofInt_i64 b hb, IntKind.wrap_i64]
  omega

theorem xor_nn (X : Int) (h0 : 0 ≤ X) (h1 : X ≤ 1000000000000) : 0 ≤ bits .xor .i64 X (X / 64) ∧ bits .xor .i64 X (X / 64) < 9223372036854775808 := by
  obtain ⟨x, rfl⟩ := Int.eq_ofNat_of_zero_le h0
  have e : ((x : Int) / 64) = ((x / 64 : Nat) : Int) := by omega
  rw [e, i64_xor_nat x (x / 64) (by omega) (by omega)]
  have hx : x ^^^ (x / 64) < 2 ^ 63 := Nat.xor_lt_two_pow (by omega) (by omega)
  omega

def PickPost (W : World) (g P : Nat) (m : Int) (e : Ending) (w' : World) : Prop :=
  ∃ v : Int, e = .returned (.int .i64 v) ∧ 0 ≤ v ∧ (1 ≤ m → v < m) ∧ Rdr w' g (P + 1) ∧ W.grownBy w' (some g) ∧ w'.heap.size = W.heap.size

def PickEnd (W : World) (g p : Nat) (m : Int) (e : Ending) (w' : World) : Prop :=
  ∃ (v : Int) (k : Nat), e = .returned (.int .i64 v) ∧ 0 ≤ v ∧ (1 ≤ m → v < m) ∧ w' = (W.setCell ⟨g, 1, none⟩ (.int .i64 ((p : Int) + 1))).drewN k

theorem pick_core (g n c p : Nat) (a : Option Addr) (z : List Int) (m : Int) (W : World) (hp : p ≤ 1000000) (hn : n ≤ 2000) (hc0 : W.cell? ⟨g, 0, none⟩ = some (.slice a n c)) (hc1 : W.cell? ⟨g, 1, none⟩ = some (.int .i64 p)) (hf : W.frozen? ⟨g, 1, none⟩ = false)
    (h8 : 0 < n → ∃ b off, a = some ⟨b, off, none⟩ ∧ b < g ∧ ∀ j, j < n → W.cell? ⟨b, off + j, none⟩ = some (.int .u8 (z.getD j 0))) (h9 : ∀ j, j < n → 0 ≤ z.getD j 0 ∧ z.getD j 0 ≤ 255) :
    Calls Try.prog 26 #[.pointer (some ⟨g, 0, none⟩), .int .i64 m] W (PickEnd W g p m) := by
  by_cases hm : m < 1
  · clear h8 h9
    go_enter Try.func26, Try.ntmps26
    go_wp2
    go_ret
    exact ⟨0, 0, rfl, by omega, fun h => by omega, rfl⟩
  · rcases Nat.eq_zero_or_pos n with hn0 | hn0
    · subst hn0
      clear h8 h9
      go_enter Try.func26, Try.ntmps26
      go_wp2
      go_ret
      exact ⟨0, 0, rfl, by omega, fun h => by omega, rfl⟩
    · obtain ⟨b, off, rfl, hbg, hcz⟩ := h8 hn0
      have hne : ¬ b = g := by omega
      have hne' : ¬ g = b := by omega
      by_cases hpn : p < n
      · have hx := hcz p hpn
        have hzb := h9 p hpn
        generalize z.getD p 0 = x at hx hzb
        clear hcz h9
        have hlt : (p : Int) < (n : Int) := by omega
        go_enter Try.func26, Try.ntmps26
        go_wp2
        go_ret
        have e1 := Int.emod_nonneg x (show m ≠ 0 by omega)
        have e2 := Int.emod_lt_of_pos x (show 0 < m by omega)
        exact ⟨_, 0, rfl, e1, fun _ => e2, rfl⟩
      · have hx1 := hcz (p % n) (Nat.mod_lt _ hn0)
        have hb1 := h9 (p % n) (Nat.mod_lt _ hn0)
        have hx2 := hcz ((p * 7 + 3) % n) (Nat.mod_lt _ hn0)
        have hb2 := h9 ((p * 7 + 3) % n) (Nat.mod_lt _ hn0)
        have hi1 : p % n < n := Nat.mod_lt _ hn0
        have hi2 : (p * 7 + 3) % n < n := Nat.mod_lt _ hn0
        have t1 : (p : Int).tmod (n : Int) = ((p % n : Nat) : Int) := by rw [Int.tmod_eq_emod_of_nonneg (by omega), Int.natCast_emod]
        have t2 : ((p : Int) * 7 + 3).tmod (n : Int) = (((p * 7 + 3) % n : Nat) : Int) := by rw [Int.tmod_eq_emod_of_nonneg (by omega), Int.natCast_emod]; simp
        have hq : p / n ≤ p := Nat.div_le_self _ _
        have hqq : ∀ q : Nat, q ≤ p → IntKind.i64.wrap (q : Int) = q := fun q h => IntWalk.i64_in _ (by omega)
        have t3 : IntKind.i64.wrap ((p : Int).tdiv (n : Int)) = ((p / n : Nat) : Int) := by
          rw [Int.tdiv_eq_ediv_of_nonneg (by omega)]
          rw [← Int.natCast_ediv]
          exact hqq _ hq
        have t4 : IntKind.i64.wrap ((p : Int) / (n : Int)) = ((p / n : Nat) : Int) := by
          rw [← Int.natCast_ediv]
          exact hqq _ hq
        clear hqq
        generalize p % n = i1 at hx1 hb1 hi1 t1
        generalize (p * 7 + 3) % n = i2 at hx2 hb2 hi2 t2
        generalize p / n = q at hq t3 t4
        generalize z.getD i1 0 = x1 at hx1 hb1
        generalize z.getD i2 0 = x2 at hx2 hb2
        obtain ⟨b10, b11⟩ := hb1
        obtain ⟨b20, b21⟩ := hb2
        clear hcz h9 h8
        have g1 : (0 : Int) ≤ (i1 : Int) := by omega
        have g2 : (i1 : Int) < (n : Int) := by omega
        have g3 : (0 : Int) ≤ (i2 : Int) := by omega
        have g4 : (i2 : Int) < (n : Int) := by omega
        have hlt : ¬ (p : Int) < (n : Int) := by omega
        have hn1 : ¬ (n : Int) = 0 := by omega
        have hn2 : ¬ (n : Int) = -1 := by omega
        have w1 : IntKind.i64.wrap (x1 * 131) = x1 * 131 := IntWalk.i64_in _ (by omega)
        have w2 : IntKind.i64.wrap ((p : Int) * 7) = (p : Int) * 7 := IntWalk.i64_in _ (by omega)
        have w3 : IntKind.i64.wrap ((p : Int) * 7 + 3) = (p : Int) * 7 + 3 := IntWalk.i64_in _ (by omega)
        have w4 : IntKind.i64.wrap (x2 * 1117) = x2 * 1117 := IntWalk.i64_in _ (by omega)
        have w5 : IntKind.i64.wrap (x1 * 131 + x2 * 1117) = x1 * 131 + x2 * 1117 := IntWalk.i64_in _ (by omega)
        have w6 : IntKind.i64.wrap ((p : Int) * 29) = (p : Int) * 29 := IntWalk.i64_in _ (by omega)
        have w7 : IntKind.i64.wrap (x1 * 131 + x2 * 1117 + (p : Int) * 29) = x1 * 131 + x2 * 1117 + (p : Int) * 29 := IntWalk.i64_in _ (by omega)
        have w8 : IntKind.i64.wrap ((q : Int) * 53) = (q : Int) * 53 := IntWalk.i64_in _ (by omega)
        obtain ⟨X, hX, hX0, hX1⟩ : ∃ X : Int, X = x1 * 131 + x2 * 1117 + (p : Int) * 29 + (q : Int) * 53 ∧ 0 ≤ X ∧ X ≤ 1000000000000 := ⟨_, rfl, by omega, by omega⟩
        have w9 : IntKind.i64.wrap (x1 * 131 + x2 * 1117 + (p : Int) * 29 + (q : Int) * 53) = X := by rw [← hX]; exact IntWalk.i64_in _ (by omega)
        clear hX
        have hxor := xor_nn X hX0 hX1
        go_enter Try.func26, Try.ntmps26
        go_wp2
        go_quiet (fail)
        clear t1 t2 t3 t4 w1 w2 w3 w4 w5 w6 w7 w8 w9
        go_wp2
        go_ret
        have e1 := Int.emod_nonneg (bits .xor .i64 X (X / 64)) (show m ≠ 0 by omega)
        have e2 := Int.emod_lt_of_pos (bits .xor .i64 X (X / 64)) (show 0 < m by omega)
        exact ⟨_, nq, rfl, e1, fun _ => e2, rfl⟩

theorem grownBy_set (W : World) (g : Nat) (o : Nat) (u : Value) (k : Nat) : W.grownBy ((W.setCell ⟨g, o, none⟩ u).drewN k) (some g) :=
  ⟨rfl, rfl, rfl, by simp [World.setCell], fun i _ hne => Below.heap_setCell W ⟨g, o, none⟩ u i (fun e => hne (by rw [e]))⟩

/-- pick: a number from 0 to m - 1; the reader goes one place on. -/
theorem pick_any (g P : Nat) (m : Int) (W : World) (hP : P ≤ 1000000) (hr : Rdr W g P) :
    Calls Try.prog 26 #[.pointer (some ⟨g, 0, none⟩), .int .i64 m] W (PickPost W g P m) := by
  obtain ⟨a, n, c, z, p, hp, hg, hc0, hc1, hf, hn, hnc, h8, h9⟩ := hr
  refine (pick_core g n c p a z m W (by omega) hn hc0 hc1 hf h8 h9).mono ?_
  rintro e w' ⟨v, k, rfl, hv0, hv1, rfl⟩
  refine ⟨v, rfl, hv0, hv1, ⟨a, n, c, z, p + 1, by omega, by simpa [World.setCell] using hg, ?_, ?_, ?_, hn, hnc, fun h0 => ?_, h9⟩, grownBy_set W g 1 _ k, by simp [World.setCell]⟩
  · show (W.setCell ⟨g, 1, none⟩ _).cell? ⟨g, 0, none⟩ = _
    rw [World.cell?_setCell_other _ _ _ _ (by simp), hc0]
  · show (W.setCell ⟨g, 1, none⟩ _).cell? ⟨g, 1, none⟩ = _
    exact World.cell?_setCell_same _ _ _ hc1
  · show (W.setCell ⟨g, 1, none⟩ _).frozen? ⟨g, 1, none⟩ = _
    rw [World.frozen?_setCell, hf]
  · obtain ⟨b, off, e1, e2, e3⟩ := h8 h0
    refine ⟨b, off, e1, e2, fun j hj => ?_⟩
    show (W.setCell ⟨g, 1, none⟩ _).cell? ⟨b, off + j, none⟩ = _
    rw [World.cell?_setCell_other _ _ _ _ (fun e => by have := congrArg Addr.block e; simp at this; omega), e3 j hj]

theorem u8_wf {x : Int} (h : (Lit.int .u8 x).wf = true) : 0 ≤ x ∧ x ≤ 255 := by
  exact bounds_u8 h

theorem rdr_new {w : World} {a : Option Addr} {n c : Nat} {z : List Int} (n' : Nat) (T : TypeId) (h : IsRow .u8 w a n c z) (hn : n' ≤ n) (h2 : n' ≤ 2000) :
    Rdr (w.alloc (.cells #[.slice a n' c, .int .i64 0] T)) w.heap.size 0 := by
  rcases h with ⟨rfl, rfl, rfl, rfl⟩ | ⟨x, rfl, hl, hm, hz, hcell, hwz⟩
  · obtain rfl : n' = 0 := by omega
    exact ⟨none, 0, 0, [], 0, Nat.le_refl _, by simp, by simp [go_sem], by simp [go_sem], by simp [go_sem], by omega, by omega, fun h => absurd h (by omega), fun j hj => absurd hj (by omega)⟩
  · refine ⟨some x, n', c, z, 0, Nat.le_refl _, by simp, by simp [go_sem], by simp [go_sem], by simp [go_sem], h2, by omega, fun h0 => ?_, fun j hj => ?_⟩
    · obtain ⟨b, off, spot⟩ := x
      have hc0 := hcell 0 (by omega)
      have hspot : spot = none := by simpa [Addr.add] using World.cell?_spot hc0
      subst hspot
      have hb : b < w.heap.size := by simpa [Addr.add] using World.block_lt_of_cell? w _ hc0
      refine ⟨b, off, rfl, hb, fun j hj => ?_⟩
      have hj' := hcell j (by omega)
      rw [World.cell?_alloc_lt _ _ ⟨b, off + j, none⟩ hb, ← hj']
      congr 1
      unfold Addr.add
      split <;> simp_all
    · have hj' : j < z.length := by omega
      have := hwz (z.getD j 0) (by rw [List.getD_eq_getElem?_getD, List.getElem?_eq_getElem hj']; exact List.getElem_mem hj')
      exact u8_wf this

/-- l6Open: a reader of the code, in a new block. -/
theorem l6Open_any (a : Option Addr) (n c : Nat) (z : List Int) (w : World) (h : IsRow .u8 w a n c z) :
    Calls Try.prog 25 #[.slice a n c] w fun e w' => e = .returned (.pointer (some ⟨w.heap.size, 0, none⟩)) ∧ Rdr w' w.heap.size 0 ∧ Below w.heap.size w w' := by
  have hR := fun n' T => rdr_new n' T h
  by_cases hn : 2000 < n
  · have hn' : (2000 : Int) < (n : Int) := by omega
    rcases h with ⟨rfl, rfl, rfl, rfl⟩ | ⟨x, rfl, hl, hm, hz, hcell, hwz⟩
    · omega
    · clear hcell hwz
      have HR := Lib.hid (hR 2000 48 (by omega) (by omega))
      clear hR
      go_enter Try.func25, Try.ntmps25
      go_wp2
      go_ret
      exact ⟨rfl, HR.out, (Below.refl _ _).alloc (Nat.le_refl _) _⟩
  · have hn' : ¬ (2000 : Int) < (n : Int) := by omega
    have HR := Lib.hid (hR n 48 (by omega) (by omega))
    clear hR
    go_enter Try.func25, Try.ntmps25
    go_wp2
    go_ret
    exact ⟨rfl, HR.out, (Below.refl _ _).alloc (Nat.le_refl _) _⟩
end Go.Proofs.Ytnolnlhoedafcaa
