/- Plain facts on fractions: the greatest common divisor, reduced fractions, their sums and their order. No program stands here. -/
import Derived.IntWalk
namespace Go.Proofs.Yticfncjhghjanaa.Frp

theorem gcd_step (x y : Int) : Int.gcd y (x.tmod y) = Int.gcd x y := by
  have h : x.tmod y = x - y * (x.tdiv y) := by have := Int.tmod_add_mul_tdiv x y; omega
  rw [h, Int.gcd_comm x y, Int.gcd_sub_mul_left_right]

theorem tmod_bound (x y M : Int) (hx : -M ≤ x ∧ x ≤ M) : -M ≤ x.tmod y ∧ x.tmod y ≤ M := by
  have h := Int.natAbs_tmod x y
  have h2 := Nat.mod_le x.natAbs y.natAbs
  omega

theorem tmod_lt (x y : Int) (hy : y ≠ 0) : (x.tmod y).natAbs < y.natAbs := by
  rw [Int.natAbs_tmod]; exact Nat.mod_lt _ (by omega)

/-- what a valid fraction is -/
def FV (n d : Int) : Prop := -9999999 ≤ n ∧ n ≤ 9999999 ∧ 1 ≤ d ∧ d ≤ 9999999 ∧ Int.gcd n d = 1
instance (n d : Int) : Decidable (FV n d) := by unfold FV; infer_instance
def fv (n d : Int) : Bool := decide (FV n d)
def rN (n d : Int) : Int := n.tdiv (Int.gcd n d)
def rD (n d : Int) : Int := d.tdiv (Int.gcd n d)

theorem gcd_pos (n d : Int) (hd : 1 ≤ d) : 1 ≤ Int.gcd n d := by
  have := Int.gcd_pos_of_ne_zero_right n (show d ≠ 0 by omega); omega

theorem rN_mul (n d : Int) : rN n d * Int.gcd n d = n := Int.tdiv_mul_cancel (Int.gcd_dvd_left n d)
theorem rD_mul (n d : Int) : rD n d * Int.gcd n d = d := Int.tdiv_mul_cancel (Int.gcd_dvd_right n d)

theorem rD_pos (n d : Int) (hd : 1 ≤ d) : 1 ≤ rD n d := by
  have h := rD_mul n d
  have g := gcd_pos n d hd
  rcases Int.lt_or_le (rD n d) 1 with h1 | h1
  · have : rD n d * (Int.gcd n d : Int) ≤ 0 * (Int.gcd n d : Int) := Int.mul_le_mul_of_nonneg_right (by omega) (by omega)
    omega
  · exact h1

theorem rD_le (n d : Int) (hd : 1 ≤ d) : rD n d ≤ d := by
  have h := rD_mul n d
  have g := gcd_pos n d hd
  have p := rD_pos n d hd
  have : rD n d * 1 ≤ rD n d * (Int.gcd n d : Int) := Int.mul_le_mul_of_nonneg_left (by omega) (by omega)
  omega

theorem rN_abs (n d : Int) (hd : 1 ≤ d) : (rN n d).natAbs ≤ n.natAbs := by
  have h := rN_mul n d
  have g := gcd_pos n d hd
  have : (rN n d).natAbs * Int.gcd n d = n.natAbs := by
    rw [← Int.natAbs_natCast (Int.gcd n d), ← Int.natAbs_mul, h]
  have : (rN n d).natAbs * 1 ≤ (rN n d).natAbs * Int.gcd n d := Nat.mul_le_mul_left _ g
  omega

theorem r_gcd (n d : Int) (hd : 1 ≤ d) : Int.gcd (rN n d) (rD n d) = 1 := by
  unfold rN rD
  rw [Int.tdiv_eq_ediv_of_dvd (Int.gcd_dvd_left n d), Int.tdiv_eq_ediv_of_dvd (Int.gcd_dvd_right n d)]
  exact Int.gcd_ediv_gcd_ediv_gcd (by have := gcd_pos n d hd; omega)

theorem cross_dvd {a b c e : Int} (h : a * e = c * b) (hg : Int.gcd c e = 1) : e ∣ b := by
  have h1 : e.natAbs ∣ c.natAbs * b.natAbs := by rw [← Int.natAbs_mul, ← h, Int.natAbs_mul]; exact Nat.dvd_mul_left _ _
  have h2 : Nat.Coprime e.natAbs c.natAbs := by unfold Nat.Coprime; rw [Nat.gcd_comm]; exact hg
  exact Int.natAbs_dvd_natAbs.1 (h2.dvd_of_dvd_mul_left h1)

/-- two reduced fractions of equal value are the same -/
theorem same_of_cross {a b c e : Int} (h : a * e = c * b) (hb : 1 ≤ b) (he : 1 ≤ e) (h1 : Int.gcd a b = 1) (h2 : Int.gcd c e = 1) : a = c ∧ b = e := by
  have d1 : e ∣ b := cross_dvd h h2
  have d2 : b ∣ e := cross_dvd h.symm h1
  have hbe : b = e := Int.dvd_antisymm (by omega) (by omega) d2 d1
  subst hbe
  exact ⟨Int.eq_of_mul_eq_mul_right (by omega) h, rfl⟩

theorem red_unique {n d n' d' : Int} (hd : 1 ≤ d) (hd' : 1 ≤ d') (hg : Int.gcd n' d' = 1) (h : n * d' = n' * d) : rN n d = n' ∧ rD n d = d' := by
  have g := gcd_pos n d hd
  refine same_of_cross ?_ (rD_pos n d hd) hd' (r_gcd n d hd) hg
  have e1 := rN_mul n d
  have e2 := rD_mul n d
  refine Int.eq_of_mul_eq_mul_right (a := (Int.gcd n d : Int)) (by omega) ?_
  calc rN n d * d' * (Int.gcd n d : Int) = (rN n d * (Int.gcd n d : Int)) * d' := by grind
    _ = n * d' := by rw [e1]
    _ = n' * d := h
    _ = n' * (rD n d * (Int.gcd n d : Int)) := by rw [e2]
    _ = n' * rD n d * (Int.gcd n d : Int) := by simp [Int.mul_assoc]

theorem fv_f {n d : Int} (h : ¬ (-9999999 ≤ n ∧ n ≤ 9999999 ∧ 1 ≤ d ∧ d ≤ 9999999)) : fv n d = false :=
  decide_eq_false fun ⟨a, b, c, e, _⟩ => h ⟨a, b, c, e⟩
theorem fv_g {n d : Int} (h1 : -9999999 ≤ n) (h2 : n ≤ 9999999) (h3 : 1 ≤ d) (h4 : d ≤ 9999999) : ((Int.gcd n d : Int) == 1) = fv n d := by
  unfold fv FV
  rw [Bool.eq_iff_iff]
  simp [h1, h2, h3, h4]
  omega
theorem fv_iff {n d : Int} : fv n d = true ↔ FV n d := by unfold fv; simp

theorem red_fv {n d : Int} (h1 : -9999999 ≤ n) (h2 : n ≤ 9999999) (h3 : 1 ≤ d) (h4 : d ≤ 9999999) : FV (rN n d) (rD n d) := by
  have a := rN_abs n d h3
  have b := rD_le n d h3
  exact ⟨by omega, by omega, rD_pos n d h3, by omega, r_gcd n d h3⟩

theorem fv_red {n d : Int} (h : FV n d) : rN n d = n ∧ rD n d = d :=
  red_unique h.2.2.1 h.2.2.1 h.2.2.2.2 rfl

theorem rN_range (n d : Int) (hd : 1 ≤ d) (h1 : -1000000000000000 ≤ n) (h2 : n ≤ 1000000000000000) : -1000000000000000 ≤ rN n d ∧ rN n d ≤ 1000000000000000 := by
  have := rN_abs n d hd
  omega
theorem rD_range (n d : Int) (hd : 1 ≤ d) (h2 : d ≤ 1000000000000000) : 1 ≤ rD n d ∧ rD n d ≤ 1000000000000000 := by
  have := rD_le n d hd
  have := rD_pos n d hd
  omega
theorem rN_quo (n d : Int) (h1 : -1000000000000000 ≤ n) (h2 : n ≤ 1000000000000000) (hd : 1 ≤ d) : IntKind.i64.wrap (n.tdiv (Int.gcd n d)) = rN n d := by
  have := rN_range n d hd h1 h2
  exact IntWalk.i64_in _ (by unfold rN at this; omega)
theorem rD_quo (n d : Int) (hd : 1 ≤ d) (h2 : d ≤ 1000000000000000) : IntKind.i64.wrap (d.tdiv (Int.gcd n d)) = rD n d := by
  have := rD_range n d hd h2
  exact IntWalk.i64_in _ (by unfold rD at this; omega)

/-- numerator and denominator of a sum, unreduced -/
def sN (a b c d : Int) : Int := a * d + c * b
def sD (b d : Int) : Int := b * d

theorem one_le_mul {a b : Int} (ha : 1 ≤ a) (hb : 1 ≤ b) : 1 ≤ a * b := by
  have : 1 * 1 ≤ a * b := Int.mul_le_mul ha hb (by omega) (by omega)
  omega

theorem add_comm_N (a b c d : Int) : a * d + c * b = c * b + a * d := Int.add_comm _ _

theorem add_back {a b c d : Int} (h1 : FV a b) (h2 : FV c d) :
    rN (rN (a * d + c * b) (b * d) * b + (0 - a) * rD (a * d + c * b) (b * d)) (rD (a * d + c * b) (b * d) * b) = c ∧
    rD (rN (a * d + c * b) (b * d) * b + (0 - a) * rD (a * d + c * b) (b * d)) (rD (a * d + c * b) (b * d) * b) = d := by
  have hb : 1 ≤ b := h1.2.2.1
  have hd : 1 ≤ d := h2.2.2.1
  have hbd : 1 ≤ b * d := one_le_mul hb hd
  have e1 := rN_mul (a * d + c * b) (b * d)
  have e2 := rD_mul (a * d + c * b) (b * d)
  have g := gcd_pos (a * d + c * b) (b * d) hbd
  have p := rD_pos (a * d + c * b) (b * d) hbd
  generalize rN (a * d + c * b) (b * d) = x at *
  generalize rD (a * d + c * b) (b * d) = y at *
  generalize hG : (Int.gcd (a * d + c * b) (b * d) : Int) = G at *
  refine red_unique (one_le_mul p hb) hd h2.2.2.2.2 ?_
  have hG1 : 1 ≤ G := by omega
  refine Int.eq_of_mul_eq_mul_right (a := G) (by omega) ?_
  have l : (x * b + (0 - a) * y) * d * G = ((x * G) * b - a * (y * G)) * d := by grind
  have r : c * (y * b) * G = c * (y * G) * b := by grind
  rw [l, r, e1, e2]
  grind

theorem neg_fv {n d : Int} (h : FV n d) : FV (0 - n) d := by
  obtain ⟨h1, h2, h3, h4, h5⟩ := h
  refine ⟨by omega, by omega, h3, h4, ?_⟩
  rw [Int.zero_sub, Int.neg_gcd]; exact h5

theorem less_add {a b c d : Int} (hb : 1 ≤ b) (hd : 1 ≤ d) (h : a * d < c * b) :
    rN (a * 2 + 1 * b) (b * 2) * rD (c * 2 + 1 * d) (d * 2) < rN (c * 2 + 1 * d) (d * 2) * rD (a * 2 + 1 * b) (b * 2) := by
  have hb2 : 1 ≤ b * 2 := by omega
  have hd2 : 1 ≤ d * 2 := by omega
  have e1 := rN_mul (a * 2 + 1 * b) (b * 2)
  have e2 := rD_mul (a * 2 + 1 * b) (b * 2)
  have e3 := rN_mul (c * 2 + 1 * d) (d * 2)
  have e4 := rD_mul (c * 2 + 1 * d) (d * 2)
  have g1 := gcd_pos (a * 2 + 1 * b) (b * 2) hb2
  have g2 := gcd_pos (c * 2 + 1 * d) (d * 2) hd2
  generalize rN (a * 2 + 1 * b) (b * 2) = x at *
  generalize rD (a * 2 + 1 * b) (b * 2) = y at *
  generalize rN (c * 2 + 1 * d) (d * 2) = u at *
  generalize rD (c * 2 + 1 * d) (d * 2) = v at *
  generalize hG : (Int.gcd (a * 2 + 1 * b) (b * 2) : Int) = G at *
  generalize hK : (Int.gcd (c * 2 + 1 * d) (d * 2) : Int) = K at *
  have hG1 : 1 ≤ G := by omega
  have hK1 : 1 ≤ K := by omega
  have hGK := one_le_mul hG1 hK1
  refine Int.lt_of_mul_lt_mul_right (a := G * K) ?_ (by omega)
  have l : x * v * (G * K) = (x * G) * (v * K) := by grind
  have r : u * y * (G * K) = (u * K) * (y * G) := by grind
  rw [l, r, e1, e2, e3, e4]
  have l2 : (a * 2 + 1 * b) * (d * 2) = 4 * (a * d) + 2 * (b * d) := by grind
  have r2 : (c * 2 + 1 * d) * (b * 2) = 4 * (c * b) + 2 * (b * d) := by grind
  rw [l2, r2]
  omega

/-- one of two fractions is less, or both are equal -/
theorem less_or {a b c d : Int} (h1 : FV a b) (h2 : FV c d) : (decide (a = c) && decide (b = d)) = (!decide (a * d < c * b) && !decide (c * b < a * d)) := by
  by_cases h : a * d = c * b
  · obtain ⟨rfl, rfl⟩ := same_of_cross h h1.2.2.1 h2.2.2.1 h1.2.2.2.2 h2.2.2.2.2
    simp
  · have : ¬ (a = c ∧ b = d) := by rintro ⟨rfl, rfl⟩; exact h rfl
    have h3 : a * d < c * b ∨ c * b < a * d := by omega
    have e1 : (decide (a = c) && decide (b = d)) = false := by simp; intro e e'; exact this ⟨e, e'⟩
    rw [e1]
    rcases h3 with h3 | h3 <;> simp [h3]

theorem triple {n d : Int} (hd : 1 ≤ d) : rN (3 * n) (3 * d) = rN n d ∧ rD (3 * n) (3 * d) = rD n d := by
  refine red_unique (by omega) (rD_pos n d hd) (r_gcd n d hd) ?_
  have e1 := rN_mul n d
  have e2 := rD_mul n d
  have g := gcd_pos n d hd
  generalize rN n d = x at *
  generalize rD n d = y at *
  generalize hG : (Int.gcd n d : Int) = G at *
  rw [← e1, ← e2]
  grind

theorem cross_red (n d : Int) : rN n d * d = n * rD n d := by
  have e1 := rN_mul n d
  have e2 := rD_mul n d
  generalize rN n d = x at *
  generalize rD n d = y at *
  generalize hG : (Int.gcd n d : Int) = G at *
  rw [← e1, ← e2]
  grind

theorem double_not {n d : Int} (h : FV n d) : ¬ FV (2 * n) (2 * d) := by
  intro h'
  have := h'.2.2.2.2
  rw [Int.gcd_mul_left, h.2.2.2.2] at this
  simp at this

theorem prod_bound {x y : Int} (h1 : -9999999 ≤ x) (h2 : x ≤ 9999999) (h3 : -9999999 ≤ y) (h4 : y ≤ 9999999) : -99999980000001 ≤ x * y ∧ x * y ≤ 99999980000001 := by
  have h : (x * y).natAbs ≤ 9999999 * 9999999 := by
    rw [Int.natAbs_mul]
    exact Nat.mul_le_mul (by omega) (by omega)
  omega

/-- is a fraction less than another one -/
def less (a b c d : Int) : Bool := fv a b && fv c d && decide (a * d < c * b)

/-- the seal of a seed and a secret -/
def sealV (s q : Int) : Int := if 0 ≤ s ∧ s ≤ 999 ∧ 0 ≤ q ∧ q ≤ 999 then (s * 7919 + q * 104729 + 12345) % 1000003 else -1
theorem sealV_in {s q : Int} (h : 0 ≤ s ∧ s ≤ 999 ∧ 0 ≤ q ∧ q ≤ 999) : sealV s q = (s * 7919 + q * 104729 + 12345) % 1000003 := if_pos h
theorem sealV_out {s q : Int} (h : ¬ (0 ≤ s ∧ s ≤ 999 ∧ 0 ≤ q ∧ q ≤ 999)) : sealV s q = -1 := if_neg h
theorem sealV_nn {s q : Int} : 0 ≤ sealV s q ↔ (0 ≤ s ∧ s ≤ 999 ∧ 0 ≤ q ∧ q ≤ 999) := by
  unfold sealV
  split <;> omega
theorem same_mod {x y p : Int} (h : x % p = y % p) : ∃ k, x - y = p * k := by
  have h1 : (x - y) % p = 0 := by rw [Int.sub_emod, h]; simp
  exact Int.dvd_of_emod_eq_zero h1
theorem lin1 (z k : Int) (h : 7919 * z = 1000003 * k) (h1 : -999 ≤ z) (h2 : z ≤ 999) : z = 0 := by
  have h3 : 658671 * (7919 * z) = 658671 * (1000003 * k) := by rw [h]
  obtain ⟨y, hy⟩ : ∃ y, y = 658671 * k - 5216 * z := ⟨_, rfl⟩
  have h4 : z = 1000003 * y := by rw [hy]; clear h h1 h2 hy; omega
  clear h h3 hy
  omega
theorem lin2 (z k : Int) (h : 104729 * z = 1000003 * k) (h1 : -999 ≤ z) (h2 : z ≤ 999) : z = 0 := by
  have h3 : 404531 * (104729 * z) = 404531 * (1000003 * k) := by rw [h]
  obtain ⟨y, hy⟩ : ∃ y, y = 404531 * k - 42366 * z := ⟨_, rfl⟩
  have h4 : z = 1000003 * y := by rw [hy]; clear h h1 h2 hy; omega
  clear h h3 hy
  omega
theorem seal_turn {s q t : Int} (h : 0 ≤ s ∧ s ≤ 999 ∧ 0 ≤ q ∧ q ≤ 999) (ht : 0 ≤ t ∧ t ≤ 999) (hne : t ≠ s) : sealV t q ≠ sealV s q := by
  rw [sealV_in h, sealV_in ⟨ht.1, ht.2, h.2.2⟩]
  intro e
  obtain ⟨k, hk⟩ := same_mod e
  clear e
  have hz : -999 ≤ t - s ∧ t - s ≤ 999 := by clear hk; omega
  have h0 : t - s ≠ 0 := by clear hk; omega
  refine h0 (lin1 (t - s) k ?_ hz.1 hz.2)
  rw [← hk]
  clear hk hz h0
  omega
theorem seal_turn2 {s q t : Int} (h : 0 ≤ s ∧ s ≤ 999 ∧ 0 ≤ q ∧ q ≤ 999) (ht : 0 ≤ t ∧ t ≤ 999) (hne : t ≠ q) : sealV s t ≠ sealV s q := by
  rw [sealV_in h, sealV_in ⟨h.1, h.2.1, ht⟩]
  intro e
  obtain ⟨k, hk⟩ := same_mod e
  clear e
  have hz : -999 ≤ t - q ∧ t - q ≤ 999 := by clear hk; omega
  have h0 : t - q ≠ 0 := by clear hk; omega
  refine h0 (lin2 (t - q) k ?_ hz.1 hz.2)
  rw [← hk]
  clear hk hz h0
  omega

end Go.Proofs.Yticfncjhghjanaa.Frp
