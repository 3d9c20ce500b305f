/- Contracts of the small functions over fractions: gcd, reduced, FracValid and their kin. -/
import Derived.Test.YticfncjhghjanaaRows
import Derived.Test.YticfncjhghjanaaFrPlain
import Derived.WalkKit
import Derived.WalkSpells
import Derived.WalkLawsBesides
import Derived.Lib.Hide
import Derived.Deep.QuietTactic
import Derived.BigQuiet
import Derived.RegionTactic
import Derived.Handy
namespace Go.Proofs.Yticfncjhghjanaa
open Go.RowKit

theorem ret_int {k : IntKind} {a b : Int} (h : a = b) : Ending.returned (.int k a) = .returned (.int k b) := by rw [h]
theorem ret_bool {a b : Bool} (h : a = b) : Ending.returned (.bool a) = .returned (.bool b) := by rw [h]
theorem below_drewN {B : Nat} {a w : World} (h : Below B a w) (n : Nat) : Below B a (w.drewN n) := ⟨h.os, h.tape, h.output, h.size, h.block⟩
theorem bcell {W w1 : World} (hb : Below W.heap.size W w1) : (∀ b o, b < W.heap.size → w1.cell? ⟨b, o, none⟩ = W.cell? ⟨b, o, none⟩) ∧ (∀ b o, b < W.heap.size → w1.frozen? ⟨b, o, none⟩ = W.frozen? ⟨b, o, none⟩) :=
  ⟨fun b o h => hb.cell (p := ⟨b, o, none⟩) h, fun b o h => hb.frozen (p := ⟨b, o, none⟩) h⟩

/-- impl.gcd: the greatest common divisor, without a sign. -/
theorem igcd_any (a b : Int) (w : World) (h1 : -1000000000000000 ≤ a) (h2 : a ≤ 1000000000000000) (h3 : -1000000000000000 ≤ b) (h4 : b ≤ 1000000000000000) :
    Calls Try.prog 18 #[.int .i64 a, .int .i64 b] w fun e w' => e = .returned (.int .i64 (Int.gcd a b)) ∧ Below w.heap.size w w' := by
  go_enter Try.func18, Try.ntmps18
  go_wp2
  go_loopw [0, 1] (fun s t wr => ∃ x y : Int, s = .int .i64 x ∧ t = .int .i64 y ∧ Int.gcd x y = Int.gcd a b ∧ -1000000000000000 ≤ x ∧ x ≤ 1000000000000000 ∧ -1000000000000000 ≤ y ∧ y ≤ 1000000000000000 ∧ Below w.heap.size w wr) (fun _ t _ => (intOf t).natAbs)
  case atStart => exact ⟨a, b, rfl, rfl, rfl, h1, h2, h3, h4, Below.refl _ _⟩
  case round =>
    obtain ⟨x, y, rfl, rfl, hg, x1, x2, y1, y2, hb⟩ := hrel
    have H := Lib.hid hg
    clear hg
    by_cases hy : y = 0
    · subst hy
      go_wp2
      all_goals
        go_ret
        refine ⟨ret_int ?_, hb⟩
        have := H.out
        rw [Int.gcd_zero_right] at this
        omega
    · have hy' : (y != 0) = true := by simpa using hy
      go_wp2
      go_quiet (fail)
      go_wp2
      have hm := Frp.tmod_bound x y 1000000000000000 ⟨x1, x2⟩
      have hl := Frp.tmod_lt x y hy
      refine ⟨⟨y, x.tmod y, rfl, rfl, (Frp.gcd_step x y).trans H.out, y1, y2, hm.1, hm.2, below_drewN hb _⟩, ?_⟩
      simp only [intOf]
      exact hl

/-- spec.l5Gcd, at numbers that are not negative. -/
theorem sgcd_any (a b : Int) (w : World) (h1 : 0 ≤ a) (h2 : a ≤ 1000000000000000) (h3 : 0 ≤ b) (h4 : b ≤ 1000000000000000) :
    Calls Try.prog 20 #[.int .i64 a, .int .i64 b] w fun e w' => e = .returned (.int .i64 (Int.gcd a b)) ∧ Below w.heap.size w w' := by
  go_enter Try.func20, Try.ntmps20
  go_wp2
  go_loopw [0, 1] (fun s t wr => ∃ x y : Int, s = .int .i64 x ∧ t = .int .i64 y ∧ Int.gcd x y = Int.gcd a b ∧ 0 ≤ x ∧ x ≤ 1000000000000000 ∧ 0 ≤ y ∧ y ≤ 1000000000000000 ∧ Below w.heap.size w wr) (fun _ t _ => (intOf t).natAbs)
  case atStart => exact ⟨a, b, rfl, rfl, rfl, h1, h2, h3, h4, Below.refl _ _⟩
  case round =>
    obtain ⟨x, y, rfl, rfl, hg, x1, x2, y1, y2, hb⟩ := hrel
    have H := Lib.hid hg
    clear hg
    by_cases hy : y = 0
    · subst hy
      go_wp2
      go_ret
      refine ⟨ret_int ?_, hb⟩
      have := H.out
      rw [Int.gcd_zero_right] at this
      omega
    · have hy' : 0 < y := by omega
      go_wp2
      have hm : x.tmod y = x % y := Int.tmod_eq_emod_of_nonneg x1
      have hl := Int.emod_lt_of_pos x hy'
      have hn := Int.emod_nonneg x hy
      have hs := Frp.gcd_step x y
      rw [hm] at hs
      refine ⟨⟨y, x % y, rfl, rfl, hs.trans H.out, by omega, by omega, by omega, by omega, hb⟩, ?_⟩
      simp only [intOf]
      omega

/-- spec.l6In -/
theorem l6In_any (n lo hi : Int) (w : World) :
    Calls Try.prog 19 #[.int .i64 n, .int .i64 lo, .int .i64 hi] w fun e w' => e = .returned (.bool (decide (lo ≤ n) && decide (n ≤ hi))) ∧ w = w' := by
  go_enter Try.func19, Try.ntmps19
  go_wp2
  all_goals
    go_ret
    exact ⟨ret_bool (by simp; omega), rfl⟩

theorem l6In_t (n lo hi : Int) (w : World) (h : lo ≤ n ∧ n ≤ hi) : Calls Try.prog 19 #[.int .i64 n, .int .i64 lo, .int .i64 hi] w fun e w' => e = .returned (.bool true) ∧ w = w' :=
  (l6In_any n lo hi w).mono fun _ _ ⟨he, hw⟩ => ⟨by rw [he]; simp [h.1, h.2], hw⟩
theorem l6In_f (n lo hi : Int) (w : World) (h : ¬ (lo ≤ n ∧ n ≤ hi)) : Calls Try.prog 19 #[.int .i64 n, .int .i64 lo, .int .i64 hi] w fun e w' => e = .returned (.bool false) ∧ w = w' :=
  (l6In_any n lo hi w).mono fun _ _ ⟨he, hw⟩ => ⟨by rw [he]; refine ret_bool ?_; simp; omega, hw⟩

/-- impl.FracValid -/
theorem iFracValid_any (n d : Int) (w : World) :
    Calls Try.prog 8 #[.agg #[.int .i64 n, .int .i64 d]] w fun e w' => e = .returned (.bool (Frp.fv n d)) ∧ Below w.heap.size w w' := by
  go_enter Try.func8, Try.ntmps8
  go_wp2_with (first | (go_at_call 18; refine (igcd_any n d _ (by omega) (by omega) (by omega) (by omega)).mono ?_; rintro e w1 ⟨rfl, hb1⟩))
  all_goals
    go_ret
    refine ⟨ret_bool ?_, ?_⟩
    · first
        | exact (Frp.fv_f (by omega)).symm
        | exact Frp.fv_g (by omega) (by omega) (by omega) (by omega)
    · first
        | exact (Below.refl _ _).alloc (Nat.le_refl _) _
        | exact ((Below.refl _ _).alloc (Nat.le_refl _) _).trans (hb1.mono (by simp))

/-- spec.l5Gcd, at a number or its negative. -/
theorem sgcd_abs (n a b : Int) (w : World) (hn : a = n ∨ a = -n) (h1 : 0 ≤ a) (h2 : a ≤ 1000000000000000) (h3 : 0 ≤ b) (h4 : b ≤ 1000000000000000) :
    Calls Try.prog 20 #[.int .i64 a, .int .i64 b] w fun e w' => e = .returned (.int .i64 (Int.gcd n b)) ∧ Below w.heap.size w w' := by
  have h : Int.gcd a b = Int.gcd n b := by rcases hn with rfl | rfl <;> simp
  rw [← h]
  exact sgcd_any a b w h1 h2 h3 h4

/-- spec.FracValid -/
theorem sFracValid_any (n d : Int) (w : World) :
    Calls Try.prog 9 #[.agg #[.int .i64 n, .int .i64 d]] w fun e w' => e = .returned (.bool (Frp.fv n d)) ∧ Below w.heap.size w w' := by
  go_enter Try.func9, Try.ntmps9
  go_wp2_with (first
    | (go_at_call 19; refine (l6In_any _ _ _ _).mono ?_; rintro e w1 ⟨rfl, rfl⟩)
    | (go_at_call 20; refine (sgcd_abs n _ d _ (by omega) (by omega) (by omega) (by omega) (by omega)).mono ?_; rintro e w1 ⟨rfl, hb1⟩))
  all_goals
    go_ret
    refine ⟨ret_bool ?_, ?_⟩
    · first
        | exact (Frp.fv_f (by omega)).symm
        | exact Frp.fv_g (by omega) (by omega) (by omega) (by omega)
    · first
        | exact (Below.refl _ _).alloc (Nat.le_refl _) _
        | exact ((Below.refl _ _).alloc (Nat.le_refl _) _).trans (hb1.mono (by simp))

/-- spec.l5Of -/
theorem l5Of_any (n d : Int) (w : World) (h1 : -1000000000000000 ≤ n) (h2 : n ≤ 1000000000000000) (h3 : 1 ≤ d) (h4 : d ≤ 1000000000000000) :
    Calls Try.prog 22 #[.int .i64 n, .int .i64 d] w fun e w' => e = .returned (.agg #[.int .i64 (Frp.rN n d), .int .i64 (Frp.rD n d)]) ∧ Below w.heap.size w w' := by
  have hg := Frp.gcd_pos n d h3
  have hg0 : ¬ (Int.gcd n d : Int) = 0 := by omega
  have hg1 : ¬ (Int.gcd n d : Int) = -1 := by omega
  have hq1 := Frp.rN_quo n d (by omega) (by omega) h3
  have hq2 := Frp.rD_quo n d h3 (by omega)
  go_enter Try.func22, Try.ntmps22
  go_wp2_with (first | (go_at_call 20; refine (sgcd_abs n _ d _ (by omega) (by omega) (by omega) (by omega) (by omega)).mono ?_; rintro e w1 ⟨rfl, hb1⟩; obtain ⟨hc, hf⟩ := bcell hb1; have hz : w.heap.size < w1.heap.size := (by have := hb1.size; simp at this; omega)))
  all_goals
    have hbw : Below w.heap.size w w1 := ((Below.refl _ _).alloc (Nat.le_refl _) _).trans (hb1.mono (by simp))
    go_region
    go_wp2
    refine bodyPost_ret (v := .agg #[.int .i64 (Frp.rN n d), .int .i64 (Frp.rD n d)]) (by simp [results, Try.results22, go_sem, hc]) rfl ⟨rfl, ?_⟩
    go_grown

/-- impl.reduced, where the fraction is valid. -/
theorem reduced_t (n d : Int) (w : World) (h1 : -1000000000000000 ≤ n) (h2 : n ≤ 1000000000000000) (h3 : 1 ≤ d) (h4 : d ≤ 1000000000000000) (hv : Frp.fv (Frp.rN n d) (Frp.rD n d) = true) :
    Calls Try.prog 21 #[.int .i64 n, .int .i64 d] w fun e w' => e = .returned (.tuple #[.agg #[.int .i64 (Frp.rN n d), .int .i64 (Frp.rD n d)], .bool true]) ∧ Below w.heap.size w w' := by
  have hg := Frp.gcd_pos n d h3
  have hg0 : ¬ (Int.gcd n d : Int) = 0 := by omega
  have hg1 : ¬ (Int.gcd n d : Int) = -1 := by omega
  have hq1 := Frp.rN_quo n d (by omega) (by omega) h3
  have hq2 := Frp.rD_quo n d h3 (by omega)
  go_enter Try.func21, Try.ntmps21
  go_wp2_with (first | (go_at_call 18; refine (igcd_any n d _ (by omega) (by omega) (by omega) (by omega)).mono ?_; rintro e w1 ⟨rfl, hb1⟩; obtain ⟨hc, hf⟩ := bcell hb1; have hz : w.heap.size < w1.heap.size := (by have := hb1.size; simp at this; omega)))
  have hbw : Below w.heap.size w w1 := ((Below.refl _ _).alloc (Nat.le_refl _) _).trans (hb1.mono (by simp))
  go_wp2_with fail
  go_region
  go_wp2_with fail
  refine (iFracValid_any _ _ _).mono ?_
  rintro e w2 ⟨rfl, hb2⟩
  have hbw2 : Below w.heap.size w w2 := ((hbw.alloc (by omega) _).drew).trans (hb2.mono (by simp; omega))
  obtain ⟨hc2, hf2⟩ := bcell hb2
  have hz2 : w.heap.size < w2.heap.size := (by have := hb2.size; simp at this; omega)
  have hk : ∀ b o, b < w1.heap.size → w2.cell? ⟨b, o, none⟩ = w1.cell? ⟨b, o, none⟩ := fun b o hb => (hc2 b o (by simp; omega)).trans (by simp [World.cell?_alloc_lt _ _ ⟨b, o, none⟩ hb])
  have hkf : ∀ b o, b < w1.heap.size → w2.frozen? ⟨b, o, none⟩ = w1.frozen? ⟨b, o, none⟩ := fun b o hb => (hf2 b o (by simp; omega)).trans (by simp; exact World.frozen?_of_block (Below.heap_alloc _ _ _ hb))
  go_wp2_with fail
  refine bodyPost_ret (v := .tuple #[.agg #[.int .i64 (Frp.rN n d), .int .i64 (Frp.rD n d)], .bool true]) (by simp [results, Try.results21, go_sem, hk, hc, hz]) rfl ⟨rfl, ?_⟩
  go_grown

/-- impl.reduced, where the fraction is not valid. -/
theorem reduced_f (n d : Int) (w : World) (h1 : -1000000000000000 ≤ n) (h2 : n ≤ 1000000000000000) (h3 : 1 ≤ d) (h4 : d ≤ 1000000000000000) (hv : Frp.fv (Frp.rN n d) (Frp.rD n d) = false) :
    Calls Try.prog 21 #[.int .i64 n, .int .i64 d] w fun e w' => e = .returned (.tuple #[.agg #[.int .i64 0, .int .i64 0], .bool false]) ∧ Below w.heap.size w w' := by
  have hg := Frp.gcd_pos n d h3
  have hg0 : ¬ (Int.gcd n d : Int) = 0 := by omega
  have hg1 : ¬ (Int.gcd n d : Int) = -1 := by omega
  have hq1 := Frp.rN_quo n d (by omega) (by omega) h3
  have hq2 := Frp.rD_quo n d h3 (by omega)
  go_enter Try.func21, Try.ntmps21
  go_wp2_with (first | (go_at_call 18; refine (igcd_any n d _ (by omega) (by omega) (by omega) (by omega)).mono ?_; rintro e w1 ⟨rfl, hb1⟩; obtain ⟨hc, hf⟩ := bcell hb1; have hz : w.heap.size < w1.heap.size := (by have := hb1.size; simp at this; omega)))
  have hbw : Below w.heap.size w w1 := ((Below.refl _ _).alloc (Nat.le_refl _) _).trans (hb1.mono (by simp))
  go_wp2_with fail
  go_region
  go_wp2_with fail
  refine (iFracValid_any _ _ _).mono ?_
  rintro e w2 ⟨rfl, hb2⟩
  have hbw2 : Below w.heap.size w w2 := ((hbw.alloc (by omega) _).drew).trans (hb2.mono (by simp; omega))
  obtain ⟨hc2, hf2⟩ := bcell hb2
  have hz2 : w.heap.size < w2.heap.size := (by have := hb2.size; simp at this; omega)
  have hk : ∀ b o, b < w1.heap.size → w2.cell? ⟨b, o, none⟩ = w1.cell? ⟨b, o, none⟩ := fun b o hb => (hc2 b o (by simp; omega)).trans (by simp [World.cell?_alloc_lt _ _ ⟨b, o, none⟩ hb])
  have hkf : ∀ b o, b < w1.heap.size → w2.frozen? ⟨b, o, none⟩ = w1.frozen? ⟨b, o, none⟩ := fun b o hb => (hf2 b o (by simp; omega)).trans (by simp; exact World.frozen?_of_block (Below.heap_alloc _ _ _ hb))
  go_wp2_with fail
  refine bodyPost_ret (v := .tuple #[.agg #[.int .i64 0, .int .i64 0], .bool false]) (by simp [results, Try.results21, go_sem, hk, hc, hz]) rfl ⟨rfl, ?_⟩
  go_grown
end Go.Proofs.Yticfncjhghjanaa
