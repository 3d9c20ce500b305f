/- l93Frac and the functions that draw fractions. -/
import Derived.Test.YticfncjhghjanaaFrKit
import Derived.Test.YticfncjhghjanaaOrd
namespace Go.Proofs.Yticfncjhghjanaa
open Go.RowKit
set_option linter.unusedSimpArgs false

def FracPost (W : World) (g P : Nat) (e : Ending) (w' : World) : Prop :=
  ∃ n d : Int, e = .returned (.agg #[.int .i64 n, .int .i64 d]) ∧ Dr W g (P + 13) w'

theorem Dr.set {W w1 : World} {g P b o : Nat} (h : Dr W g P w1) (hb : W.heap.size ≤ b) (u : Value) : Dr W g P (w1.setCell ⟨b, o, none⟩ u) := h.belowB ((Below.refl _ _).setCell hb _)
theorem carry {W W1 w1 : World} {g b o : Nat} {v : Value} (hg : W1.grownBy w1 (some g)) (hB : Below W.heap.size W W1) (hlt : b < W.heap.size) (hne : ¬ b = g) (h : W.cell? ⟨b, o, none⟩ = some v) : w1.cell? ⟨b, o, none⟩ = some v :=
  ((gcell hg).1 b o (Nat.lt_of_lt_of_le hlt hB.size) hne).trans ((hB.cell (p := ⟨b, o, none⟩) hlt).trans h)
theorem carryf {W W1 w1 : World} {g b o : Nat} {v : Bool} (hg : W1.grownBy w1 (some g)) (hB : Below W.heap.size W W1) (hlt : b < W.heap.size) (hne : ¬ b = g) (h : W.frozen? ⟨b, o, none⟩ = v) : w1.frozen? ⟨b, o, none⟩ = v :=
  ((gcell hg).2 b o (Nat.lt_of_lt_of_le hlt hB.size) hne).trans ((hB.frozen (p := ⟨b, o, none⟩) hlt).trans h)

theorem stored2 {w : World} {b : Nat} {u v x y : Value} (h0 : w.cell? ⟨b, 0, none⟩ = some u) (h1 : w.cell? ⟨b, 1, none⟩ = some v) :
    ((w.setCell ⟨b, 0, none⟩ x).setCell ⟨b, 1, none⟩ y).cell? ⟨b, 0, none⟩ = some x ∧ ((w.setCell ⟨b, 0, none⟩ x).setCell ⟨b, 1, none⟩ y).cell? ⟨b, 1, none⟩ = some y := by
  have h1' : (w.setCell ⟨b, 0, none⟩ x).cell? ⟨b, 1, none⟩ = some v := (World.cell?_setCell_other _ _ _ _ (by simp)).trans h1
  exact ⟨(World.cell?_setCell_other _ _ _ _ (by simp)).trans (World.cell?_setCell_same _ _ _ h0), World.cell?_setCell_same _ _ _ h1'⟩

/-- what each operation of the third region yields -/
def FrR (g B : Nat) : Nat → Value → World → Prop
  | 0, v, w | 5, v, w => ∃ b, v = .slice (some ⟨b, 0, none⟩) 3 3 ∧ b ≠ g ∧ b ≠ B ∧ b < w.heap.size ∧ ∀ j, j < 3 → ∃ u, w.cell? ⟨b, j, none⟩ = some (.int .i64 u)
  | 1, v, _ | 6, v, _ => v = .pointer (some ⟨g, 0, none⟩)
  | 2, v, _ | 7, v, _ => ∃ x : Int, v = .int .i64 x ∧ 0 ≤ x ∧ x < 3
  | 3, v, w | 8, v, w => ∃ b k u, v = .pointer (some ⟨b, k, none⟩) ∧ b ≠ g ∧ b ≠ B ∧ b < w.heap.size ∧ w.cell? ⟨b, k, none⟩ = some (.int .i64 u)
  | 4, v, _ | 9, v, _ => ∃ u, v = .int .i64 u
  | 10, v, _ => ∃ n d, v = .agg #[.int .i64 n, .int .i64 d]
  | _, _, _ => True
theorem FrR.keep {g B : Nat} : ∀ (j : Nat) (v : Value) (w w' : World), OrdG g B w w' → FrR g B j v w → FrR g B j v w' := by
  intro j v w w' hG h
  have l1 : ∀ {v : Value}, (∃ b, v = .slice (some ⟨b, 0, none⟩) 3 3 ∧ b ≠ g ∧ b ≠ B ∧ b < w.heap.size ∧ ∀ j, j < 3 → ∃ u, w.cell? ⟨b, j, none⟩ = some (.int .i64 u)) → ∃ b, v = .slice (some ⟨b, 0, none⟩) 3 3 ∧ b ≠ g ∧ b ≠ B ∧ b < w'.heap.size ∧ ∀ j, j < 3 → ∃ u, w'.cell? ⟨b, j, none⟩ = some (.int .i64 u) :=
    fun ⟨b, e, h1, h2, h3, h4⟩ => ⟨b, e, h1, h2, Nat.lt_of_lt_of_le h3 hG.1, fun j hj => let ⟨u, hu⟩ := h4 j hj; ⟨u, hG.cell h3 h1 h2 hu⟩⟩
  have l2 : ∀ {v : Value}, (∃ b k u, v = .pointer (some ⟨b, k, none⟩) ∧ b ≠ g ∧ b ≠ B ∧ b < w.heap.size ∧ w.cell? ⟨b, k, none⟩ = some (.int .i64 u)) → ∃ b k u, v = .pointer (some ⟨b, k, none⟩) ∧ b ≠ g ∧ b ≠ B ∧ b < w'.heap.size ∧ w'.cell? ⟨b, k, none⟩ = some (.int .i64 u) :=
    fun ⟨b, k, u, e, h1, h2, h3, h4⟩ => ⟨b, k, u, e, h1, h2, Nat.lt_of_lt_of_le h3 hG.1, hG.cell h3 h1 h2 h4⟩
  match j, h with
  | 0, h => exact l1 h
  | 5, h => exact l1 h
  | 1, h => exact h
  | 6, h => exact h
  | 2, h => exact h
  | 7, h => exact h
  | 3, h => exact l2 h
  | 8, h => exact l2 h
  | 4, h => exact h
  | 9, h => exact h
  | 10, h => exact h
  | n + 11, _ => trivial
def FrJ (W : World) (g P : Nat) (k : Nat) (w : World) : Prop :=
  Dr W g (P + k) w ∧ W.heap.size < w.heap.size ∧ (∃ n d : Int, w.cell? ⟨W.heap.size, 0, none⟩ = some (.int .i64 n) ∧ w.cell? ⟨W.heap.size, 1, none⟩ = some (.int .i64 d)) ∧ w.frozen? ⟨W.heap.size, 0, none⟩ = false ∧ w.frozen? ⟨W.heap.size, 1, none⟩ = false
theorem FrJ.next {W w w' : World} {g P k : Nat} (h : FrJ W g P k w) (hne : g ≠ W.heap.size) (hd : Dr W g (P + (k + 1)) w') (hg : OrdG g g w w') : FrJ W g P (k + 1) w' := by
  obtain ⟨_, h2, ⟨n, d, h3, h4⟩, h5, h6⟩ := h
  refine ⟨hd, Nat.lt_of_lt_of_le h2 hg.1, ⟨n, d, hg.cell h2 (Ne.symm hne) (Ne.symm hne) h3, hg.cell h2 (Ne.symm hne) (Ne.symm hne) h4⟩, ?_, ?_⟩
  · exact (World.frozen?_of_block (hg.2 _ h2 (Ne.symm hne) (Ne.symm hne))).trans h5
  · exact (World.frozen?_of_block (hg.2 _ h2 (Ne.symm hne) (Ne.symm hne))).trans h6
theorem FrJ.same {W w : World} {g P k : Nat} (h : FrJ W g P k w) : FrJ W g P (k + 1) w := ⟨h.1.mono (by omega), h.2⟩
theorem FrJ.alloc {W w : World} {g P k : Nat} (h : FrJ W g P k w) (hne : g ≠ W.heap.size) (o : Obj) : FrJ W g P (k + 1) (w.alloc o) :=
  h.next hne ((h.1.mono (by omega)).alloc o) (OrdG.below ((Below.refl _ _).alloc (Nat.le_refl _) o))
theorem frLit {w : World} {g B : Nat} (x y z : Int) (T : TypeId) (hg : g < w.heap.size) (hB : B < w.heap.size) : ∃ b, Value.slice (some ⟨w.heap.size, 0, none⟩) 3 3 = .slice (some ⟨b, 0, none⟩) 3 3 ∧ b ≠ g ∧ b ≠ B ∧ b < (w.alloc (.cells #[.int .i64 x, .int .i64 y, .int .i64 z] T)).heap.size ∧ ∀ j, j < 3 → ∃ u, (w.alloc (.cells #[.int .i64 x, .int .i64 y, .int .i64 z] T)).cell? ⟨b, j, none⟩ = some (.int .i64 u) := by
  refine ⟨_, rfl, by omega, by omega, by simp, fun j hj => ?_⟩
  match j, hj with
  | 0, _ => exact ⟨x, by simp [go_sem]⟩
  | 1, _ => exact ⟨y, by simp [go_sem]⟩
  | 2, _ => exact ⟨z, by simp [go_sem]⟩

set_option maxHeartbeats 12800000 in
theorem l93Frac_any (g P : Nat) (W : World) (hP : P ≤ 900000) (hr : Rdr W g P) :
    Calls Try.prog 16 #[.pointer (some ⟨g, 0, none⟩)] W (FracPost W g P) := by
  have hgl := hr.lt
  have nW : ¬ W.heap.size = g := by omega
  have nW' : ¬ g = W.heap.size := by omega
  have hd0 := Dr.start hr
  clear hr
  go_enter Try.func16, Try.ntmps16
  go_wp2_with fail
  refine (pickD_any _ (hd0.alloc _) (by omega)).mono ?_
  rintro e w1 ⟨v1, rfl, hv10, hv11', hd1, hg1, -⟩
  clear hv11' hd0
  have b_0 : w1.cell? ⟨W.heap.size, 0, none⟩ = some (.int .i64 0) := carry hg1 (Below.refl _ _) (by simp) nW (by simp [go_sem])
  have b_1 : w1.cell? ⟨W.heap.size, 1, none⟩ = some (.int .i64 0) := carry hg1 (Below.refl _ _) (by simp) nW (by simp [go_sem])
  have b_2 : w1.frozen? ⟨W.heap.size, 0, none⟩ = false := carryf hg1 (Below.refl _ _) (by simp) nW (by simp [go_sem])
  have b_3 : w1.frozen? ⟨W.heap.size, 1, none⟩ = false := carryf hg1 (Below.refl _ _) (by simp) nW (by simp [go_sem])
  have hz1 : W.heap.size < w1.heap.size := by have h := hg1.size; simp at h; omega
  clear hg1
  by_cases h0 : v1 = 0
  · subst h0
    clear hv10
    go_wp2_with fail
    refine (pickD_any _ hd1 (by omega)).mono ?_
    rintro e w2 ⟨v2, rfl, -, -, hd2, hg2, -⟩
    have c_0 := carry hg2 (Below.refl _ _) hz1 nW b_0
    have c_1 := carry hg2 (Below.refl _ _) hz1 nW b_1
    have c_2 := carryf hg2 (Below.refl _ _) hz1 nW b_2
    have c_3 := carryf hg2 (Below.refl _ _) hz1 nW b_3
    have hz2 : W.heap.size < w2.heap.size := by have h := hg2.size; omega
    clear hg2 hd1 b_0 b_1 b_2 b_3
    go_wp2_with fail
    refine (pickD_any _ hd2 (by omega)).mono ?_
    rintro e w3 ⟨v3, rfl, -, -, hd3, hg3, -⟩
    have e_0 := carry hg3 (Below.refl _ _) hz2 nW c_0
    have e_1 := carry hg3 (Below.refl _ _) hz2 nW c_1
    have e_2 := carryf hg3 (Below.refl _ _) hz2 nW c_2
    have e_3 := carryf hg3 (Below.refl _ _) hz2 nW c_3
    clear hg3 hd2 c_0 c_1 c_2 c_3
    have hst := stored2 e_0 e_1 (x := .int .i64 v2) (y := .int .i64 v3)
    go_wp2_with fail
    refine bodyPost_ret (v := .agg #[.int .i64 v2, .int .i64 v3]) (by simp [results, Try.results16, go_sem, hst.1, hst.2]) rfl ⟨v2, v3, rfl, ?_⟩
    exact ((hd3.set (Nat.le_refl _) _).set (Nat.le_refl _) _).mono (by omega)
  · have h0' : (v1 == 0) = false := by simpa using h0
    by_cases h1 : v1 = 1
    · subst h1
      clear hv10 h0
      have ng1 : ¬ w1.heap.size = g := by omega
      have ng2 : ¬ w1.heap.size + 1 = g := by omega
      have ng3 : ¬ W.heap.size = w1.heap.size := by omega
      have ng4 : ¬ w1.heap.size = W.heap.size := by omega
      have ng5 : g < w1.heap.size := by omega
      go_wp2_with fail
      have hJ0 : FrJ W g (P + 1) 0 w1.drew := ⟨hd1.drew, hz1, ⟨0, 0, b_0, b_1⟩, b_2, b_3⟩
      have hne : g ≠ W.heap.size := by omega
      clear b_0 b_1 b_2 b_3 ng1 ng2 ng3 ng4 ng5 nW nW' hd1 hz1
      refine wp_region_ord (FrR g W.heap.size) (FrJ W g (P + 1)) (OrdG g W.heap.size) (by kernel_rfl) (by kernel_rfl) hJ0 FrR.keep ?_ ?_
      · clear hJ0
        refine ⟨?_, ?_, ?_, ?_, ?_, ?_, ?_, ?_, ?_, ?_, ?_, ?_, trivial⟩
        case refine_1 | refine_6 =>
          intro a w k hk hJ hold hdep K hK
          have hg := hJ.1.lt
          have hg2 := hJ.2.1
          refine ord_value rfl (by simp [execOp, Act.eval, go_sem]; rfl) (hK _ _ (hJ.alloc hne _) (OrdG.below ((Below.refl _ _).alloc (Nat.le_refl _) _)) (frLit _ _ _ _ (by omega) hg2))
        case refine_2 | refine_7 =>
          intro a w k hk hJ hold hdep K hK
          have h0 := hold 0 (by kernel_rfl)
          refine ord_value rfl (by simp [execOp, h0]; rfl) (hK _ _ hJ.same (OrdG.refl _ _ _) rfl)
        case refine_3 =>
          intro a w k hk hJ hold hdep K hK
          have hk12 : k < 12 := hk
          refine ord_enter rfl (exec_pick _ _ _ rfl (hdep 1 _ 16 rfl rfl (by kernel_rfl)) rfl) ((pickD_any _ hJ.1 (by omega)).mono ?_)
          rintro e w2 ⟨v, rfl, h0, h3, hd2, hg2, hz2⟩
          exact ⟨_, rfl, hK _ _ (hJ.next hne hd2 (OrdG.grown hg2)) (OrdG.grown hg2) ⟨v, rfl, h0, h3 (by omega)⟩⟩
        case refine_4 =>
          intro a w k hk hJ hold hdep K hK
          obtain ⟨b, hb, n1, n2, n3, hc⟩ := hdep 0 _ 15 rfl rfl (by kernel_rfl)
          obtain ⟨x, hx, x0, x3⟩ := hdep 2 _ 17 rfl rfl (by kernel_rfl)
          obtain ⟨m, rfl⟩ : ∃ m : Nat, x = m := ⟨x.toNat, by omega⟩
          obtain ⟨u, hu⟩ := hc m (by omega)
          exact ord_value rfl (v := .pointer (some ⟨b, m, none⟩)) (by clear hu; rcases (show m = 0 ∨ m = 1 ∨ m = 2 by omega) with rfl | rfl | rfl <;> (simp only [execOp, hb, hx]; simp [go_sem]; try rfl)) (hK _ _ hJ.same (OrdG.refl _ _ _) ⟨b, m, u, rfl, n1, n2, n3, hu⟩)
        case refine_5 =>
          intro a w k hk hJ hold hdep K hK
          obtain ⟨b, m, u, hb, n1, n2, n3, hu⟩ := hdep 3 _ 18 rfl rfl (by kernel_rfl)
          exact ord_value rfl (v := .int .i64 u) (by simp only [execOp, hb]; simp [hu, go_sem]) (hK _ _ hJ.same (OrdG.refl _ _ _) ⟨u, rfl⟩)
        case refine_8 =>
          intro a w k hk hJ hold hdep K hK
          have hk12 : k < 12 := hk
          refine ord_enter rfl (exec_pick _ _ _ rfl (hdep 6 _ 21 rfl rfl (by kernel_rfl)) rfl) ((pickD_any _ hJ.1 (by omega)).mono ?_)
          rintro e w2 ⟨v, rfl, h0, h3, hd2, hg2, hz2⟩
          exact ⟨_, rfl, hK _ _ (hJ.next hne hd2 (OrdG.grown hg2)) (OrdG.grown hg2) ⟨v, rfl, h0, h3 (by omega)⟩⟩
        case refine_9 =>
          intro a w k hk hJ hold hdep K hK
          obtain ⟨b, hb, n1, n2, n3, hc⟩ := hdep 5 _ 20 rfl rfl (by kernel_rfl)
          obtain ⟨x, hx, x0, x3⟩ := hdep 7 _ 22 rfl rfl (by kernel_rfl)
          obtain ⟨m, rfl⟩ : ∃ m : Nat, x = m := ⟨x.toNat, by omega⟩
          obtain ⟨u, hu⟩ := hc m (by omega)
          exact ord_value rfl (v := .pointer (some ⟨b, m, none⟩)) (by clear hu; rcases (show m = 0 ∨ m = 1 ∨ m = 2 by omega) with rfl | rfl | rfl <;> (simp only [execOp, hb, hx]; simp [go_sem]; try rfl)) (hK _ _ hJ.same (OrdG.refl _ _ _) ⟨b, m, u, rfl, n1, n2, n3, hu⟩)
        case refine_10 =>
          intro a w k hk hJ hold hdep K hK
          obtain ⟨b, m, u, hb, n1, n2, n3, hu⟩ := hdep 8 _ 23 rfl rfl (by kernel_rfl)
          exact ord_value rfl (v := .int .i64 u) (by simp only [execOp, hb]; simp [hu, go_sem]) (hK _ _ hJ.same (OrdG.refl _ _ _) ⟨u, rfl⟩)
        case refine_11 =>
          intro a w k hk hJ hold hdep K hK
          obtain ⟨n, hn⟩ := hdep 4 _ 19 rfl rfl (by kernel_rfl)
          obtain ⟨d, hd⟩ := hdep 9 _ 24 rfl rfl (by kernel_rfl)
          exact ord_value rfl (v := .agg #[.int .i64 n, .int .i64 d]) (by simp [execOp, hn, hd]; simp [go_sem]) (hK _ _ hJ.same (OrdG.refl _ _ _) ⟨n, d, rfl⟩)
        case refine_12 =>
          intro a w k hk hJ hold hdep K hK
          obtain ⟨n, d, hv⟩ := hdep 10 _ 25 rfl rfl (by kernel_rfl)
          have hp := hold 2 (by kernel_rfl)
          have hp' : a.eval (.tmp 2) = .pointer (some ⟨W.heap.size, 0, none⟩) := hp
          obtain ⟨h1, h2, ⟨n0, d0, h3, h4⟩, h5, h6⟩ := hJ
          have hst := stored2 h3 h4 (x := .int .i64 n) (y := .int .i64 d)
          refine ord_skip rfl (w' := (w.setCell ⟨W.heap.size, 0, none⟩ (.int .i64 n)).setCell ⟨W.heap.size, 1, none⟩ (.int .i64 d)) (by clear hst; simp only [execOp, hp', hv]; simp [h3, h4, h5, h6, go_sem]) (hK _ _ ⟨((h1.set (Nat.le_refl _) _).set (Nat.le_refl _) _).mono (by omega), by simpa [World.setCell] using h2, ⟨n, d, hst.1, hst.2⟩, ?_, ?_⟩ (((OrdG.refl _ _ _).setCell _).setCell _) trivial)
          · clear hst; simp [go_sem, h5]
          · clear hst; simp [go_sem, h6]
      · rintro us w hl ⟨hd, -, ⟨n, d, h0c, h1c⟩, -, -⟩ -
        obtain ⟨u0, u1, u2, u3, u4, u5, u6, u7, u8, u9, u10, u11, rfl⟩ : ∃ u0 u1 u2 u3 u4 u5 u6 u7 u8 u9 u10 u11, us = [u0, u1, u2, u3, u4, u5, u6, u7, u8, u9, u10, u11] := by
          match us, hl with
          | [u0, u1, u2, u3, u4, u5, u6, u7, u8, u9, u10, u11], _ => exact ⟨_, _, _, _, _, _, _, _, _, _, _, _, rfl⟩
        have hdc := hd.mono (show P + 1 + _ ≤ P + 13 by simp)
        clear hl hd hJ0
        simp only [List.map_cons, List.map_nil, ordFill, Act.put]
        go_wp2_with fail
        exact bodyPost_ret (v := .agg #[.int .i64 n, .int .i64 d]) (by simp [results, Try.results16, go_sem, h0c, h1c]) rfl ⟨n, d, rfl, hdc⟩
    · have h1' : (v1 == 1) = false := by simpa using h1
      clear h0 h1
      go_wp2_with fail
      refine (pickD_any _ hd1 (by omega)).mono ?_
      rintro e w2 ⟨v2, rfl, hv20, hv21', hd2, hg2, -⟩
      have hv21 := hv21' (by omega)
      clear hv21'
      have c_0 := carry hg2 (Below.refl _ _) hz1 nW b_0
      have c_1 := carry hg2 (Below.refl _ _) hz1 nW b_1
      have c_2 := carryf hg2 (Below.refl _ _) hz1 nW b_2
      have c_3 := carryf hg2 (Below.refl _ _) hz1 nW b_3
      have hz2 : W.heap.size < w2.heap.size := by have h := hg2.size; omega
      clear hg2 hd1 b_0 b_1 b_2 b_3
      go_wp2_with fail
      refine (pickD_any _ hd2 (by omega)).mono ?_
      rintro e w3 ⟨v3, rfl, hv30, hv31', hd3, hg3, -⟩
      have hv31 := hv31' (by omega)
      clear hv31'
      have e_0 := carry hg3 (Below.refl _ _) hz2 nW c_0
      have e_1 := carry hg3 (Below.refl _ _) hz2 nW c_1
      have e_2 := carryf hg3 (Below.refl _ _) hz2 nW c_2
      have e_3 := carryf hg3 (Below.refl _ _) hz2 nW c_3
      have hz3 : W.heap.size < w3.heap.size := by have h := hg3.size; omega
      clear hg3 hd2 c_0 c_1 c_2 c_3
      go_wp2_with fail
      refine (l5Of_any _ _ _ (by omega) (by omega) (by omega) (by omega)).mono ?_
      rintro e w4 ⟨rfl, hb4⟩
      have f_0 := (hb4.cell (p := ⟨W.heap.size, 0, none⟩) hz3).trans e_0
      have f_1 := (hb4.cell (p := ⟨W.heap.size, 1, none⟩) hz3).trans e_1
      have f_2 := (hb4.frozen (p := ⟨W.heap.size, 0, none⟩) hz3).trans e_2
      have f_3 := (hb4.frozen (p := ⟨W.heap.size, 1, none⟩) hz3).trans e_3
      have hst := stored2 f_0 f_1 (x := .int .i64 (Frp.rN (v2 - 20) (1 + v3))) (y := .int .i64 (Frp.rD (v2 - 20) (1 + v3)))
      go_wp2_with fail
      refine bodyPost_ret (v := .agg #[.int .i64 (Frp.rN (v2 - 20) (1 + v3)), .int .i64 (Frp.rD (v2 - 20) (1 + v3))]) (by simp [results, Try.results16, go_sem, hst.1, hst.2]) rfl ⟨_, _, rfl, ?_⟩
      exact ((((hd3.below hb4).set (Nat.le_refl _) _).set (Nat.le_refl _) _)).mono (by omega)
end Go.Proofs.Yticfncjhghjanaa
