/- FnExactFracLess: whatever its arguments are, the law FnExactFracLess of the given program returns true, and leaves all memory as it was. -/
import Derived.Test.YtfahgdindfggoaaKit
import Derived.Test.YtfahgdindfggoaaFrWalkC
namespace Go.Proofs.Ytfahgdindfggoaa.fnExactFracLess
open Go.ChangeShapes Go.WideShapes Go.ChangeAt Go.RowKit Go.Joins
open Go.ChangeMaps (open_string shut_string)
set_option linter.unusedVariables false

set_option maxHeartbeats 800000 in
/-- the walk -/
theorem walk (w : World) (n0 d0 : Int) (n1 d1 : Int) :
    Calls Try.prog 7 #[.agg #[.int .i64 n0, .int .i64 d0], .agg #[.int .i64 n1, .int .i64 d1]] w fun e w' => e = .returned (.bool true) ∧ Below w.heap.size w w' := by
  go_enter Try.func7, Try.ntmps7
  go_wp2_with fail
  go_region_held3 (fun w' => w'.cell? ⟨w.heap.size, 0, none⟩ = some (.int .i64 n0) ∧ w'.cell? ⟨w.heap.size, 1, none⟩ = some (.int .i64 d0) ∧ w'.cell? ⟨w.heap.size + 1, 0, none⟩ = some (.int .i64 n1) ∧ w'.cell? ⟨w.heap.size + 1, 1, none⟩ = some (.int .i64 d1))
    (go_keep)
    (first
      | (go_at_call_of 20 (Value.agg #[Value.int .i64 n0, Value.int .i64 d0]); refine (toFrac_any _ _ _).mono ?_; rintro e w1 ⟨rfl, hb1⟩; obtain ⟨hB0, hz0, c0_0, c0_1, c0_2, c0_3⟩ := start2 w (.int .i64 n0) (.int .i64 d0) (.int .i64 n1) (.int .i64 d1) 30 30 _ rfl; obtain ⟨hbw1, hz1, hc1, hf1⟩ := bfacts (k := 1) hb1 hB0 hz0; have hz1_0 : w.heap.size < w1.heap.size := (by omega); have hz1_1 : w.heap.size + 1 < w1.heap.size := (by omega); have c1_0 := keepc hb1 (by omega) c0_0; have c1_1 := keepc hb1 (by omega) c0_1; have c1_2 := keepc hb1 (by omega) c0_2; have c1_3 := keepc hb1 (by omega) c0_3)
      | (go_at_call_of 20 (Value.agg #[Value.int .i64 n1, Value.int .i64 d1]); refine (toFrac_any _ _ _).mono ?_; rintro e w2 ⟨rfl, hb2⟩; obtain ⟨hbw2, hz2, hc2, hf2⟩ := bfacts (k := 1) hb2 hbw1 hz1; have hz2_0 : w.heap.size < w2.heap.size := (by omega); have hz2_1 : w.heap.size + 1 < w2.heap.size := (by omega); have c2_0 := keepc hb2 (by omega) c1_0; have c2_1 := keepc hb2 (by omega) c1_1; have c2_2 := keepc hb2 (by omega) c1_2; have c2_3 := keepc hb2 (by omega) c1_3)
      | (go_at_call 22; refine (sFracLess_any _ _ _ _ _).mono ?_; rintro e w3 ⟨rfl, hb3⟩; obtain ⟨hbw3, hz3, hc3, hf3⟩ := bfacts (k := 1) hb3 hbw2 hz2; have hz3_0 : w.heap.size < w3.heap.size := (by omega); have hz3_1 : w.heap.size + 1 < w3.heap.size := (by omega); have c3_0 := keepc hb3 (by omega) c2_0; have c3_1 := keepc hb3 (by omega) c2_1; have c3_2 := keepc hb3 (by omega) c2_2; have c3_3 := keepc hb3 (by omega) c2_3))
  go_wp2_with fail
  go_region_held3 (fun w' => w'.cell? ⟨w.heap.size, 0, none⟩ = some (.int .i64 n0) ∧ w'.cell? ⟨w.heap.size, 1, none⟩ = some (.int .i64 d0) ∧ w'.cell? ⟨w.heap.size + 1, 0, none⟩ = some (.int .i64 n1) ∧ w'.cell? ⟨w.heap.size + 1, 1, none⟩ = some (.int .i64 d1))
    (go_keep)
    (first
      | (go_at_call_of 20 (Value.agg #[Value.int .i64 n0, Value.int .i64 d0]); refine (toFrac_any _ _ _).mono ?_; rintro e w4 ⟨rfl, hb4⟩; have hb4 := below_undrew hb4; obtain ⟨hbw4, hz4, hc4, hf4⟩ := bfacts (k := 1) hb4 hbw3 hz3; have hz4_0 : w.heap.size < w4.heap.size := (by omega); have hz4_1 : w.heap.size + 1 < w4.heap.size := (by omega); have c4_0 := keepc hb4 (by omega) c3_0; have c4_1 := keepc hb4 (by omega) c3_1; have c4_2 := keepc hb4 (by omega) c3_2; have c4_3 := keepc hb4 (by omega) c3_3)
      | (go_at_call_of 20 (Value.agg #[Value.int .i64 n1, Value.int .i64 d1]); refine (toFrac_any _ _ _).mono ?_; rintro e w5 ⟨rfl, hb5⟩; obtain ⟨hbw5, hz5, hc5, hf5⟩ := bfacts (k := 1) hb5 hbw4 hz4; have hz5_0 : w.heap.size < w5.heap.size := (by omega); have hz5_1 : w.heap.size + 1 < w5.heap.size := (by omega); have c5_0 := keepc hb5 (by omega) c4_0; have c5_1 := keepc hb5 (by omega) c4_1; have c5_2 := keepc hb5 (by omega) c4_2; have c5_3 := keepc hb5 (by omega) c4_3)
      | (go_at_call 23; refine (iFracLess_any _ _ _ _ _).mono ?_; rintro e w6 ⟨rfl, hb6⟩; obtain ⟨hbw6, hz6, hc6, hf6⟩ := bfacts (k := 1) hb6 hbw5 hz5; have hz6_0 : w.heap.size < w6.heap.size := (by omega); have hz6_1 : w.heap.size + 1 < w6.heap.size := (by omega); have c6_0 := keepc hb6 (by omega) c5_0; have c6_1 := keepc hb6 (by omega) c5_1; have c6_2 := keepc hb6 (by omega) c5_2; have c6_3 := keepc hb6 (by omega) c5_3))
  go_wp2_with fail
  go_ret
  exact ⟨rfl, hbw6⟩

set_option maxRecDepth 100000 in
theorem lifted (os : Os) (started : os.Started) (H : Type) (enc : TypeId × Value → H) :
    ReturnsInHanded {} Try.checked os 7 .any (Rows.fnExactFracLessSpec.pre6 enc Try.prog Try.f7 Rows.fnExactFracLessRow.domain false) (Rows.fnExactFracLessSpec.post enc Try.prog Try.f7 false true false false) := by
  refine returnsInHanded_of_change (C := Try.checked) own started (by kernel_rfl) Try.func7
    (ChangeSpec.witness6 (enc := enc) (C := Try.checked) false ⟨#[], #[.agg #[.int .i64 0, .int .i64 0], .agg #[.int .i64 0, .int .i64 0]], []⟩ 8 (by kernel_rfl) (by kernel_rfl) (by kernel_rfl) (by kernel_rfl)) ?_
  intro W base args ds gs before hval0 hW hcnd _
  have hval : ∀ (j : Nat) t v, Try.f7.params[j]? = some t → args[j]? = some v → Value.okWide Try.prog W .any base t v := hval0
  have hW' := hW
  obtain ⟨p, q, hA0, hV, rfl, hfz, hnd⟩ := hW
  have hA : DataW.TrodAll enc Try.prog W 0 (fun _ => true) true Try.f7.params.toList args.toList ds p := hA0
  rw [Try.params7] at hA hval
  obtain ⟨v0, vs0, d0, ds0, p0, q0, hargs, rfl, rfl, h0, r0⟩ := trodAll_cons hA
  obtain ⟨v1, vs1, d1, ds1, p1, q1, rfl, rfl, rfl, h1, r1⟩ := trodAll_cons r0
  obtain ⟨rfl, rfl, rfl⟩ := trodAll_nil r1
  obtain rfl : args = #[v0, v1] := by cases args; simp_all
  obtain ⟨rfl, rfl⟩ := trodVars_none hV
  have k0 := h0
  have lt0 : ∀ x ∈ p0, x.block < W.heap.size := by obtain ⟨m, hm⟩ := k0; exact DataW.trod_lt m _ _ _ hm
  obtain ⟨c00, c10, y00, y10, m0, rfl, rfl, rfl, hy00, hy10⟩ := open_agg2 Try.underlying30 (by kernel_rfl) (by kernel_rfl) (hval 0 30 v0 rfl rfl) h0
  obtain ⟨n0, e00, rfl, wa0⟩ := DataW.trod_int Try.underlying3 hy00
  obtain ⟨dd0, e10, rfl, wb0⟩ := DataW.trod_int Try.underlying3 hy10
  simp at e00 e10
  subst e00 e10
  have k1 := h1
  have lt1 : ∀ x ∈ p1, x.block < W.heap.size := by obtain ⟨m, hm⟩ := k1; exact DataW.trod_lt m _ _ _ hm
  obtain ⟨c01, c11, y01, y11, m1, rfl, rfl, rfl, hy01, hy11⟩ := open_agg2 Try.underlying30 (by kernel_rfl) (by kernel_rfl) (hval 1 30 v1 rfl rfl) h1
  obtain ⟨n1, e01, rfl, wa1⟩ := DataW.trod_int Try.underlying3 hy01
  obtain ⟨dd1, e11, rfl, wb1⟩ := DataW.trod_int Try.underlying3 hy11
  simp at e01 e11
  subst e01 e11
  clear hA0 hval0
  refine (walk W n0 dd0 n1 dd1).mono fun e W' ⟨he, bel⟩ => ?_
  subst he
  exact ⟨_, rfl, _, _, _, [], _, [], hW', trodAll_mk1 (shut_bool Try.underlying4 _), (trodAll_cons_mk (Below.trod laidOut (by kernel_rfl) (of_decide_eq_true (by kernel_rfl)) k0 bel lt0) (trodAll_cons_mk (Below.trod laidOut (by kernel_rfl) (of_decide_eq_true (by kernel_rfl)) k1 bel lt1) trodAll_mk0)), rfl, bel.frame _, fun h => by cases h⟩

theorem over : Rows.fnExactFracLessRow.holds Try.pinned (OpenSpec.ofChange Rows.fnExactFracLessSpec) :=
  OpenClaim.holds_of_wide 7 Try.f7 rfl rfl rfl rfl rfl rfl rfl ⟨rfl, rfl, rfl, rfl, rfl⟩ rfl rfl rfl rfl rfl (by kernel_rfl) Try.func7 (by kernel_rfl)
    (of_decide_eq_true (by kernel_rfl)) (by unfold Func.isWrapper; first | (rw [if_pos (by decide +kernel)]; kernel_rfl) | (rw [if_neg (by decide +kernel)]; exact ⟨rfl, rfl⟩))
    (fun os started H enc _ => lifted os started H enc)

/-- the statement -/
theorem proved : Rows.FnExactFracLessSaid := over
#print axioms proved
end Go.Proofs.Ytfahgdindfggoaa.fnExactFracLess
