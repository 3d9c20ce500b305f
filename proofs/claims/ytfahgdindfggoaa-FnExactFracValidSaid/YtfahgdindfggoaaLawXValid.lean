/- FnExactFracValid: whatever its arguments are, the law FnExactFracValid of the given program returns true, and leaves all memory as it was. -/
import Derived.Test.YtfahgdindfggoaaKit
import Derived.Test.YtfahgdindfggoaaFrWalkB
namespace Go.Proofs.Ytfahgdindfggoaa.fnExactFracValid
open Go.ChangeShapes Go.WideShapes Go.ChangeAt Go.RowKit Go.Joins
open Go.ChangeMaps (open_string shut_string)
set_option linter.unusedVariables false

set_option maxHeartbeats 800000 in
/-- the walk -/
theorem walk (w : World) (n0 d0 : Int) :
    Calls Try.prog 6 #[.agg #[.int .i64 n0, .int .i64 d0]] w fun e w' => e = .returned (.bool true) ∧ Below w.heap.size w w' := by
  have hB : ∀ o0 : Obj, Below w.heap.size w (w.alloc o0) := fun o0 => by go_grown
  go_enter Try.func6, Try.ntmps6
  go_wp2_with fail
  refine (toFrac_any _ _ _).mono ?_
  rintro e w1 ⟨rfl, hb1⟩
  obtain ⟨hbw1, hz1, hc1, hf1⟩ := bfacts (k := 0) hb1 (hB _) (by simp)
  have hz1_0 : w.heap.size < w1.heap.size := hz1
  go_wp2_with fail
  refine (sFracValid_any _ _ _).mono ?_
  rintro e w2 ⟨rfl, hb2⟩
  obtain ⟨hbw2, hz2, hc2, hf2⟩ := bfacts (k := 0) hb2 hbw1 hz1
  have hz2_0 : w.heap.size < w2.heap.size := hz2
  go_wp2_with fail
  refine (toFrac_any _ _ _).mono ?_
  rintro e w3 ⟨rfl, hb3⟩
  obtain ⟨hbw3, hz3, hc3, hf3⟩ := bfacts (k := 0) hb3 hbw2 hz2
  have hz3_0 : w.heap.size < w3.heap.size := hz3
  go_wp2_with fail
  refine (iFracValid_any _ _ _).mono ?_
  rintro e w4 ⟨rfl, hb4⟩
  obtain ⟨hbw4, hz4, hc4, hf4⟩ := bfacts (k := 0) hb4 hbw3 hz3
  have hz4_0 : w.heap.size < w4.heap.size := hz4
  go_wp2_with fail
  go_ret
  exact ⟨rfl, hbw4⟩

set_option maxRecDepth 100000 in
theorem lifted (os : Os) (started : os.Started) (H : Type) (enc : TypeId × Value → H) :
    ReturnsInHanded {} Try.checked os 6 .any (Rows.fnExactFracValidSpec.pre6 enc Try.prog Try.f6 Rows.fnExactFracValidRow.domain false) (Rows.fnExactFracValidSpec.post enc Try.prog Try.f6 false true false false) := by
  refine returnsInHanded_of_change (C := Try.checked) own started (by kernel_rfl) Try.func6
    (ChangeSpec.witness6 (enc := enc) (C := Try.checked) false ⟨#[], #[.agg #[.int .i64 0, .int .i64 0]], []⟩ 8 (by kernel_rfl) (by kernel_rfl) (by kernel_rfl) (by kernel_rfl)) ?_
  intro W base args ds gs before hval0 hW hcnd _
  have hval : ∀ (j : Nat) t v, Try.f6.params[j]? = some t → args[j]? = some v → Value.okWide Try.prog W .any base t v := hval0
  have hW' := hW
  obtain ⟨p, q, hA0, hV, rfl, hfz, hnd⟩ := hW
  have hA : DataW.TrodAll enc Try.prog W 0 (fun _ => true) true Try.f6.params.toList args.toList ds p := hA0
  rw [Try.params6] at hA hval
  obtain ⟨v0, vs0, d0, ds0, p0, q0, hargs, rfl, rfl, h0, r0⟩ := trodAll_cons hA
  obtain ⟨rfl, rfl, rfl⟩ := trodAll_nil r0
  obtain rfl : args = #[v0] := by cases args; simp_all
  obtain ⟨rfl, rfl⟩ := trodVars_none hV
  have k0 := h0
  have lt0 : ∀ x ∈ p0, x.block < W.heap.size := by obtain ⟨m, hm⟩ := k0; exact DataW.trod_lt m _ _ _ hm
  obtain ⟨c00, c10, y00, y10, m0, rfl, rfl, rfl, hy00, hy10⟩ := open_agg2 Try.underlying30 (by kernel_rfl) (by kernel_rfl) (hval 0 30 v0 rfl rfl) h0
  obtain ⟨n0, e00, rfl, wa0⟩ := DataW.trod_int Try.underlying3 hy00
  obtain ⟨dd0, e10, rfl, wb0⟩ := DataW.trod_int Try.underlying3 hy10
  simp at e00 e10
  subst e00 e10
  clear hA0 hval0
  refine (walk W n0 dd0).mono fun e W' ⟨he, bel⟩ => ?_
  subst he
  exact ⟨_, rfl, _, _, _, [], _, [], hW', trodAll_mk1 (shut_bool Try.underlying4 _), (trodAll_cons_mk (Below.trod laidOut (by kernel_rfl) (of_decide_eq_true (by kernel_rfl)) k0 bel lt0) trodAll_mk0), rfl, bel.frame _, fun h => by cases h⟩

theorem over : Rows.fnExactFracValidRow.holds Try.pinned (OpenSpec.ofChange Rows.fnExactFracValidSpec) :=
  OpenClaim.holds_of_wide 6 Try.f6 rfl rfl rfl rfl rfl rfl rfl ⟨rfl, rfl, rfl, rfl, rfl⟩ rfl rfl rfl rfl rfl (by kernel_rfl) Try.func6 (by kernel_rfl)
    (of_decide_eq_true (by kernel_rfl)) (by unfold Func.isWrapper; first | (rw [if_pos (by decide +kernel)]; kernel_rfl) | (rw [if_neg (by decide +kernel)]; exact ⟨rfl, rfl⟩))
    (fun os started H enc _ => lifted os started H enc)

/-- the statement -/
theorem proved : Rows.FnExactFracValidSaid := over
#print axioms proved
end Go.Proofs.Ytfahgdindfggoaa.fnExactFracValid
