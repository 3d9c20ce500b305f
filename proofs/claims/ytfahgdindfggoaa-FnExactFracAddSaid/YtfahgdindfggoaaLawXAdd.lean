/- FnExactFracAdd: whatever its arguments are, the law FnExactFracAdd of the given program returns true, and leaves all memory as it was. -/
import Derived.Test.YtfahgdindfggoaaKit
import Derived.Test.YtfahgdindfggoaaWalkXAdd
namespace Go.Proofs.Ytfahgdindfggoaa.fnExactFracAdd
open Go.ChangeShapes Go.WideShapes Go.ChangeAt Go.RowKit Go.Joins
open Go.ChangeMaps (open_string shut_string)
set_option linter.unusedVariables false

set_option maxHeartbeats 800000 in
/-- the walk -/
theorem walk (w : World) (n0 d0 : Int) (n1 d1 : Int) :
    Calls Try.prog 10 #[.agg #[.int .i64 n0, .int .i64 d0], .agg #[.int .i64 n1, .int .i64 d1]] w fun e w' => e = .returned (.bool true) ∧ Below w.heap.size w w' := by
  cases h1 : Frp.fv n0 d0 with
  | false => exact wFnExactFracAdd.walk_f1 w n0 d0 n1 d1 h1
  | true =>
    cases h2 : Frp.fv n1 d1 with
    | false => exact wFnExactFracAdd.walk_f2 w n0 d0 n1 d1 h1 h2
    | true =>
      cases hv : Frp.fv (Frp.rN (n0 * d1 + n1 * d0) (d0 * d1)) (Frp.rD (n0 * d1 + n1 * d0) (d0 * d1)) with
      | false => exact wFnExactFracAdd.walk_f3 w n0 d0 n1 d1 h1 h2 hv
      | true => exact wFnExactFracAdd.walk_t w n0 d0 n1 d1 h1 h2 hv

set_option maxRecDepth 100000 in
theorem lifted (os : Os) (started : os.Started) (H : Type) (enc : TypeId × Value → H) :
    ReturnsInHanded {} Try.checked os 10 .any (Rows.fnExactFracAddSpec.pre6 enc Try.prog Try.f10 Rows.fnExactFracAddRow.domain false) (Rows.fnExactFracAddSpec.post enc Try.prog Try.f10 false true false false) := by
  refine returnsInHanded_of_change (C := Try.checked) own started (by kernel_rfl) Try.func10
    (ChangeSpec.witness6 (enc := enc) (C := Try.checked) false ⟨#[], #[.agg #[.int .i64 0, .int .i64 0], .agg #[.int .i64 0, .int .i64 0]], []⟩ 8 (by kernel_rfl) (by kernel_rfl) (by kernel_rfl) (by kernel_rfl)) ?_
  intro W base args ds gs before hval0 hW hcnd _
  have hval : ∀ (j : Nat) t v, Try.f10.params[j]? = some t → args[j]? = some v → Value.okWide Try.prog W .any base t v := hval0
  have hW' := hW
  obtain ⟨p, q, hA0, hV, rfl, hfz, hnd⟩ := hW
  have hA : DataW.TrodAll enc Try.prog W 0 (fun _ => true) true Try.f10.params.toList args.toList ds p := hA0
  rw [Try.params10] at hA hval
  obtain ⟨v0, vs0, d0, ds0, p0, q0, hargs, rfl, rfl, h0, r0⟩ := trodAll_cons hA
  obtain ⟨v1, vs1, d1, ds1, p1, q1, rfl, rfl, rfl, h1, r1⟩ := trodAll_cons r0
  obtain ⟨rfl, rfl, rfl⟩ := trodAll_nil r1
  obtain rfl : args = #[v0, v1] := by cases args; simp_all
  obtain ⟨rfl, rfl⟩ := trodVars_none hV
  have k0 := h0
  have lt0 : ∀ x ∈ p0, x.block < W.heap.size := by obtain ⟨m, hm⟩ := k0; exact DataW.trod_lt m _ _ _ hm
  obtain ⟨c00, c10, y00, y10, m0, rfl, rfl, rfl, hy00, hy10⟩ := open_agg2 Try.underlying30 (by kernel_rfl) (by kernel_rfl) (hval 0 30 v0 rfl rfl) h0
  obtain ⟨n0, e00, rfl, wa0⟩ := DataW.trod_int Try.underlying3 hy00
  obtain ⟨dd0, e10, rfl, wb0⟩ := DataW.trod_int Try.underlying3 hy10
  simp at e00 e10
  subst e00 e10
  have k1 := h1
  have lt1 : ∀ x ∈ p1, x.block < W.heap.size := by obtain ⟨m, hm⟩ := k1; exact DataW.trod_lt m _ _ _ hm
  obtain ⟨c01, c11, y01, y11, m1, rfl, rfl, rfl, hy01, hy11⟩ := open_agg2 Try.underlying30 (by kernel_rfl) (by kernel_rfl) (hval 1 30 v1 rfl rfl) h1
  obtain ⟨n1, e01, rfl, wa1⟩ := DataW.trod_int Try.underlying3 hy01
  obtain ⟨dd1, e11, rfl, wb1⟩ := DataW.trod_int Try.underlying3 hy11
  simp at e01 e11
  subst e01 e11
  clear hA0 hval0
  refine (walk W n0 dd0 n1 dd1).mono fun e W' ⟨he, bel⟩ => ?_
  subst he
  exact ⟨_, rfl, _, _, _, [], _, [], hW', trodAll_mk1 (shut_bool Try.underlying4 _), (trodAll_cons_mk (Below.trod laidOut (by kernel_rfl) (of_decide_eq_true (by kernel_rfl)) k0 bel lt0) (trodAll_cons_mk (Below.trod laidOut (by kernel_rfl) (of_decide_eq_true (by kernel_rfl)) k1 bel lt1) trodAll_mk0)), rfl, bel.frame _, fun h => by cases h⟩

theorem over : Rows.fnExactFracAddRow.holds Try.pinned (OpenSpec.ofChange Rows.fnExactFracAddSpec) :=
  OpenClaim.holds_of_wide 10 Try.f10 rfl rfl rfl rfl rfl rfl rfl ⟨rfl, rfl, rfl, rfl, rfl⟩ rfl rfl rfl rfl rfl (by kernel_rfl) Try.func10 (by kernel_rfl)
    (of_decide_eq_true (by kernel_rfl)) (by unfold Func.isWrapper; first | (rw [if_pos (by decide +kernel)]; kernel_rfl) | (rw [if_neg (by decide +kernel)]; exact ⟨rfl, rfl⟩))
    (fun os started H enc _ => lifted os started H enc)

/-- the statement -/
theorem proved : Rows.FnExactFracAddSaid := over
#print axioms proved
end Go.Proofs.Ytfahgdindfggoaa.fnExactFracAdd
