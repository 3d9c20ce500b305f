/- FnExactFracOf: whatever its arguments are, the law FnExactFracOf of the given program returns true, and leaves all memory as it was. -/
import Derived.Test.YtfahgdindfggoaaKit
import Derived.Test.YtfahgdindfggoaaFrWalkC
namespace Go.Proofs.Ytfahgdindfggoaa.fnExactFracOf
open Go.ChangeShapes Go.WideShapes Go.ChangeAt Go.RowKit Go.Joins
open Go.ChangeMaps (open_string shut_string)
set_option linter.unusedVariables false

set_option maxHeartbeats 800000 in
/-- the walk -/
theorem walk (w : World) (a0 : Int) (w0 : (Lit.int .i64 a0).wf = true) (a1 : Int) (w1 : (Lit.int .i64 a1).wf = true) :
    Calls Try.prog 8 #[.int .i64 a0, .int .i64 a1] w fun e w' => e = .returned (.bool true) ∧ Below w.heap.size w w' := by
  by_cases h : -9999999 ≤ a0 ∧ a0 ≤ 9999999 ∧ 1 ≤ a1 ∧ a1 ≤ 9999999
  · obtain ⟨h1, h2, h3, h4⟩ := h
    go_enter Try.func8, Try.ntmps8
    go_wp2_with fail
    refine (sFracOf_yes _ _ _ h1 h2 h3 h4).mono ?_
    rintro e u1 ⟨rfl, hb1⟩
    go_wp2_with fail
    refine (iFracOf_yes _ _ _ h1 h2 h3 h4).mono ?_
    rintro e u2 ⟨rfl, hb2⟩
    have c20 : u2.cell? ⟨u1.heap.size, 0, none⟩ = some (.int .i64 (Frp.rN a0 a1)) := keepc hb2 (by simp) (by simp [go_sem])
    have c21 : u2.cell? ⟨u1.heap.size, 1, none⟩ = some (.int .i64 (Frp.rD a0 a1)) := keepc hb2 (by simp) (by simp [go_sem])
    have hz2 : u1.heap.size < u2.heap.size := (by have := hb2.size; simp at this; omega)
    have hbw2 : Below w.heap.size w u2 := (hb1.alloc hb1.size _).trans (hb2.mono (by have := hb1.size; simp; omega))
    go_wp2_with fail
    refine (eqFrac_any _ _ _ _ _).mono ?_
    rintro e u3 ⟨rfl, hb3⟩
    have hbw3 : Below w.heap.size w u3 := (hbw2.alloc hbw2.size _).trans (hb3.mono (by have := hbw2.size; simp; omega))
    go_wp2_with fail
    go_ret
    exact ⟨rfl, hbw3⟩
  · have H := Lib.hid h
    clear h
    go_enter Try.func8, Try.ntmps8
    go_wp2_with fail
    refine (sFracOf_no _ _ _ H.out).mono ?_
    rintro e u1 ⟨rfl, hb1⟩
    go_wp2_with fail
    refine (iFracOf_no _ _ _ H.out).mono ?_
    rintro e u2 ⟨rfl, hb2⟩
    have c20 : u2.cell? ⟨u1.heap.size, 0, none⟩ = some (.int .i64 0) := keepc hb2 (by simp) (by simp [go_sem])
    have c21 : u2.cell? ⟨u1.heap.size, 1, none⟩ = some (.int .i64 0) := keepc hb2 (by simp) (by simp [go_sem])
    have hz2 : u1.heap.size < u2.heap.size := (by have := hb2.size; simp at this; omega)
    have hbw2 : Below w.heap.size w u2 := (hb1.alloc hb1.size _).trans (hb2.mono (by have := hb1.size; simp; omega))
    go_wp2_with fail
    refine (eqFrac_any _ _ _ _ _).mono ?_
    rintro e u3 ⟨rfl, hb3⟩
    have hbw3 : Below w.heap.size w u3 := (hbw2.alloc hbw2.size _).trans (hb3.mono (by have := hbw2.size; simp; omega))
    go_wp2_with fail
    go_ret
    exact ⟨rfl, hbw3⟩

set_option maxRecDepth 100000 in
theorem lifted (os : Os) (started : os.Started) (H : Type) (enc : TypeId × Value → H) :
    ReturnsInHanded {} Try.checked os 8 .any (Rows.fnExactFracOfSpec.pre6 enc Try.prog Try.f8 Rows.fnExactFracOfRow.domain false) (Rows.fnExactFracOfSpec.post enc Try.prog Try.f8 false true false false) := by
  refine returnsInHanded_of_change (C := Try.checked) own started (by kernel_rfl) Try.func8
    (ChangeSpec.witness6 (enc := enc) (C := Try.checked) false ⟨#[], #[.int .i64 0, .int .i64 0], []⟩ 8 (by kernel_rfl) (by kernel_rfl) (by kernel_rfl) (by kernel_rfl)) ?_
  intro W base args ds gs before hval0 hW hcnd _
  have hval : ∀ (j : Nat) t v, Try.f8.params[j]? = some t → args[j]? = some v → Value.okWide Try.prog W .any base t v := hval0
  have hW' := hW
  obtain ⟨p, q, hA0, hV, rfl, hfz, hnd⟩ := hW
  have hA : DataW.TrodAll enc Try.prog W 0 (fun _ => true) true Try.f8.params.toList args.toList ds p := hA0
  rw [Try.params8] at hA hval
  obtain ⟨v0, vs0, d0, ds0, p0, q0, hargs, rfl, rfl, h0, r0⟩ := trodAll_cons hA
  obtain ⟨v1, vs1, d1, ds1, p1, q1, rfl, rfl, rfl, h1, r1⟩ := trodAll_cons r0
  obtain ⟨rfl, rfl, rfl⟩ := trodAll_nil r1
  obtain rfl : args = #[v0, v1] := by cases args; simp_all
  obtain ⟨rfl, rfl⟩ := trodVars_none hV
  have k0 := h0
  have lt0 : ∀ x ∈ p0, x.block < W.heap.size := by obtain ⟨m, hm⟩ := k0; exact DataW.trod_lt m _ _ _ hm
  obtain ⟨a0, rfl, rfl, rfl, w0⟩ := open_int Try.underlying3 (hval 0 3 v0 rfl rfl) h0
  have k1 := h1
  have lt1 : ∀ x ∈ p1, x.block < W.heap.size := by obtain ⟨m, hm⟩ := k1; exact DataW.trod_lt m _ _ _ hm
  obtain ⟨a1, rfl, rfl, rfl, w1⟩ := open_int Try.underlying3 (hval 1 3 v1 rfl rfl) h1
  clear hA0 hval0
  refine (walk W a0 w0 a1 w1).mono fun e W' ⟨he, bel⟩ => ?_
  subst he
  exact ⟨_, rfl, _, _, _, [], _, [], hW', trodAll_mk1 (shut_bool Try.underlying4 _), (trodAll_cons_mk (Below.trod laidOut (by kernel_rfl) (of_decide_eq_true (by kernel_rfl)) k0 bel lt0) (trodAll_cons_mk (Below.trod laidOut (by kernel_rfl) (of_decide_eq_true (by kernel_rfl)) k1 bel lt1) trodAll_mk0)), rfl, bel.frame _, fun h => by cases h⟩

theorem over : Rows.fnExactFracOfRow.holds Try.pinned (OpenSpec.ofChange Rows.fnExactFracOfSpec) :=
  OpenClaim.holds_of_wide 8 Try.f8 rfl rfl rfl rfl rfl rfl rfl ⟨rfl, rfl, rfl, rfl, rfl⟩ rfl rfl rfl rfl rfl (by kernel_rfl) Try.func8 (by kernel_rfl)
    (of_decide_eq_true (by kernel_rfl)) (by unfold Func.isWrapper; first | (rw [if_pos (by decide +kernel)]; kernel_rfl) | (rw [if_neg (by decide +kernel)]; exact ⟨rfl, rfl⟩))
    (fun os started H enc _ => lifted os started H enc)

/-- the statement -/
theorem proved : Rows.FnExactFracOfSaid := over
#print axioms proved
end Go.Proofs.Ytfahgdindfggoaa.fnExactFracOf
