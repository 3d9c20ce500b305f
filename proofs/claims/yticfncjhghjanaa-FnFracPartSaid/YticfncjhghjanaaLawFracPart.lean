/- FnFracPart: whatever its arguments are, the law FnFracPart of the given program returns true, and leaves all memory as it was. -/
import Derived.Test.YticfncjhghjanaaKit
import Derived.Test.YticfncjhghjanaaFrDraw4
namespace Go.Proofs.Yticfncjhghjanaa.fnFracPart
open Go.ChangeShapes Go.WideShapes Go.ChangeAt Go.RowKit Go.Joins
open Go.ChangeMaps (open_string shut_string)
set_option linter.unusedVariables false

set_option maxHeartbeats 1600000 in
/-- the walk -/
theorem walk (w : World) (a0 : Option Addr) (len0 cap0 : Nat) (z0 : List Int) (w0 : IsRow .u8 w a0 len0 cap0 z0) :
    Calls Try.prog 3 #[.slice a0 len0 cap0] w fun e w' => e = .returned (.bool true) ∧ Below w.heap.size w w' := by
  by_cases hl0 : (1048576 : Int) < (len0 : Int)
  · go_enter Try.func3, Try.ntmps3
    go_wp2_with fail
    go_ret
    exact ⟨rfl, Below.refl _ _⟩
  · go_enter Try.func3, Try.ntmps3
    go_wp2_with fail
    refine (drawFracValid_any _ _ _ _ _ w0).mono ?_
    rintro e u1 ⟨n, d, rfl, hb1⟩
    have HV := Lib.hid (iFracValid_any n d)
    have HS := Lib.hid (sFracValid_any n d)
    cases hv : Frp.fv n d with
    | false =>
      have h1 := HV.out; rw [hv] at h1; have H1 := Lib.hid h1
      have h2 := HS.out; rw [hv] at h2; have H2 := Lib.hid h2
      clear h1 h2 hv HV HS
      go_wp2_with fail
      refine (H1.out _).mono ?_
      rintro e u2 ⟨rfl, hb2⟩
      have q2 := Reg.newbox hb2
      have hbw2 : Below w.heap.size w u2 := hb1.trans ((Reg.unalloc hb2).mono hb1.size)
      obtain ⟨z2, c20, c21, c22, c23⟩ := id q2
      clear hb2
      go_wp2_with fail
      refine (H2.out _).mono ?_
      rintro e u3 ⟨rfl, hb3⟩
      have hbw3 : Below w.heap.size w u3 := hbw2.trans (hb3.mono hbw2.size)
      obtain ⟨z3, c30, c31, c32, c33⟩ := Reg.boxcarry hb3 q2
      clear hb3 q2
      go_wp2_with fail
      go_ret
      exact ⟨rfl, hbw3⟩
    | true =>
      have h1 := HV.out; rw [hv] at h1; have H1 := Lib.hid h1
      have h2 := HS.out; rw [hv] at h2; have H2 := Lib.hid h2
      have hF := Frp.fv_iff.1 hv
      obtain ⟨f1, f2, f3, f4, -⟩ := id hF
      have hD : Frp.fv (2 * n) (2 * d) = false := by
        cases h : Frp.fv (2 * n) (2 * d) with
        | false => rfl
        | true => exact absurd (Frp.fv_iff.1 h) (Frp.double_not hF)
      have h3 := iFracValid_any (2 * n) (2 * d); rw [hD] at h3; have H3 := Lib.hid h3
      have h4 := iFracValid_any n 0; rw [Frp.fv_f (show ¬ (-9999999 ≤ n ∧ n ≤ 9999999 ∧ (1 : Int) ≤ 0 ∧ (0 : Int) ≤ 9999999) by omega)] at h4; have H4 := Lib.hid h4
      clear h1 h2 h3 h4 hv HV HS hF hD
      go_wp2_with fail
      refine (H1.out _).mono ?_
      rintro e u2 ⟨rfl, hb2⟩
      have q2 := Reg.newbox hb2
      have hbw2 : Below w.heap.size w u2 := hb1.trans ((Reg.unalloc hb2).mono hb1.size)
      obtain ⟨z2, c20, c21, c22, c23⟩ := id q2
      clear hb2
      go_wp2_with fail
      refine (H2.out _).mono ?_
      rintro e u3 ⟨rfl, hb3⟩
      have hbw3 : Below w.heap.size w u3 := hbw2.trans (hb3.mono hbw2.size)
      have q3 := Reg.boxcarry hb3 q2
      obtain ⟨z3, c30, c31, c32, c33⟩ := id q3
      clear hb3 q2 z2 c20 c21 c22 c23
      by_cases hn0 : n = 0
      · subst hn0
        go_wp2_with fail
        go_ret
        exact ⟨rfl, hbw3⟩
      · have hn0' : (n == 0) = false := by simpa using hn0
        have hw1 : IntKind.i64.wrap (2 * n) = 2 * n := IntWalk.i64_in _ (by omega)
        have hw2 : IntKind.i64.wrap (2 * d) = 2 * d := IntWalk.i64_in _ (by omega)
        clear hn0
        go_wp2_with fail
        refine (H3.out _).mono ?_
        rintro e u4 ⟨rfl, hb4⟩
        have hbw4 : Below w.heap.size w u4 := hbw3.trans (hb4.mono hbw3.size)
        obtain ⟨z4, c40, c41, c42, c43⟩ := Reg.boxcarry hb4 q3
        clear hb4 q3
        go_wp2_with fail
        refine (H4.out _).mono ?_
        rintro e u5 ⟨rfl, hb5⟩
        have hbw5 : Below w.heap.size w u5 := hbw4.trans (hb5.mono hbw4.size)
        clear hb5
        go_wp2_with fail
        go_ret
        exact ⟨rfl, hbw5⟩

set_option maxRecDepth 100000 in
theorem lifted (os : Os) (started : os.Started) (H : Type) (enc : TypeId × Value → H) :
    ReturnsInHanded {} Try.checked os 3 .any (Rows.fnFracPartSpec.pre6 enc Try.prog Try.f3 Rows.fnFracPartRow.domain false) (Rows.fnFracPartSpec.post enc Try.prog Try.f3 false true false false) := by
  refine returnsInHanded_of_change (C := Try.checked) own started (by kernel_rfl) Try.func3
    (ChangeSpec.witness6 (enc := enc) (C := Try.checked) false ⟨#[], #[.slice none 0 0], []⟩ 8 (by kernel_rfl) (by kernel_rfl) (by kernel_rfl) (by kernel_rfl)) ?_
  intro W base args ds gs before hval0 hW hcnd _
  have hval : ∀ (j : Nat) t v, Try.f3.params[j]? = some t → args[j]? = some v → Value.okWide Try.prog W .any base t v := hval0
  have hW' := hW
  obtain ⟨p, q, hA0, hV, rfl, hfz, hnd⟩ := hW
  have hA : DataW.TrodAll enc Try.prog W 0 (fun _ => true) true Try.f3.params.toList args.toList ds p := hA0
  rw [Try.params3] at hA hval
  obtain ⟨v0, vs0, d0, ds0, p0, q0, hargs, rfl, rfl, h0, r0⟩ := trodAll_cons hA
  obtain ⟨rfl, rfl, rfl⟩ := trodAll_nil r0
  obtain rfl : args = #[v0] := by cases args; simp_all
  obtain ⟨rfl, rfl⟩ := trodVars_none hV
  have k0 := h0
  have lt0 : ∀ x ∈ p0, x.block < W.heap.size := by obtain ⟨m, hm⟩ := k0; exact DataW.trod_lt m _ _ _ hm
  obtain ⟨a0, len0, cap0, rfl⟩ := okWide_slice Try.underlying22 (hval 0 22 v0 rfl rfl)
  obtain ⟨z0, w0⟩ : ∃ zs, IsRow .u8 W a0 len0 cap0 zs := by
    obtain ⟨fuel, hf⟩ := h0
    rcases open_ints Try.underlying22 Try.underlying5 (by kernel_rfl) hf with ⟨hcs, _⟩ | ⟨x, l, c, zs, hcs, _, hl, hm, hz, _, hcell, hwz⟩
    · simp [Value.cells] at hcs
      obtain ⟨rfl, rfl, rfl⟩ := hcs
      exact ⟨[], .inl ⟨rfl, rfl, rfl, rfl⟩⟩
    · simp [Value.cells] at hcs
      obtain ⟨rfl, rfl, rfl⟩ := hcs
      exact ⟨zs, .inr ⟨_, rfl, hl, hm, by simpa using hz, hcell, hwz⟩⟩
  clear hA0 hval0
  refine (walk W a0 len0 cap0 z0 w0).mono fun e W' ⟨he, bel⟩ => ?_
  subst he
  exact ⟨_, rfl, _, _, _, [], _, [], hW', trodAll_mk1 (shut_bool Try.underlying4 _), (trodAll_cons_mk (Below.trod laidOut (by kernel_rfl) (of_decide_eq_true (by kernel_rfl)) k0 bel lt0) trodAll_mk0), rfl, bel.frame _, fun h => by cases h⟩

theorem over : Rows.fnFracPartRow.holds Try.pinned (OpenSpec.ofChange Rows.fnFracPartSpec) :=
  OpenClaim.holds_of_wide 3 Try.f3 rfl rfl rfl rfl rfl rfl rfl ⟨rfl, rfl, rfl, rfl, rfl⟩ rfl rfl rfl rfl rfl (by kernel_rfl) Try.func3 (by kernel_rfl)
    (of_decide_eq_true (by kernel_rfl)) (by unfold Func.isWrapper; first | (rw [if_pos (by decide +kernel)]; kernel_rfl) | (rw [if_neg (by decide +kernel)]; exact ⟨rfl, rfl⟩))
    (fun os started H enc _ => lifted os started H enc)

/-- the statement -/
theorem proved : Rows.FnFracPartSaid := over
#print axioms proved
end Go.Proofs.Yticfncjhghjanaa.fnFracPart
