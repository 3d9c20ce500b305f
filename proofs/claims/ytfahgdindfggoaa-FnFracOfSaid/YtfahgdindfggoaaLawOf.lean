/- FnFracOf: whatever its arguments are, the law FnFracOf of the given program returns true, and leaves all memory as it was. -/
import Derived.Test.YtfahgdindfggoaaKit
import Derived.Test.YtfahgdindfggoaaFrDraw2
namespace Go.Proofs.Ytfahgdindfggoaa.fnFracOf
open Go.ChangeShapes Go.WideShapes Go.ChangeAt Go.RowKit Go.Joins
open Go.ChangeMaps (open_string shut_string)
set_option linter.unusedVariables false

set_option maxHeartbeats 800000 in
/-- the walk -/
theorem walk (w : World) (a0 : Option Addr) (len0 cap0 : Nat) (z0 : List Int) (w0 : IsRow .u8 w a0 len0 cap0 z0) :
    Calls Try.prog 13 #[.slice a0 len0 cap0] w fun e w' => e = .returned (.bool true) ∧ Below w.heap.size w w' := by
  by_cases hl0 : (1048576 : Int) < (len0 : Int)
  · go_enter Try.func13, Try.ntmps13
    go_wp2_with fail
    go_ret
    exact ⟨rfl, Below.refl _ _⟩
  · go_enter Try.func13, Try.ntmps13
    go_wp2_with fail
    refine (drawFracOf_any _ _ _ _ _ w0).mono ?_
    rintro e u1 ⟨s, q, rfl, hb1⟩
    by_cases hV : -9999999 ≤ s ∧ s ≤ 9999999 ∧ 1 ≤ q ∧ q ≤ 9999999
    · obtain ⟨v1, v2, v3, v4⟩ := hV
      go_wp2_with fail
      refine (iFracOf_yes _ _ _ v1 v2 v3 v4).mono ?_
      rintro e u2 ⟨rfl, hb2⟩
      have hbw2 : Below w.heap.size w u2 := hb1.trans (hb2.mono hb1.size)
      go_wp2_with fail
      refine (sFracOf_yes _ _ _ v1 v2 v3 v4).mono ?_
      rintro e u3 ⟨rfl, hb3⟩
      have c30 : u3.cell? ⟨u2.heap.size, 0, none⟩ = some (.int .i64 (Frp.rN s q)) := Reg.keepc hb3 (by simp) (by simp [go_sem])
      have c31 : u3.cell? ⟨u2.heap.size, 1, none⟩ = some (.int .i64 (Frp.rD s q)) := Reg.keepc hb3 (by simp) (by simp [go_sem])
      have hz3 : u2.heap.size < u3.heap.size := (by have := hb3.size; simp at this; omega)
      have hbw3 : Below w.heap.size w u3 := hbw2.trans ((Reg.unalloc hb3).mono hbw2.size)
      go_wp2_with fail
      have hv := Frp.fv_iff.2 (Frp.red_fv v1 v2 v3 v4)
      have hx := Frp.cross_red s q
      have r1 := Frp.rN_abs s q v3
      have r2 := Frp.rD_le s q v3
      have r3 := Frp.rD_pos s q v3
      have hT := Lib.hid (Frp.triple (n := s) v3)
      have HV := Lib.hid hv
      clear hv
      have p1 := Frp.prod_bound (x := Frp.rN s q) (y := q) (by omega) (by omega) (by omega) v4
      have p2 := Frp.prod_bound (x := s) (y := Frp.rD s q) v1 v2 (by omega) (by omega)
      have hxb : (Frp.rN s q * q == s * Frp.rD s q) = true := by rw [hx]; simp
      clear hx r1
      by_cases hW : -9999999 ≤ 3 * s ∧ 3 * s ≤ 9999999 ∧ 1 ≤ 3 * q ∧ 3 * q ≤ 9999999
      · refine ((iFracOf_yes _ _ _ hW.1 hW.2.1 hW.2.2.1 hW.2.2.2).mono (fun e w' hh => by rw [hT.out.1, hT.out.2] at hh; exact hh)).mono ?_
        rintro e u4 ⟨rfl, hb4⟩
        have d0 : u4.cell? ⟨u2.heap.size, 0, none⟩ = some (.int .i64 (Frp.rN s q)) := Reg.keepc hb4 (by simp; omega) (Reg.keepa hz3 c30)
        have d1 : u4.cell? ⟨u2.heap.size, 1, none⟩ = some (.int .i64 (Frp.rD s q)) := Reg.keepc hb4 (by simp; omega) (Reg.keepa hz3 c31)
        have hz4 : u3.heap.size < u4.heap.size := (by have := hb4.size; simp at this; omega)
        have hz4' : u2.heap.size < u4.heap.size := by omega
        have hbw4 : Below w.heap.size w u4 := hbw3.trans ((Reg.unalloc hb4).mono hbw3.size)
        clear hb2 hb3 hb4 c30 c31
        go_wp2_with fail
        refine (iFracValid_any _ _ _).mono ?_
        rintro e u5 ⟨rfl, hb5⟩
        have e0 : u5.cell? ⟨u2.heap.size, 0, none⟩ = some (.int .i64 (Frp.rN s q)) := Reg.keepc hb5 (by simp; omega) (Reg.keepa hz4' d0)
        have e1 : u5.cell? ⟨u2.heap.size, 1, none⟩ = some (.int .i64 (Frp.rD s q)) := Reg.keepc hb5 (by simp; omega) (Reg.keepa hz4' d1)
        obtain ⟨hz5, f0, f1, _, _⟩ := Reg.newbox hb5
        have hbw5 : Below w.heap.size w u5 := hbw4.trans ((Reg.unalloc hb5).mono hbw4.size)
        have hv := HV.out
        go_wp2_with fail
        go_ret
        exact ⟨rfl, hbw5⟩
      · have HW := Lib.hid hW
        clear hW
        refine (iFracOf_no _ _ _ HW.out).mono ?_
        rintro e u4 ⟨rfl, hb4⟩
        have d0 : u4.cell? ⟨u2.heap.size, 0, none⟩ = some (.int .i64 (Frp.rN s q)) := Reg.keepc hb4 (by simp; omega) (Reg.keepa hz3 c30)
        have d1 : u4.cell? ⟨u2.heap.size, 1, none⟩ = some (.int .i64 (Frp.rD s q)) := Reg.keepc hb4 (by simp; omega) (Reg.keepa hz3 c31)
        have hz4 : u3.heap.size < u4.heap.size := (by have := hb4.size; simp at this; omega)
        have hz4' : u2.heap.size < u4.heap.size := by omega
        have hbw4 : Below w.heap.size w u4 := hbw3.trans ((Reg.unalloc hb4).mono hbw3.size)
        clear hb2 hb3 hb4 c30 c31
        go_wp2_with fail
        refine (iFracValid_any _ _ _).mono ?_
        rintro e u5 ⟨rfl, hb5⟩
        have e0 : u5.cell? ⟨u2.heap.size, 0, none⟩ = some (.int .i64 (Frp.rN s q)) := Reg.keepc hb5 (by simp; omega) (Reg.keepa hz4' d0)
        have e1 : u5.cell? ⟨u2.heap.size, 1, none⟩ = some (.int .i64 (Frp.rD s q)) := Reg.keepc hb5 (by simp; omega) (Reg.keepa hz4' d1)
        obtain ⟨hz5, f0, f1, _, _⟩ := Reg.newbox hb5
        have hbw5 : Below w.heap.size w u5 := hbw4.trans ((Reg.unalloc hb5).mono hbw4.size)
        have hv := HV.out
        go_wp2_with fail
        go_ret
        exact ⟨rfl, hbw5⟩
    · have H := Lib.hid hV
      clear hV
      go_wp2_with fail
      refine (iFracOf_no _ _ _ H.out).mono ?_
      rintro e u2 ⟨rfl, hb2⟩
      have hbw2 : Below w.heap.size w u2 := hb1.trans (hb2.mono hb1.size)
      go_wp2_with fail
      refine (sFracOf_no _ _ _ H.out).mono ?_
      rintro e u3 ⟨rfl, hb3⟩
      have c30 : u3.cell? ⟨u2.heap.size, 0, none⟩ = some (.int .i64 0) := Reg.keepc hb3 (by simp) (by simp [go_sem])
      have c31 : u3.cell? ⟨u2.heap.size, 1, none⟩ = some (.int .i64 0) := Reg.keepc hb3 (by simp) (by simp [go_sem])
      have hz3 : u2.heap.size < u3.heap.size := (by have := hb3.size; simp at this; omega)
      have hbw3 : Below w.heap.size w u3 := hbw2.trans ((Reg.unalloc hb3).mono hbw2.size)
      go_wp2_with fail
      go_ret
      exact ⟨rfl, hbw3.alloc hbw3.size _⟩

set_option maxRecDepth 100000 in
theorem lifted (os : Os) (started : os.Started) (H : Type) (enc : TypeId × Value → H) :
    ReturnsInHanded {} Try.checked os 13 .any (Rows.fnFracOfSpec.pre6 enc Try.prog Try.f13 Rows.fnFracOfRow.domain false) (Rows.fnFracOfSpec.post enc Try.prog Try.f13 false true false false) := by
  refine returnsInHanded_of_change (C := Try.checked) own started (by kernel_rfl) Try.func13
    (ChangeSpec.witness6 (enc := enc) (C := Try.checked) false ⟨#[], #[.slice none 0 0], []⟩ 8 (by kernel_rfl) (by kernel_rfl) (by kernel_rfl) (by kernel_rfl)) ?_
  intro W base args ds gs before hval0 hW hcnd _
  have hval : ∀ (j : Nat) t v, Try.f13.params[j]? = some t → args[j]? = some v → Value.okWide Try.prog W .any base t v := hval0
  have hW' := hW
  obtain ⟨p, q, hA0, hV, rfl, hfz, hnd⟩ := hW
  have hA : DataW.TrodAll enc Try.prog W 0 (fun _ => true) true Try.f13.params.toList args.toList ds p := hA0
  rw [Try.params13] at hA hval
  obtain ⟨v0, vs0, d0, ds0, p0, q0, hargs, rfl, rfl, h0, r0⟩ := trodAll_cons hA
  obtain ⟨rfl, rfl, rfl⟩ := trodAll_nil r0
  obtain rfl : args = #[v0] := by cases args; simp_all
  obtain ⟨rfl, rfl⟩ := trodVars_none hV
  have k0 := h0
  have lt0 : ∀ x ∈ p0, x.block < W.heap.size := by obtain ⟨m, hm⟩ := k0; exact DataW.trod_lt m _ _ _ hm
  obtain ⟨a0, len0, cap0, rfl⟩ := okWide_slice Try.underlying25 (hval 0 25 v0 rfl rfl)
  obtain ⟨z0, w0⟩ : ∃ zs, IsRow .u8 W a0 len0 cap0 zs := by
    obtain ⟨fuel, hf⟩ := h0
    rcases open_ints Try.underlying25 Try.underlying5 (by kernel_rfl) hf with ⟨hcs, _⟩ | ⟨x, l, c, zs, hcs, _, hl, hm, hz, _, hcell, hwz⟩
    · simp [Value.cells] at hcs
      obtain ⟨rfl, rfl, rfl⟩ := hcs
      exact ⟨[], .inl ⟨rfl, rfl, rfl, rfl⟩⟩
    · simp [Value.cells] at hcs
      obtain ⟨rfl, rfl, rfl⟩ := hcs
      exact ⟨zs, .inr ⟨_, rfl, hl, hm, by simpa using hz, hcell, hwz⟩⟩
  clear hA0 hval0
  refine (walk W a0 len0 cap0 z0 w0).mono fun e W' ⟨he, bel⟩ => ?_
  subst he
  exact ⟨_, rfl, _, _, _, [], _, [], hW', trodAll_mk1 (shut_bool Try.underlying4 _), (trodAll_cons_mk (Below.trod laidOut (by kernel_rfl) (of_decide_eq_true (by kernel_rfl)) k0 bel lt0) trodAll_mk0), rfl, bel.frame _, fun h => by cases h⟩

theorem over : Rows.fnFracOfRow.holds Try.pinned (OpenSpec.ofChange Rows.fnFracOfSpec) :=
  OpenClaim.holds_of_wide 13 Try.f13 rfl rfl rfl rfl rfl rfl rfl ⟨rfl, rfl, rfl, rfl, rfl⟩ rfl rfl rfl rfl rfl (by kernel_rfl) Try.func13 (by kernel_rfl)
    (of_decide_eq_true (by kernel_rfl)) (by unfold Func.isWrapper; first | (rw [if_pos (by decide +kernel)]; kernel_rfl) | (rw [if_neg (by decide +kernel)]; exact ⟨rfl, rfl⟩))
    (fun os started H enc _ => lifted os started H enc)

/-- the statement -/
theorem proved : Rows.FnFracOfSaid := over
#print axioms proved
end Go.Proofs.Ytfahgdindfggoaa.fnFracOf
