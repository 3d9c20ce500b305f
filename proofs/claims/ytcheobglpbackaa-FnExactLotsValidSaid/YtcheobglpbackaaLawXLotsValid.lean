/- FnExactLotsValid: whatever its arguments are, the law FnExactLotsValid of the given program returns true, and leaves all memory as it was. -/
import Derived.Test.YtcheobglpbackaaKit
import Derived.Test.YtcheobglpbackaaRows2
import Derived.Test.YtcheobglpbackaaLoWalk
namespace Go.Proofs.Ytcheobglpbackaa.fnExactLotsValid
open Go.ChangeShapes Go.WideShapes Go.ChangeAt Go.RowKit Go.Joins
open Go.ChangeMaps (open_string shut_string)
set_option linter.unusedVariables false

set_option maxHeartbeats 800000 in
/-- the walk -/
theorem walk (w : World) (a0 : Option Addr) (len0 cap0 : Nat) (z0 : List Int) (w0 : IsRow .i64 w a0 len0 cap0 z0) :
    Calls Try.prog 4 #[.slice a0 len0 cap0] w fun e w' => e = .returned (.bool true) ∧ Below w.heap.size w w' := by
  obtain ⟨hr, hlc, hcm⟩ := rd_of_row w0
  clear w0
  generalize z0.take len0 = xs at hr
  by_cases hl0 : (1048576 : Int) < (len0 : Int)
  · clear hr
    go_enter Try.func4, Try.ntmps4
    go_wp2_with fail
    go_ret
    exact ⟨rfl, Below.refl _ _⟩
  · have hl : len0 ≤ 1048576 := by omega
    go_enter Try.func4, Try.ntmps4
    go_wp2_with fail
    refine (toIntS_any a0 len0 cap0 xs w hr (by omega)).mono ?_
    rintro e u1 ⟨rfl, ho1, hb1⟩
    have HX := Lib.hid hr.len
    have hr1 := (hr.below hb1).more hb1.size
    go_wp2_with fail
    refine (sLotsValid_any _ len0 len0 xs u1 u1.heap.size (ho1.rd _ ho1.lt _ HX.out) (Nat.le_refl _) (by omega) (by unfold maxLen; omega)).mono ?_
    rintro e u2 ⟨rfl, q2, rfl⟩
    go_wp2_with fail
    refine (toIntS_any a0 len0 cap0 xs (u1.drewN q2) (hr1.drewN q2) (by omega)).mono ?_
    rintro e u3 ⟨rfl, ho3, hb3'⟩
    have hb3 := Reg.undrewN hb3'
    clear hb3'
    have ho3' : OwnI u3 u1.heap.size xs := ho3
    have hr3 := (hr1.below hb3).more hb3.size
    have hbw3 : Below w.heap.size w u3 := hb1.trans (hb3.mono hb1.size)
    go_wp2_with fail
    refine (iLotsValid_any _ len0 len0 xs u3 u3.heap.size (ho3'.rd _ ho3'.lt _ HX.out) (Nat.le_refl _) (by omega) (by unfold maxLen; omega)).mono ?_
    rintro e u4 ⟨rfl, rfl⟩
    go_wp2_with fail
    refine (toIntS_any a0 len0 cap0 xs u3 hr3 (by omega)).mono ?_
    rintro e u5 ⟨rfl, ho5, hb5⟩
    have ho35 := ho3'.below hb5 ho3'.lt
    have hbw5 : Below w.heap.size w u5 := hbw3.trans (hb5.mono hbw3.size)
    go_wp2_with fail
    refine (eqIntS_any _ _ len0 len0 len0 len0 xs xs u5 u5.heap.size u5.heap.size (ho35.rd _ ho35.lt _ HX.out) (ho5.rd _ ho5.lt _ HX.out) (by omega) (by omega)).mono ?_
    rintro e u6 ⟨rfl, q6, rfl⟩
    go_wp2_with fail
    go_ret
    exact ⟨rfl, Reg.drewN hbw5 _⟩

set_option maxRecDepth 100000 in
theorem lifted (os : Os) (started : os.Started) (H : Type) (enc : TypeId × Value → H) :
    ReturnsInHanded {} Try.checked os 4 .any (Rows.fnExactLotsValidSpec.pre6 enc Try.prog Try.f4 Rows.fnExactLotsValidRow.domain false) (Rows.fnExactLotsValidSpec.post enc Try.prog Try.f4 false true false false) := by
  refine returnsInHanded_of_change (C := Try.checked) own started (by kernel_rfl) Try.func4
    (ChangeSpec.witness6 (enc := enc) (C := Try.checked) false ⟨#[], #[.slice none 0 0], []⟩ 8 (by kernel_rfl) (by kernel_rfl) (by kernel_rfl) (by kernel_rfl)) ?_
  intro W base args ds gs before hval0 hW hcnd _
  have hval : ∀ (j : Nat) t v, Try.f4.params[j]? = some t → args[j]? = some v → Value.okWide Try.prog W .any base t v := hval0
  have hW' := hW
  obtain ⟨p, q, hA0, hV, rfl, hfz, hnd⟩ := hW
  have hA : DataW.TrodAll enc Try.prog W 0 (fun _ => true) true Try.f4.params.toList args.toList ds p := hA0
  rw [Try.params4] at hA hval
  obtain ⟨v0, vs0, d0, ds0, p0, q0, hargs, rfl, rfl, h0, r0⟩ := trodAll_cons hA
  obtain ⟨rfl, rfl, rfl⟩ := trodAll_nil r0
  obtain rfl : args = #[v0] := by cases args; simp_all
  obtain ⟨rfl, rfl⟩ := trodVars_none hV
  have k0 := h0
  have lt0 : ∀ x ∈ p0, x.block < W.heap.size := by obtain ⟨m, hm⟩ := k0; exact DataW.trod_lt m _ _ _ hm
  obtain ⟨a0, len0, cap0, rfl⟩ := okWide_slice Try.underlying22 (hval 0 22 v0 rfl rfl)
  obtain ⟨z0, w0⟩ : ∃ zs, IsRow .i64 W a0 len0 cap0 zs := by
    obtain ⟨fuel, hf⟩ := h0
    rcases open_ints Try.underlying22 Try.underlying3 (by kernel_rfl) hf with ⟨hcs, _⟩ | ⟨x, l, c, zs, hcs, _, hl, hm, hz, _, hcell, hwz⟩
    · simp [Value.cells] at hcs
      obtain ⟨rfl, rfl, rfl⟩ := hcs
      exact ⟨[], .inl ⟨rfl, rfl, rfl, rfl⟩⟩
    · simp [Value.cells] at hcs
      obtain ⟨rfl, rfl, rfl⟩ := hcs
      exact ⟨zs, .inr ⟨_, rfl, hl, hm, by simpa using hz, hcell, hwz⟩⟩
  clear hA0 hval0
  refine (walk W a0 len0 cap0 z0 w0).mono fun e W' ⟨he, bel⟩ => ?_
  subst he
  exact ⟨_, rfl, _, _, _, [], _, [], hW', trodAll_mk1 (shut_bool Try.underlying4 _), (trodAll_cons_mk (Below.trod laidOut (by kernel_rfl) (of_decide_eq_true (by kernel_rfl)) k0 bel lt0) trodAll_mk0), rfl, bel.frame _, fun h => by cases h⟩

theorem over : Rows.fnExactLotsValidRow.holds Try.pinned (OpenSpec.ofChange Rows.fnExactLotsValidSpec) :=
  OpenClaim.holds_of_wide 4 Try.f4 rfl rfl rfl rfl rfl rfl rfl ⟨rfl, rfl, rfl, rfl, rfl⟩ rfl rfl rfl rfl rfl (by kernel_rfl) Try.func4 (by kernel_rfl)
    (of_decide_eq_true (by kernel_rfl)) (by unfold Func.isWrapper; first | (rw [if_pos (by decide +kernel)]; kernel_rfl) | (rw [if_neg (by decide +kernel)]; exact ⟨rfl, rfl⟩))
    (fun os started H enc _ => lifted os started H enc)

/-- the statement -/
theorem proved : Rows.FnExactLotsValidSaid := over
#print axioms proved
end Go.Proofs.Ytcheobglpbackaa.fnExactLotsValid
