/- FnExactBallotFirst: whatever its arguments are, the law FnExactBallotFirst of the given program returns true, and leaves all memory as it was. -/
import Derived.Test.YtcheobglpbackaaKit
import Derived.Test.YtcheobglpbackaaLawKit
import Derived.Test.YtcheobglpbackaaKitB
import Derived.Test.YtcheobglpbackaaBaFirst
namespace Go.Proofs.Ytcheobglpbackaa.fnExactBallotFirst
open Go.ChangeShapes Go.WideShapes Go.ChangeAt Go.RowKit Go.Joins
open Go.ChangeMaps (open_string shut_string)
set_option linter.unusedVariables false

set_option maxHeartbeats 800000 in
/-- the walk -/
theorem walk (w : World) (a0 : Option Addr) (len0 cap0 : Nat) (z0 : List Int) (w0 : IsRow .i64 w a0 len0 cap0 z0) (a1 : Option Addr) (len1 cap1 : Nat) (z1 : List Bool) (w1 : IsRowB w a1 len1 cap1 z1) :
    Calls Try.prog 9 #[.slice a0 len0 cap0, .slice a1 len1 cap1] w fun e w' => e = .returned (.bool true) ∧ Below w.heap.size w w' := by
  obtain ⟨hr0, hlc0, hcm0⟩ := rd_of_row w0
  clear w0
  generalize z0.take len0 = xs at hr0
  obtain ⟨hr1, hlc1, hcm1⟩ := rdB_of_row w1
  clear w1
  generalize z1.take len1 = ls at hr1
  by_cases hl0 : (1048576 : Int) < (len0 : Int)
  · go_enter Try.func9, Try.ntmps9
    go_wp2_with fail
    go_ret
    exact ⟨rfl, Below.refl _ _⟩
  · have hs0_ : len0 ≤ 1048576 := by omega
    by_cases hl1 : (1048576 : Int) < (len1 : Int)
    · go_enter Try.func9, Try.ntmps9
      go_wp2_with fail
      go_ret
      exact ⟨rfl, Below.refl _ _⟩
    · have hs1_ : len1 ≤ 1048576 := by omega
      have HX0 := Lib.hid hr0.len
      have HX1 := Lib.hid hr1.len
      go_enter Try.func9, Try.ntmps9
      go_wp2_with fail
      refine (toIntS_any a0 len0 cap0 xs w (hr0.more (by omega)) (by omega)).mono ?_
      rintro e u1 ⟨rfl, ho, hb1⟩
      have hs1 := hb1.size
      have bw1 : Below w.heap.size w u1 := hb1.mono (by omega)
      have r_a0_1 := hr0.below (hb1.mono (by omega))
      have r_a1_1 := hr1.below (hb1.mono (by omega))
      clear hr0 hr1
      have r_c_1 := ho.rd u1.heap.size ho.lt _ HX0.out
      clear ho
      go_wp2_with fail
      refine (toBoolS_any a1 len1 cap1 ls u1 (r_a1_1.more (by omega)) (by omega)).mono ?_
      rintro e u2 ⟨rfl, ho, hb2⟩
      have hs2 := hb2.size
      have bw2 : Below w.heap.size w u2 := bw1.trans (hb2.mono (by omega))
      have r_a0_2 := r_a0_1.below (hb2.mono (by omega))
      have r_a1_2 := r_a1_1.below (hb2.mono (by omega))
      have r_c_2 := r_c_1.below (hb2.mono (by omega))
      clear r_a0_1 r_a1_1 r_c_1 bw1
      have r_d_2 := ho.rdB u2.heap.size ho.lt _ HX1.out
      clear ho
      go_wp2_with fail
      refine (quiet_below (sBallotFirst_any _ _ len0 len0 len1 len1 xs ls u2 _ _ r_c_2 r_d_2 (Nat.le_refl _) (by unfold maxLen; omega) (by omega) (by omega))).mono ?_
      rintro e u3 ⟨rfl, hb3⟩
      have hs3 := hb3.size
      have bw3 : Below w.heap.size w u3 := bw2.trans (hb3.mono (by omega))
      have r_a0_3 := r_a0_2.below (hb3.mono (by omega))
      have r_a1_3 := r_a1_2.below (hb3.mono (by omega))
      have r_c_3 := r_c_2.below (hb3.mono (by omega))
      have r_d_3 := r_d_2.below (hb3.mono (by omega))
      clear r_a0_2 r_a1_2 r_c_2 r_d_2 bw2
      go_wp2_with fail
      refine (toIntS_any a0 len0 cap0 xs u3 (r_a0_3.more (by omega)) (by omega)).mono ?_
      rintro e u4 ⟨rfl, ho, hb4⟩
      have hs4 := hb4.size
      have bw4 : Below w.heap.size w u4 := bw3.trans (hb4.mono (by omega))
      have r_a0_4 := r_a0_3.below (hb4.mono (by omega))
      have r_a1_4 := r_a1_3.below (hb4.mono (by omega))
      clear r_a0_3 r_a1_3 bw3
      have r_x_4 := ho.rd u4.heap.size ho.lt _ HX0.out
      clear ho
      go_wp2_with fail
      refine (toBoolS_any a1 len1 cap1 ls u4 (r_a1_4.more (by omega)) (by omega)).mono ?_
      rintro e u5 ⟨rfl, ho, hb5⟩
      have hs5 := hb5.size
      have bw5 : Below w.heap.size w u5 := bw4.trans (hb5.mono (by omega))
      have r_a0_5 := r_a0_4.below (hb5.mono (by omega))
      have r_a1_5 := r_a1_4.below (hb5.mono (by omega))
      have r_x_5 := r_x_4.below (hb5.mono (by omega))
      clear r_a0_4 r_a1_4 r_x_4 bw4
      have r_z_5 := ho.rdB u5.heap.size ho.lt _ HX1.out
      clear ho
      go_wp2_with fail
      refine (same_below (iBallotFirst_any _ _ len0 len0 len1 len1 xs ls u5 _ _ r_x_5 r_z_5 (Nat.le_refl _) (by unfold maxLen; omega) (by omega) (by omega))).mono ?_
      rintro e u6 ⟨rfl, hb6⟩
      have hs6 := hb6.size
      have bw6 : Below w.heap.size w u6 := bw5.trans (hb6.mono (by omega))
      have r_a0_6 := r_a0_5.below (hb6.mono (by omega))
      have r_a1_6 := r_a1_5.below (hb6.mono (by omega))
      have r_x_6 := r_x_5.below (hb6.mono (by omega))
      have r_z_6 := r_z_5.below (hb6.mono (by omega))
      clear r_a0_5 r_a1_5 r_x_5 r_z_5 bw5
      go_wp2_with fail
      refine (toIntS_any a0 len0 cap0 xs u6 (r_a0_6.more (by omega)) (by omega)).mono ?_
      rintro e u7 ⟨rfl, ho, hb7⟩
      have hs7 := hb7.size
      have bw7 : Below w.heap.size w u7 := bw6.trans (hb7.mono (by omega))
      have r_a0_7 := r_a0_6.below (hb7.mono (by omega))
      have r_a1_7 := r_a1_6.below (hb7.mono (by omega))
      have r_x_7 := r_x_6.below (hb7.mono (by omega))
      have r_z_7 := r_z_6.below (hb7.mono (by omega))
      clear r_a0_6 r_a1_6 r_x_6 r_z_6 bw6
      have r_y_7 := ho.rd u7.heap.size ho.lt _ HX0.out
      clear ho
      go_wp2_with fail
      refine (quiet_below (eqIntS_any _ _ len0 len0 len0 len0 xs xs u7 _ _ r_x_7 r_y_7 (by omega) (by omega))).mono ?_
      rintro e u8 ⟨rfl, hb8⟩
      have hs8 := hb8.size
      have bw8 : Below w.heap.size w u8 := bw7.trans (hb8.mono (by omega))
      have r_a0_8 := r_a0_7.below (hb8.mono (by omega))
      have r_a1_8 := r_a1_7.below (hb8.mono (by omega))
      have r_x_8 := r_x_7.below (hb8.mono (by omega))
      have r_z_8 := r_z_7.below (hb8.mono (by omega))
      have r_y_8 := r_y_7.below (hb8.mono (by omega))
      clear r_a0_7 r_a1_7 r_x_7 r_z_7 r_y_7 bw7
      go_wp2_with fail
      refine (toBoolS_any a1 len1 cap1 ls u8 (r_a1_8.more (by omega)) (by omega)).mono ?_
      rintro e u9 ⟨rfl, ho, hb9⟩
      have hs9 := hb9.size
      have bw9 : Below w.heap.size w u9 := bw8.trans (hb9.mono (by omega))
      have r_a0_9 := r_a0_8.below (hb9.mono (by omega))
      have r_a1_9 := r_a1_8.below (hb9.mono (by omega))
      have r_z_9 := r_z_8.below (hb9.mono (by omega))
      clear r_a0_8 r_a1_8 r_z_8 bw8
      have r_t_9 := ho.rdB u9.heap.size ho.lt _ HX1.out
      clear ho
      go_wp2_with fail
      refine (quiet_below (eqBoolS_same _ _ len1 len1 len1 ls u9 _ _ r_z_9 r_t_9 (by omega))).mono ?_
      rintro e u10 ⟨rfl, hb10⟩
      have hs10 := hb10.size
      have bw10 : Below w.heap.size w u10 := bw9.trans (hb10.mono (by omega))
      have r_a0_10 := r_a0_9.below (hb10.mono (by omega))
      have r_a1_10 := r_a1_9.below (hb10.mono (by omega))
      have r_z_10 := r_z_9.below (hb10.mono (by omega))
      have r_t_10 := r_t_9.below (hb10.mono (by omega))
      clear r_a0_9 r_a1_9 r_z_9 r_t_9 bw9
      go_wp2_with fail
      go_ret
      exact ⟨rfl, bw10⟩

set_option maxRecDepth 100000 in
theorem lifted (os : Os) (started : os.Started) (H : Type) (enc : TypeId × Value → H) :
    ReturnsInHanded {} Try.checked os 9 .any (Rows.fnExactBallotFirstSpec.pre6 enc Try.prog Try.f9 Rows.fnExactBallotFirstRow.domain false) (Rows.fnExactBallotFirstSpec.post enc Try.prog Try.f9 false true false false) := by
  refine returnsInHanded_of_change (C := Try.checked) own started (by kernel_rfl) Try.func9
    (ChangeSpec.witness6 (enc := enc) (C := Try.checked) false ⟨#[], #[.slice none 0 0, .slice none 0 0], []⟩ 8 (by kernel_rfl) (by kernel_rfl) (by kernel_rfl) (by kernel_rfl)) ?_
  intro W base args ds gs before hval0 hW hcnd _
  have hval : ∀ (j : Nat) t v, Try.f9.params[j]? = some t → args[j]? = some v → Value.okWide Try.prog W .any base t v := hval0
  have hW' := hW
  obtain ⟨p, q, hA0, hV, rfl, hfz, hnd⟩ := hW
  have hA : DataW.TrodAll enc Try.prog W 0 (fun _ => true) true Try.f9.params.toList args.toList ds p := hA0
  rw [Try.params9] at hA hval
  obtain ⟨v0, vs0, d0, ds0, p0, q0, hargs, rfl, rfl, h0, r0⟩ := trodAll_cons hA
  obtain ⟨v1, vs1, d1, ds1, p1, q1, rfl, rfl, rfl, h1, r1⟩ := trodAll_cons r0
  obtain ⟨rfl, rfl, rfl⟩ := trodAll_nil r1
  obtain rfl : args = #[v0, v1] := by cases args; simp_all
  obtain ⟨rfl, rfl⟩ := trodVars_none hV
  have k0 := h0
  have lt0 : ∀ x ∈ p0, x.block < W.heap.size := by obtain ⟨m, hm⟩ := k0; exact DataW.trod_lt m _ _ _ hm
  obtain ⟨a0, len0, cap0, rfl⟩ := okWide_slice Try.underlying22 (hval 0 22 v0 rfl rfl)
  obtain ⟨z0, w0⟩ : ∃ zs, IsRow .i64 W a0 len0 cap0 zs := by
    obtain ⟨fuel, hf⟩ := h0
    rcases open_ints Try.underlying22 Try.underlying3 (by kernel_rfl) hf with ⟨hcs, _⟩ | ⟨x, l, c, zs, hcs, _, hl, hm, hz, _, hcell, hwz⟩
    · simp [Value.cells] at hcs
      obtain ⟨rfl, rfl, rfl⟩ := hcs
      exact ⟨[], .inl ⟨rfl, rfl, rfl, rfl⟩⟩
    · simp [Value.cells] at hcs
      obtain ⟨rfl, rfl, rfl⟩ := hcs
      exact ⟨zs, .inr ⟨_, rfl, hl, hm, by simpa using hz, hcell, hwz⟩⟩
  have k1 := h1
  have lt1 : ∀ x ∈ p1, x.block < W.heap.size := by obtain ⟨m, hm⟩ := k1; exact DataW.trod_lt m _ _ _ hm
  obtain ⟨a1, len1, cap1, rfl⟩ := okWide_slice Try.underlying35 (hval 1 35 v1 rfl rfl)
  obtain ⟨z1, w1⟩ : ∃ zs, IsRowB W a1 len1 cap1 zs := by
    obtain ⟨fuel, hf⟩ := h1
    rcases Go.Deep.open_bools Try.underlying35 Try.underlying4 (by kernel_rfl) hf with ⟨hcs, _⟩ | ⟨x, l, c, B, hcs, _, hl, hm, _, hcell⟩
    · simp [Value.cells] at hcs
      obtain ⟨rfl, rfl, rfl⟩ := hcs
      exact ⟨[], .inl ⟨rfl, rfl, rfl, rfl⟩⟩
    · simp [Value.cells] at hcs
      obtain ⟨rfl, rfl, rfl⟩ := hcs
      exact ⟨_, isRowB_of hl hm hcell⟩
  clear hA0 hval0
  refine (walk W a0 len0 cap0 z0 w0 a1 len1 cap1 z1 w1).mono fun e W' ⟨he, bel⟩ => ?_
  subst he
  exact ⟨_, rfl, _, _, _, [], _, [], hW', trodAll_mk1 (shut_bool Try.underlying4 _), (trodAll_cons_mk (Below.trod laidOut (by kernel_rfl) (of_decide_eq_true (by kernel_rfl)) k0 bel lt0) (trodAll_cons_mk (Below.trod laidOut (by kernel_rfl) (of_decide_eq_true (by kernel_rfl)) k1 bel lt1) trodAll_mk0)), rfl, bel.frame _, fun h => by cases h⟩

theorem over : Rows.fnExactBallotFirstRow.holds Try.pinned (OpenSpec.ofChange Rows.fnExactBallotFirstSpec) :=
  OpenClaim.holds_of_wide 9 Try.f9 rfl rfl rfl rfl rfl rfl rfl ⟨rfl, rfl, rfl, rfl, rfl⟩ rfl rfl rfl rfl rfl (by kernel_rfl) Try.func9 (by kernel_rfl)
    (of_decide_eq_true (by kernel_rfl)) (by unfold Func.isWrapper; first | (rw [if_pos (by decide +kernel)]; kernel_rfl) | (rw [if_neg (by decide +kernel)]; exact ⟨rfl, rfl⟩))
    (fun os started H enc _ => lifted os started H enc)

/-- the statement -/
theorem proved : Rows.FnExactBallotFirstSaid := over
#print axioms proved
end Go.Proofs.Ytcheobglpbackaa.fnExactBallotFirst
