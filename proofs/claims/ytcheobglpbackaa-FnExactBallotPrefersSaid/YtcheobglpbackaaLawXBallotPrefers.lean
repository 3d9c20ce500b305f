/- FnExactBallotPrefers: whatever its arguments are, the law FnExactBallotPrefers of the given program returns true, and leaves all memory as it was. -/
import Derived.Test.YtcheobglpbackaaKit
import Derived.Test.YtcheobglpbackaaLawKit
import Derived.Test.YtcheobglpbackaaBaPrefers
namespace Go.Proofs.Ytcheobglpbackaa.fnExactBallotPrefers
open Go.ChangeShapes Go.WideShapes Go.ChangeAt Go.RowKit Go.Joins
open Go.ChangeMaps (open_string shut_string)
set_option linter.unusedVariables false

set_option maxHeartbeats 800000 in
/-- the walk -/
theorem walk (w : World) (a0 : Option Addr) (len0 cap0 : Nat) (z0 : List Int) (w0 : IsRow .i64 w a0 len0 cap0 z0) (a1 : Int) (w1 : (Lit.int .i64 a1).wf = true) (a2 : Int) (w2 : (Lit.int .i64 a2).wf = true) :
    Calls Try.prog 7 #[.slice a0 len0 cap0, .int .i64 a1, .int .i64 a2] w fun e w' => e = .returned (.bool true) ∧ Below w.heap.size w w' := by
  obtain ⟨hr0, hlc0, hcm0⟩ := rd_of_row w0
  clear w0
  generalize z0.take len0 = xs at hr0
  by_cases hl0 : (1048576 : Int) < (len0 : Int)
  · go_enter Try.func7, Try.ntmps7
    go_wp2_with fail
    go_ret
    exact ⟨rfl, Below.refl _ _⟩
  · have hs0_ : len0 ≤ 1048576 := by omega
    have HX0 := Lib.hid hr0.len
    have s0_ : w.heap.size ≤ w.heap.size := Nat.le_refl _
    go_enter Try.func7, Try.ntmps7
    go_wp2_with fail
    refine (toIntS_any a0 len0 cap0 xs w (hr0.more (by omega)) (by omega)).mono ?_
    rintro e u1 ⟨rfl, ho, hb1⟩
    have hs1 := hb1.size
    have bw1 : Below w.heap.size w u1 := hb1.mono (by omega)
    have r_a0_1 := hr0.below (hb1.mono (by omega))
    clear hr0
    have r_c_1 := ho.rd u1.heap.size ho.lt _ HX0.out
    clear ho
    go_wp2_with fail
    refine (quiet_below (sBallotPrefers_any _ len0 len0 xs a1 a2 u1 _ r_c_1 (Nat.le_refl _) (by omega) (by unfold maxLen; omega))).mono ?_
    rintro e u2 ⟨rfl, hb2⟩
    have hs2 := hb2.size
    have bw2 : Below w.heap.size w u2 := bw1.trans (hb2.mono (by omega))
    have r_a0_2 := r_a0_1.below (hb2.mono (by omega))
    have r_c_2 := r_c_1.below (hb2.mono (by omega))
    clear r_a0_1 r_c_1 bw1
    go_wp2_with fail
    refine (toIntS_any a0 len0 cap0 xs u2 (r_a0_2.more (by omega)) (by omega)).mono ?_
    rintro e u3 ⟨rfl, ho, hb3⟩
    have hs3 := hb3.size
    have bw3 : Below w.heap.size w u3 := bw2.trans (hb3.mono (by omega))
    have r_a0_3 := r_a0_2.below (hb3.mono (by omega))
    clear r_a0_2 bw2
    have r_x_3 := ho.rd u3.heap.size ho.lt _ HX0.out
    clear ho
    go_wp2_with fail
    refine (same_below (iBallotPrefers_any _ len0 len0 xs a1 a2 u3 _ r_x_3 (Nat.le_refl _) (by omega) (by unfold maxLen; omega))).mono ?_
    rintro e u4 ⟨rfl, hb4⟩
    have hs4 := hb4.size
    have bw4 : Below w.heap.size w u4 := bw3.trans (hb4.mono (by omega))
    have r_a0_4 := r_a0_3.below (hb4.mono (by omega))
    have r_x_4 := r_x_3.below (hb4.mono (by omega))
    clear r_a0_3 r_x_3 bw3
    go_wp2_with fail
    refine (toIntS_any a0 len0 cap0 xs u4 (r_a0_4.more (by omega)) (by omega)).mono ?_
    rintro e u5 ⟨rfl, ho, hb5⟩
    have hs5 := hb5.size
    have bw5 : Below w.heap.size w u5 := bw4.trans (hb5.mono (by omega))
    have r_a0_5 := r_a0_4.below (hb5.mono (by omega))
    have r_x_5 := r_x_4.below (hb5.mono (by omega))
    clear r_a0_4 r_x_4 bw4
    have r_y_5 := ho.rd u5.heap.size ho.lt _ HX0.out
    clear ho
    go_wp2_with fail
    refine (quiet_below (eqIntS_any _ _ len0 len0 len0 len0 xs xs u5 _ _ r_x_5 r_y_5 (by omega) (by omega))).mono ?_
    rintro e u6 ⟨rfl, hb6⟩
    have hs6 := hb6.size
    have bw6 : Below w.heap.size w u6 := bw5.trans (hb6.mono (by omega))
    have r_a0_6 := r_a0_5.below (hb6.mono (by omega))
    have r_x_6 := r_x_5.below (hb6.mono (by omega))
    have r_y_6 := r_y_5.below (hb6.mono (by omega))
    clear r_a0_5 r_x_5 r_y_5 bw5
    go_wp2_with fail
    go_ret
    exact ⟨rfl, bw6⟩

set_option maxRecDepth 100000 in
theorem lifted (os : Os) (started : os.Started) (H : Type) (enc : TypeId × Value → H) :
    ReturnsInHanded {} Try.checked os 7 .any (Rows.fnExactBallotPrefersSpec.pre6 enc Try.prog Try.f7 Rows.fnExactBallotPrefersRow.domain false) (Rows.fnExactBallotPrefersSpec.post enc Try.prog Try.f7 false true false false) := by
  refine returnsInHanded_of_change (C := Try.checked) own started (by kernel_rfl) Try.func7
    (ChangeSpec.witness6 (enc := enc) (C := Try.checked) false ⟨#[], #[.slice none 0 0, .int .i64 0, .int .i64 0], []⟩ 8 (by kernel_rfl) (by kernel_rfl) (by kernel_rfl) (by kernel_rfl)) ?_
  intro W base args ds gs before hval0 hW hcnd _
  have hval : ∀ (j : Nat) t v, Try.f7.params[j]? = some t → args[j]? = some v → Value.okWide Try.prog W .any base t v := hval0
  have hW' := hW
  obtain ⟨p, q, hA0, hV, rfl, hfz, hnd⟩ := hW
  have hA : DataW.TrodAll enc Try.prog W 0 (fun _ => true) true Try.f7.params.toList args.toList ds p := hA0
  rw [Try.params7] at hA hval
  obtain ⟨v0, vs0, d0, ds0, p0, q0, hargs, rfl, rfl, h0, r0⟩ := trodAll_cons hA
  obtain ⟨v1, vs1, d1, ds1, p1, q1, rfl, rfl, rfl, h1, r1⟩ := trodAll_cons r0
  obtain ⟨v2, vs2, d2, ds2, p2, q2, rfl, rfl, rfl, h2, r2⟩ := trodAll_cons r1
  obtain ⟨rfl, rfl, rfl⟩ := trodAll_nil r2
  obtain rfl : args = #[v0, v1, v2] := by cases args; simp_all
  obtain ⟨rfl, rfl⟩ := trodVars_none hV
  have k0 := h0
  have lt0 : ∀ x ∈ p0, x.block < W.heap.size := by obtain ⟨m, hm⟩ := k0; exact DataW.trod_lt m _ _ _ hm
  obtain ⟨a0, len0, cap0, rfl⟩ := okWide_slice Try.underlying22 (hval 0 22 v0 rfl rfl)
  obtain ⟨z0, w0⟩ : ∃ zs, IsRow .i64 W a0 len0 cap0 zs := by
    obtain ⟨fuel, hf⟩ := h0
    rcases open_ints Try.underlying22 Try.underlying3 (by kernel_rfl) hf with ⟨hcs, _⟩ | ⟨x, l, c, zs, hcs, _, hl, hm, hz, _, hcell, hwz⟩
    · simp [Value.cells] at hcs
      obtain ⟨rfl, rfl, rfl⟩ := hcs
      exact ⟨[], .inl ⟨rfl, rfl, rfl, rfl⟩⟩
    · simp [Value.cells] at hcs
      obtain ⟨rfl, rfl, rfl⟩ := hcs
      exact ⟨zs, .inr ⟨_, rfl, hl, hm, by simpa using hz, hcell, hwz⟩⟩
  have k1 := h1
  have lt1 : ∀ x ∈ p1, x.block < W.heap.size := by obtain ⟨m, hm⟩ := k1; exact DataW.trod_lt m _ _ _ hm
  obtain ⟨a1, rfl, rfl, rfl, w1⟩ := open_int Try.underlying3 (hval 1 3 v1 rfl rfl) h1
  have k2 := h2
  have lt2 : ∀ x ∈ p2, x.block < W.heap.size := by obtain ⟨m, hm⟩ := k2; exact DataW.trod_lt m _ _ _ hm
  obtain ⟨a2, rfl, rfl, rfl, w2⟩ := open_int Try.underlying3 (hval 2 3 v2 rfl rfl) h2
  clear hA0 hval0
  refine (walk W a0 len0 cap0 z0 w0 a1 w1 a2 w2).mono fun e W' ⟨he, bel⟩ => ?_
  subst he
  exact ⟨_, rfl, _, _, _, [], _, [], hW', trodAll_mk1 (shut_bool Try.underlying4 _), (trodAll_cons_mk (Below.trod laidOut (by kernel_rfl) (of_decide_eq_true (by kernel_rfl)) k0 bel lt0) (trodAll_cons_mk (Below.trod laidOut (by kernel_rfl) (of_decide_eq_true (by kernel_rfl)) k1 bel lt1) (trodAll_cons_mk (Below.trod laidOut (by kernel_rfl) (of_decide_eq_true (by kernel_rfl)) k2 bel lt2) trodAll_mk0))), rfl, bel.frame _, fun h => by cases h⟩

theorem over : Rows.fnExactBallotPrefersRow.holds Try.pinned (OpenSpec.ofChange Rows.fnExactBallotPrefersSpec) :=
  OpenClaim.holds_of_wide 7 Try.f7 rfl rfl rfl rfl rfl rfl rfl ⟨rfl, rfl, rfl, rfl, rfl⟩ rfl rfl rfl rfl rfl (by kernel_rfl) Try.func7 (by kernel_rfl)
    (of_decide_eq_true (by kernel_rfl)) (by unfold Func.isWrapper; first | (rw [if_pos (by decide +kernel)]; kernel_rfl) | (rw [if_neg (by decide +kernel)]; exact ⟨rfl, rfl⟩))
    (fun os started H enc _ => lifted os started H enc)

/-- the statement -/
theorem proved : Rows.FnExactBallotPrefersSaid := over
#print axioms proved
end Go.Proofs.Ytcheobglpbackaa.fnExactBallotPrefers
