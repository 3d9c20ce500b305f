/- FnBallotPrefers: whatever its arguments are, the law FnBallotPrefers of the given program returns true, and leaves all memory as it was. -/
import Derived.Test.YtpiajeibfggpiaaKit
import Derived.Test.YtpiajeibfggpiaaLawKit
import Derived.Test.YtpiajeibfggpiaaDraws
import Derived.Test.YtpiajeibfggpiaaBaPrefers
namespace Go.Proofs.Ytpiajeibfggpiaa.fnBallotPrefers
open Go.ChangeShapes Go.WideShapes Go.ChangeAt Go.RowKit Go.Joins
open Go.ChangeMaps (open_string shut_string)
set_option linter.unusedVariables false

set_option maxHeartbeats 800000 in
/-- the walk -/
theorem walk (w : World) (a0 : Option Addr) (len0 cap0 : Nat) (z0 : List Int) (w0 : IsRow .u8 w a0 len0 cap0 z0) :
    Calls Try.prog 7 #[.slice a0 len0 cap0] w fun e w' => e = .returned (.bool true) ∧ Below w.heap.size w w' := by
  by_cases hl0 : (1048576 : Int) < (len0 : Int)
  · go_enter Try.func7, Try.ntmps7
    go_wp2_with fail
    go_ret
    exact ⟨rfl, Below.refl _ _⟩
  · have hs0_ : len0 ≤ 1048576 := by omega
    go_enter Try.func7, Try.ntmps7
    go_wp2_with fail
    refine (drawBallotPrefers_any a0 len0 cap0 z0 w w0).mono ?_
    rintro e u1 ⟨A, n, c, xs, x, y, rfl, ho, hn, hb1⟩
    have hs1 := hb1.size
    have bw1 : Below w.heap.size w u1 := hb1.mono (by omega)
    obtain ⟨hc1, hc2⟩ := ho.cap
    have HLN := Lib.hid ho.len
    have o_b_1 := ho
    clear ho
    have hp1 := Bal.pref_one (b := xs) (x := x) (y := y)
    have HI := Lib.hid (fun u B (h : RdI u B A n xs) => iBallotPrefers_any A n c xs x y u B h hc1 (by omega) hc2)
    have HSP := Lib.hid (fun u B (h : RdI u B A n xs) => sBallotPrefers_any A n c xs x y u B h hc1 (by omega) hc2)
    have HI' := Lib.hid (fun u B (h : RdI u B A n xs) => iBallotPrefers_any A n c xs y x u B h hc1 (by omega) hc2)
    have HE := Lib.hid (Bal.pref_eq xs)
    cases hv : Bal.pref xs x y with
    | false =>
      have h1 := HI.out; rw [hv] at h1; have H1 := Lib.hid h1
      have h2 := HSP.out; rw [hv] at h2; have H2 := Lib.hid h2
      clear h1 h2 hv hp1
      go_wp2_with fail
      refine (same_below (H1.out u1 _ o_b_1.rd)).mono ?_
      rintro e u2 ⟨rfl, hb2⟩
      have hs2 := hb2.size
      have bw2 : Below w.heap.size w u2 := bw1.trans (hb2.mono (by omega))
      have o_b_2 := o_b_1.below hb2
      clear o_b_1 bw1
      go_wp2_with fail
      refine (quiet_below (H2.out u2 _ o_b_2.rd)).mono ?_
      rintro e u3 ⟨rfl, hb3⟩
      have hs3 := hb3.size
      have bw3 : Below w.heap.size w u3 := bw2.trans (hb3.mono (by omega))
      have o_b_3 := o_b_2.below hb3
      clear o_b_2 bw2
      go_wp2_with fail
      all_goals
        go_ret
        exact ⟨rfl, bw3⟩
    | true =>
      have hxy : ¬ x = y := by rintro rfl; have := HE.out x; rw [hv] at this; cases this
      have hxy' : (x != y) = true := by simpa using hxy
      have h1 := HI.out; rw [hv] at h1; have H1 := Lib.hid h1
      have h2 := HSP.out; rw [hv] at h2; have H2 := Lib.hid h2
      have h3 := HI'.out; rw [hp1 hv] at h3; have H3 := Lib.hid h3
      clear h1 h2 h3 hv hp1 hxy
      go_wp2_with fail
      refine (same_below (H1.out u1 _ o_b_1.rd)).mono ?_
      rintro e u2 ⟨rfl, hb2⟩
      have hs2 := hb2.size
      have bw2 : Below w.heap.size w u2 := bw1.trans (hb2.mono (by omega))
      have o_b_2 := o_b_1.below hb2
      clear o_b_1 bw1
      go_wp2_with fail
      refine (quiet_below (H2.out u2 _ o_b_2.rd)).mono ?_
      rintro e u3 ⟨rfl, hb3⟩
      have hs3 := hb3.size
      have bw3 : Below w.heap.size w u3 := bw2.trans (hb3.mono (by omega))
      have o_b_3 := o_b_2.below hb3
      clear o_b_2 bw2
      go_wp2_with fail
      refine (same_below (H3.out u3 _ o_b_3.rd)).mono ?_
      rintro e u4 ⟨rfl, hb4⟩
      have hs4 := hb4.size
      have bw4 : Below w.heap.size w u4 := bw3.trans (hb4.mono (by omega))
      have o_b_4 := o_b_3.below hb4
      clear o_b_3 bw3
      go_wp2_with fail
      go_ret
      exact ⟨rfl, bw4⟩

set_option maxRecDepth 100000 in
theorem lifted (os : Os) (started : os.Started) (H : Type) (enc : TypeId × Value → H) :
    ReturnsInHanded {} Try.checked os 7 .any (Rows.fnBallotPrefersSpec.pre6 enc Try.prog Try.f7 Rows.fnBallotPrefersRow.domain false) (Rows.fnBallotPrefersSpec.post enc Try.prog Try.f7 false true false false) := by
  refine returnsInHanded_of_change (C := Try.checked) own started (by kernel_rfl) Try.func7
    (ChangeSpec.witness6 (enc := enc) (C := Try.checked) false ⟨#[], #[.slice none 0 0], []⟩ 8 (by kernel_rfl) (by kernel_rfl) (by kernel_rfl) (by kernel_rfl)) ?_
  intro W base args ds gs before hval0 hW hcnd _
  have hval : ∀ (j : Nat) t v, Try.f7.params[j]? = some t → args[j]? = some v → Value.okWide Try.prog W .any base t v := hval0
  have hW' := hW
  obtain ⟨p, q, hA0, hV, rfl, hfz, hnd⟩ := hW
  have hA : DataW.TrodAll enc Try.prog W 0 (fun _ => true) true Try.f7.params.toList args.toList ds p := hA0
  rw [Try.params7] at hA hval
  obtain ⟨v0, vs0, d0, ds0, p0, q0, hargs, rfl, rfl, h0, r0⟩ := trodAll_cons hA
  obtain ⟨rfl, rfl, rfl⟩ := trodAll_nil r0
  obtain rfl : args = #[v0] := by cases args; simp_all
  obtain ⟨rfl, rfl⟩ := trodVars_none hV
  have k0 := h0
  have lt0 : ∀ x ∈ p0, x.block < W.heap.size := by obtain ⟨m, hm⟩ := k0; exact DataW.trod_lt m _ _ _ hm
  obtain ⟨a0, len0, cap0, rfl⟩ := okWide_slice Try.underlying22 (hval 0 22 v0 rfl rfl)
  obtain ⟨z0, w0⟩ : ∃ zs, IsRow .u8 W a0 len0 cap0 zs := by
    obtain ⟨fuel, hf⟩ := h0
    rcases open_ints Try.underlying22 Try.underlying5 (by kernel_rfl) hf with ⟨hcs, _⟩ | ⟨x, l, c, zs, hcs, _, hl, hm, hz, _, hcell, hwz⟩
    · simp [Value.cells] at hcs
      obtain ⟨rfl, rfl, rfl⟩ := hcs
      exact ⟨[], .inl ⟨rfl, rfl, rfl, rfl⟩⟩
    · simp [Value.cells] at hcs
      obtain ⟨rfl, rfl, rfl⟩ := hcs
      exact ⟨zs, .inr ⟨_, rfl, hl, hm, by simpa using hz, hcell, hwz⟩⟩
  clear hA0 hval0
  refine (walk W a0 len0 cap0 z0 w0).mono fun e W' ⟨he, bel⟩ => ?_
  subst he
  exact ⟨_, rfl, _, _, _, [], _, [], hW', trodAll_mk1 (shut_bool Try.underlying4 _), (trodAll_cons_mk (Below.trod laidOut (by kernel_rfl) (of_decide_eq_true (by kernel_rfl)) k0 bel lt0) trodAll_mk0), rfl, bel.frame _, fun h => by cases h⟩

theorem over : Rows.fnBallotPrefersRow.holds Try.pinned (OpenSpec.ofChange Rows.fnBallotPrefersSpec) :=
  OpenClaim.holds_of_wide 7 Try.f7 rfl rfl rfl rfl rfl rfl rfl ⟨rfl, rfl, rfl, rfl, rfl⟩ rfl rfl rfl rfl rfl (by kernel_rfl) Try.func7 (by kernel_rfl)
    (of_decide_eq_true (by kernel_rfl)) (by unfold Func.isWrapper; first | (rw [if_pos (by decide +kernel)]; kernel_rfl) | (rw [if_neg (by decide +kernel)]; exact ⟨rfl, rfl⟩))
    (fun os started H enc _ => lifted os started H enc)

/-- the statement -/
theorem proved : Rows.FnBallotPrefersSaid := over
#print axioms proved
end Go.Proofs.Ytpiajeibfggpiaa.fnBallotPrefers
