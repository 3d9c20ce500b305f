/- FnBallotPrefersAll: whatever its arguments are, the law FnBallotPrefersAll of the given program returns true, and leaves all memory as it was. -/
import Derived.Test.YtpiajeibfggpiaaKit
import Derived.Test.YtpiajeibfggpiaaLawKit
import Derived.Test.YtpiajeibfggpiaaDraws
import Derived.Test.YtpiajeibfggpiaaBaPrefers
import Derived.Test.YtpiajeibfggpiaaBefore
namespace Go.Proofs.Ytpiajeibfggpiaa.fnBallotPrefersAll
open Go.ChangeShapes Go.WideShapes Go.ChangeAt Go.RowKit Go.Joins
open Go.ChangeMaps (open_string shut_string)
set_option linter.unusedVariables false

set_option maxHeartbeats 800000 in
/-- the walk -/
theorem walk (w : World) (a0 : Option Addr) (len0 cap0 : Nat) (z0 : List Int) (w0 : IsRow .u8 w a0 len0 cap0 z0) :
    Calls Try.prog 10 #[.slice a0 len0 cap0] w fun e w' => e = .returned (.bool true) ∧ Below w.heap.size w w' := by
  by_cases hl0 : (1048576 : Int) < (len0 : Int)
  · go_enter Try.func10, Try.ntmps10
    go_wp2_with fail
    go_ret
    exact ⟨rfl, Below.refl _ _⟩
  · have hs0_ : len0 ≤ 1048576 := by omega
    go_enter Try.func10, Try.ntmps10
    go_wp2_with fail
    refine (drawBallotText_any a0 len0 cap0 z0 w w0).mono ?_
    rintro e u1 ⟨A, n, c, xs, rfl, ho, hn, hb1⟩
    have hs1 := hb1.size
    have bw1 : Below w.heap.size w u1 := hb1.mono (by omega)
    obtain ⟨hc1, hc2⟩ := ho.cap
    have hBw : w.heap.size ≤ w.heap.size := Nat.le_refl _
    have HLN := Lib.hid ho.len
    have o_b_1 := ho
    clear ho
    have HI := Lib.hid (fun u (h : RdI u u.heap.size A n xs) => iBallotText_any A n c xs u h hc1 (by omega) hc2)
    have HS := Lib.hid (fun u (h : RdI u u.heap.size A n xs) => sBallotText_any A n c xs u h hc1 (by omega) hc2)
    have HV := Lib.hid (fun u B (h : RdI u B A n xs) => sBallotValid_any A n c xs 5 u B h hc1 (by omega) hc2)
    obtain ⟨S, hS⟩ : ∃ S : ByteArray, S = ⟨(Bal.text xs).toArray⟩ := ⟨_, rfl⟩
    have HI' := HI.out
    have HS' := HS.out
    rw [← hS] at HI' HS'
    have HI2 := Lib.hid HI'
    have HS2 := Lib.hid HS'
    clear HI HS HI' HS' hS
    go_wp2_with fail
    refine (HI2.out u1 o_b_1.rd).mono ?_
    rintro e u2 ⟨rfl, hb2⟩
    have hs2 := hb2.size
    have bw2 : Below w.heap.size w u2 := bw1.trans (hb2.mono (by omega))
    have o_b_2 := o_b_1.below hb2
    clear o_b_1 bw1
    go_wp2_with fail
    refine (quiet_below (HS2.out u2 o_b_2.rd)).mono ?_
    rintro e u3 ⟨rfl, hb3⟩
    have hs3 := hb3.size
    have bw3 : Below w.heap.size w u3 := bw2.trans (hb3.mono (by omega))
    have o_b_3 := o_b_2.below hb3
    clear o_b_2 bw2
    cases hv : Bal.bv xs 5 with
    | false =>
      have hV := HV.out; rw [hv] at hV; have HV2 := Lib.hid hV; clear hV hv
      go_wp2_with fail
      refine (quiet_below (HV2.out u3 _ o_b_3.rd)).mono ?_
      rintro e u4 ⟨rfl, hb4⟩
      have hs4 := hb4.size
      have bw4 : Below w.heap.size w u4 := bw3.trans (hb4.mono (by omega))
      have o_b_4 := o_b_3.below hb4
      clear o_b_3 bw3
      go_wp2_with fail
      go_ret
      exact ⟨rfl, bw4⟩
    | true =>
      have hV := HV.out; rw [hv] at hV; have HV2 := Lib.hid hV; clear hV
      have HA := Lib.hid (fun x y => Bal.pref_all x y hv)
      clear hv
      go_wp2_with fail
      refine (quiet_below (HV2.out u3 _ o_b_3.rd)).mono ?_
      rintro e u4 ⟨rfl, hb4⟩
      have hs4 := hb4.size
      have bw4 : Below w.heap.size w u4 := bw3.trans (hb4.mono (by omega))
      have o_b_4 := o_b_3.below hb4
      clear o_b_3 bw3
      have hr := Lib.hid o_b_4.rd
      have HPr := Lib.hid (fun x y => iBallotPrefers_any A n c xs x y u4 _ hr.out hc1 (by omega) hc2)
      have HHas := Lib.hid (fun v x hv => hasInt_b v A n c xs x u4 _ hr.out (by omega) hv)
      have HBef := Lib.hid (fun x y => before_any A n c xs x y u4 _ hr.out (by omega))
      go_wp2_with fail
      go_loop [6] (fun i => ∃ k : Nat, k ≤ 5 ∧ i = .int .i64 k) (fun i => 5 - (intOf i).toNat)
      case atStart => exact ⟨0, by omega, rfl⟩
      case round =>
        obtain ⟨k, hk, rfl⟩ := hrel
        by_cases hlt : (k : Int) < 5
        · go_wp2_with fail
          go_loop [7] (fun i => ∃ j : Nat, j ≤ 5 ∧ i = .int .i64 j) (fun i => 5 - (intOf i).toNat)
          case atStart => exact ⟨0, by omega, rfl⟩
          case round =>
            obtain ⟨j, hj, rfl⟩ := hrel
            by_cases hltj : (j : Int) < 5
            · by_cases hkj : k = j
              · have hne : ((k : Int) != (j : Int)) = false := by simp [hkj]
                have hp := HA.out (k : Int) (j : Int)
                rw [hne, Bool.false_and] at hp
                have h1 := HPr.out (k : Int) (j : Int)
                rw [hp] at h1
                have H1 := Lib.hid h1
                clear h1 hp hkj
                go_wp2_with fail
                refine H1.out.mono ?_
                rintro e v1 ⟨rfl, rfl⟩
                go_wp2_with fail
                go_round
                case rel => exact ⟨j + 1, by omega, by go_num⟩
                case measure => simp [intOf]; omega
              · have hne : ((k : Int) != (j : Int)) = true := by simp; omega
                have hp := HA.out (k : Int) (j : Int)
                rw [hne, Bool.true_and] at hp
                cases hc : xs.contains (k : Int) with
                | false =>
                  rw [hc, Bool.false_and] at hp
                  have h1 := HPr.out (k : Int) (j : Int)
                  rw [hp] at h1
                  have H1 := Lib.hid h1
                  have H2 := Lib.hid (HHas.out false (k : Int) hc)
                  clear h1 hp hkj hc
                  go_wp2_with fail
                  refine H1.out.mono ?_
                  rintro e v1 ⟨rfl, rfl⟩
                  go_wp2_with fail
                  refine H2.out.mono ?_
                  rintro e v1 ⟨rfl, rfl⟩
                  go_wp2_with fail
                  go_round
                  case rel => exact ⟨j + 1, by omega, by go_num⟩
                  case measure => simp [intOf]; omega
                | true =>
                  rw [hc, Bool.true_and] at hp
                  have H2 := Lib.hid (HHas.out true (k : Int) hc)
                  have h1 := HPr.out (k : Int) (j : Int)
                  have h3 := HBef.out (j : Int) (k : Int)
                  rw [hp] at h1
                  cases hb : Bal.bef xs (j : Int) (k : Int)
                  all_goals
                    rw [hb] at h1 h3
                    have H1 := Lib.hid h1
                    have H3 := Lib.hid h3
                    clear h1 h3 hp hkj hc hb
                    go_wp2_with fail
                    refine H1.out.mono ?_
                    rintro e v1 ⟨rfl, rfl⟩
                    go_wp2_with fail
                    refine H2.out.mono ?_
                    rintro e v1 ⟨rfl, rfl⟩
                    go_wp2_with fail
                    refine H3.out.mono ?_
                    rintro e v1 ⟨rfl, rfl⟩
                    go_wp2_with fail
                    go_round
                    case rel => exact ⟨j + 1, by omega, by go_num⟩
                    case measure => simp [intOf]; omega
            · go_wp2_with fail
              go_round
              case rel => exact ⟨k + 1, by omega, by go_num⟩
              case measure => simp [intOf]; omega
        · go_wp2_with fail
          go_ret
          exact ⟨rfl, bw4⟩

set_option maxRecDepth 100000 in
theorem lifted (os : Os) (started : os.Started) (H : Type) (enc : TypeId × Value → H) :
    ReturnsInHanded {} Try.checked os 10 .any (Rows.fnBallotPrefersAllSpec.pre6 enc Try.prog Try.f10 Rows.fnBallotPrefersAllRow.domain false) (Rows.fnBallotPrefersAllSpec.post enc Try.prog Try.f10 false true false false) := by
  refine returnsInHanded_of_change (C := Try.checked) own started (by kernel_rfl) Try.func10
    (ChangeSpec.witness6 (enc := enc) (C := Try.checked) false ⟨#[], #[.slice none 0 0], []⟩ 8 (by kernel_rfl) (by kernel_rfl) (by kernel_rfl) (by kernel_rfl)) ?_
  intro W base args ds gs before hval0 hW hcnd _
  have hval : ∀ (j : Nat) t v, Try.f10.params[j]? = some t → args[j]? = some v → Value.okWide Try.prog W .any base t v := hval0
  have hW' := hW
  obtain ⟨p, q, hA0, hV, rfl, hfz, hnd⟩ := hW
  have hA : DataW.TrodAll enc Try.prog W 0 (fun _ => true) true Try.f10.params.toList args.toList ds p := hA0
  rw [Try.params10] at hA hval
  obtain ⟨v0, vs0, d0, ds0, p0, q0, hargs, rfl, rfl, h0, r0⟩ := trodAll_cons hA
  obtain ⟨rfl, rfl, rfl⟩ := trodAll_nil r0
  obtain rfl : args = #[v0] := by cases args; simp_all
  obtain ⟨rfl, rfl⟩ := trodVars_none hV
  have k0 := h0
  have lt0 : ∀ x ∈ p0, x.block < W.heap.size := by obtain ⟨m, hm⟩ := k0; exact DataW.trod_lt m _ _ _ hm
  obtain ⟨a0, len0, cap0, rfl⟩ := okWide_slice Try.underlying22 (hval 0 22 v0 rfl rfl)
  obtain ⟨z0, w0⟩ : ∃ zs, IsRow .u8 W a0 len0 cap0 zs := by
    obtain ⟨fuel, hf⟩ := h0
    rcases open_ints Try.underlying22 Try.underlying5 (by kernel_rfl) hf with ⟨hcs, _⟩ | ⟨x, l, c, zs, hcs, _, hl, hm, hz, _, hcell, hwz⟩
    · simp [Value.cells] at hcs
      obtain ⟨rfl, rfl, rfl⟩ := hcs
      exact ⟨[], .inl ⟨rfl, rfl, rfl, rfl⟩⟩
    · simp [Value.cells] at hcs
      obtain ⟨rfl, rfl, rfl⟩ := hcs
      exact ⟨zs, .inr ⟨_, rfl, hl, hm, by simpa using hz, hcell, hwz⟩⟩
  clear hA0 hval0
  refine (walk W a0 len0 cap0 z0 w0).mono fun e W' ⟨he, bel⟩ => ?_
  subst he
  exact ⟨_, rfl, _, _, _, [], _, [], hW', trodAll_mk1 (shut_bool Try.underlying4 _), (trodAll_cons_mk (Below.trod laidOut (by kernel_rfl) (of_decide_eq_true (by kernel_rfl)) k0 bel lt0) trodAll_mk0), rfl, bel.frame _, fun h => by cases h⟩

theorem over : Rows.fnBallotPrefersAllRow.holds Try.pinned (OpenSpec.ofChange Rows.fnBallotPrefersAllSpec) :=
  OpenClaim.holds_of_wide 10 Try.f10 rfl rfl rfl rfl rfl rfl rfl ⟨rfl, rfl, rfl, rfl, rfl⟩ rfl rfl rfl rfl rfl (by kernel_rfl) Try.func10 (by kernel_rfl)
    (of_decide_eq_true (by kernel_rfl)) (by unfold Func.isWrapper; first | (rw [if_pos (by decide +kernel)]; kernel_rfl) | (rw [if_neg (by decide +kernel)]; exact ⟨rfl, rfl⟩))
    (fun os started H enc _ => lifted os started H enc)

/-- the statement -/
theorem proved : Rows.FnBallotPrefersAllSaid := over
#print axioms proved
end Go.Proofs.Ytpiajeibfggpiaa.fnBallotPrefersAll
