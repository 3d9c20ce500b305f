/- FnMarksEnd: whatever its arguments are, the law FnMarksEnd of the given program returns true, and leaves all memory as it was. -/
import Derived.Test.YtcaiddggokpmoaaKit
import Derived.Test.YtcaiddggokpmoaaLawKit
import Derived.Test.YtcaiddggokpmoaaDrawMa
import Derived.Test.YtcaiddggokpmoaaMaLaws
import Derived.Test.YtcaiddggokpmoaaHas
namespace Go.Proofs.Ytcaiddggokpmoaa.fnMarksEnd
open Go.ChangeShapes Go.WideShapes Go.ChangeAt Go.RowKit Go.Joins
open Go.ChangeMaps (open_string shut_string)
set_option linter.unusedVariables false

set_option maxHeartbeats 3200000 in
/-- the walk -/
theorem walk (w : World) (a0 : Option Addr) (len0 cap0 : Nat) (z0 : List Int) (w0 : IsRow .u8 w a0 len0 cap0 z0) :
    Calls Try.prog 8 #[.slice a0 len0 cap0] w fun e w' => e = .returned (.bool true) ∧ Below w.heap.size w w' := by
  by_cases hl0 : (1048576 : Int) < (len0 : Int)
  · go_enter Try.func8, Try.ntmps8
    go_wp2_with fail
    go_ret
    exact ⟨rfl, Below.refl _ _⟩
  · have hs0_ : len0 ≤ 1048576 := by omega
    go_enter Try.func8, Try.ntmps8
    go_wp2_with fail
    refine (drawMarksRead_any a0 len0 cap0 z0 w w0).mono ?_
    rintro e u1 ⟨A, n, c, xs, rfl, ho, hn, hb1⟩
    have hs1 := hb1.size
    have bw1 : Below w.heap.size w u1 := hb1.mono (by omega)
    obtain ⟨hc1, hc2⟩ := ho.cap
    have hBw : w.heap.size ≤ w.heap.size := Nat.le_refl _
    have HLN := Lib.hid ho.len
    have o_b_1 := ho
    clear ho
    have HI := Lib.hid (fun u (h : RdI u u.heap.size A n xs) => iMarksRead_any A n c xs u h hc1 (by omega) hc2)
    have HSP := Lib.hid (fun u (h : RdI u u.heap.size A n xs) => sMarksRead_any A n c xs u h (by omega))
    have HML := Lib.hid (Ma.mread_len xs)
    obtain ⟨ms, hms⟩ : ∃ ms, ms = Ma.mread xs := ⟨_, rfl⟩
    have hi := HI.out; rw [← hms] at hi; have HI3 := Lib.hid hi
    have hs := HSP.out; rw [← hms] at hs; have HS3 := Lib.hid hs
    have hl := HML.out; rw [← hms] at hl
    have HMS := Lib.hid hms
    clear hi hs HI HSP HML hms
    cases hv : Ma.mv xs with
    | false =>
      have hi := HI3.out; rw [hv] at hi; have HI2 := Lib.hid hi
      have hs := HS3.out; rw [hv] at hs; have HS2 := Lib.hid hs
      have HV := Lib.hid hv
      clear hi hs HI3 HS3 hv
      go_wp2_with fail
      refine (HI2.out u1 o_b_1.rd).mono ?_
      rintro e u2 ⟨A_p, n_p, c_p, rfl, ho, hb2⟩
      have hs2 := hb2.size
      have bw2 : Below w.heap.size w u2 := bw1.trans (hb2.mono (by omega))
      have o_b_2 := o_b_1.below hb2
      clear o_b_1 bw1
      have o_p_2 := ho
      have HN_p := Lib.hid ho.len
      clear ho
      go_wp2_with fail
      refine (HS2.out u2 o_b_2.rd).mono ?_
      rintro e u3 ⟨A_q, n_q, c_q, rfl, ho, hb3⟩
      have hs3 := hb3.size
      have bw3 : Below w.heap.size w u3 := bw2.trans (hb3.mono (by omega))
      have o_b_3 := o_b_2.below hb3
      have o_p_3 := o_p_2.below hb3
      clear o_b_2 o_p_2 bw2
      have o_q_3 := ho
      have HN_q := Lib.hid ho.len
      clear ho
      have hn_p : n_p ≤ 9 := by have h1 := HN_p.out; omega
      have hn_q : n_q ≤ 9 := by have h1 := HN_q.out; omega
      go_wp2_with fail
      refine (quiet_below (sameInts_any A_p A_q n_p n_q c_p c_q ms ms u3 _ _ o_p_3.rd o_q_3.rd (by omega) (by omega))).mono ?_
      rintro e u4 ⟨rfl, hb4⟩
      have hs4 := hb4.size
      have bw4 : Below w.heap.size w u4 := bw3.trans (hb4.mono (by omega))
      have o_b_4 := o_b_3.below hb4
      have o_p_4 := o_p_3.below hb4
      have o_q_4 := o_q_3.below hb4
      clear o_b_3 o_p_3 o_q_3 bw3
      go_wp2_with fail
      refine (quiet_below (sameInts_any A_p A_q n_p n_q c_p c_q ms ms u4 _ _ o_p_4.rd o_q_4.rd (by omega) (by omega))).mono ?_
      rintro e u5 ⟨rfl, hb5⟩
      have hs5 := hb5.size
      have bw5 : Below w.heap.size w u5 := bw4.trans (hb5.mono (by omega))
      have o_b_5 := o_b_4.below hb5
      have o_p_5 := o_p_4.below hb5
      have o_q_5 := o_q_4.below hb5
      clear o_b_4 o_p_4 o_q_4 bw4
      go_wp2_with fail
      go_ret
      exact ⟨rfl, bw5⟩
    | true =>
      have hi := HI3.out; rw [hv] at hi; have HI2 := Lib.hid hi
      have hs := HS3.out; rw [hv] at hs; have HS2 := Lib.hid hs
      have HV := Lib.hid hv
      clear hi hs HI3 HS3 hv
      go_wp2_with fail
      refine (HI2.out u1 o_b_1.rd).mono ?_
      rintro e u2 ⟨A_p, n_p, c_p, rfl, ho, hb2⟩
      have hs2 := hb2.size
      have bw2 : Below w.heap.size w u2 := bw1.trans (hb2.mono (by omega))
      have o_b_2 := o_b_1.below hb2
      clear o_b_1 bw1
      have o_p_2 := ho
      have HN_p := Lib.hid ho.len
      clear ho
      go_wp2_with fail
      refine (HS2.out u2 o_b_2.rd).mono ?_
      rintro e u3 ⟨A_q, n_q, c_q, rfl, ho, hb3⟩
      have hs3 := hb3.size
      have bw3 : Below w.heap.size w u3 := bw2.trans (hb3.mono (by omega))
      have o_b_3 := o_b_2.below hb3
      have o_p_3 := o_p_2.below hb3
      clear o_b_2 o_p_2 bw2
      have o_q_3 := ho
      have HN_q := Lib.hid ho.len
      clear ho
      have hn_p : n_p ≤ 9 := by have h1 := HN_p.out; omega
      have hn_q : n_q ≤ 9 := by have h1 := HN_q.out; omega
      go_wp2_with fail
      refine (quiet_below (sameInts_any A_p A_q n_p n_q c_p c_q ms ms u3 _ _ o_p_3.rd o_q_3.rd (by omega) (by omega))).mono ?_
      rintro e u4 ⟨rfl, hb4⟩
      have hs4 := hb4.size
      have bw4 : Below w.heap.size w u4 := bw3.trans (hb4.mono (by omega))
      have o_b_4 := o_b_3.below hb4
      have o_p_4 := o_p_3.below hb4
      have o_q_4 := o_q_3.below hb4
      clear o_b_3 o_p_3 o_q_3 bw3
      have HM := Lib.hid (Ma.mv_iff.1 HV.out).1
      obtain ⟨hp1, hp2⟩ := o_p_4.cap
      have HB9 := Lib.hid o_b_4
      have HP9 := Lib.hid o_p_4
      have hzw := bw4.size
      clear o_b_4 o_p_4
      go_wp2_with fail
      go_loopw [8, 9] (fun v i wr => ∃ (a : Nat) (low : Int), a ≤ n ∧ i = .int .i64 a ∧ v = .int .i64 low ∧ Ma.LowAt xs a 0 low ∧ Below u4.heap.size u4 wr) (fun _ i _ => n - (intOf i).toNat)
      case atStart => exact ⟨0, 10, Nat.zero_le _, rfl, rfl, Ma.low_zero xs, Below.refl _ _⟩
      case round =>
        obtain ⟨a, low, ha, rfl, rfl, hlow, hb⟩ := hrel
        have HLOW := Lib.hid hlow
        clear hlow
        have hBs := hb.size
        by_cases hlt : a < n
        · have hlt' : (a : Int) < (n : Int) := by omega
          have ha0 : (0 : Int) ≤ (a : Int) := by omega
          go_wp2_with fail
          go_loopw [8, 10] (fun v i wr => ∃ (b : Nat) (low : Int), b ≤ a ∧ i = .int .i64 b ∧ v = .int .i64 low ∧ Ma.LowAt xs a b low ∧ Below u4.heap.size u4 wr) (fun _ i _ => a - (intOf i).toNat)
          case atStart => exact ⟨0, low, Nat.zero_le _, rfl, rfl, HLOW.out, hb⟩
          case round =>
            clear HLOW hb hBs
            obtain ⟨b, low, hba, rfl, rfl, hlow, hb⟩ := hrel
            have HLOW := Lib.hid hlow
            clear hlow
            have hBs := hb.size
            by_cases hlb : b < a
            · have hlb' : (b : Int) < (a : Int) := by omega
              have hbn : (b : Int) < (n : Int) := by omega
              have hb0 : (0 : Int) ≤ (b : Int) := by omega
              obtain ⟨gb, rfl, hgB, hgl, hcell⟩ := (HB9.out.below hb).at_ (by omega)
              have hca := (hcell a (by omega)).1
              have hcb := (hcell b (by omega)).1
              have HS := Lib.hid (fun hn => Ma.low_same (a := a) (b := b) HLOW.out hn)
              have HN := Lib.hid (fun he h0 => Ma.low_min HLOW.out hlb (by have := HLN.out; omega) he h0)
              clear hcell HLOW
              generalize xs.getD a 0 = z at hca HS HN
              generalize xs.getD b 0 = y at hcb HS HN
              by_cases hzy : z = y
              · subst hzy
                by_cases hz0 : 0 < z
                · have HX := Lib.hid (HN.out rfl hz0)
                  have d1 : decide (0 < z) = true := decide_eq_true hz0
                  clear HS HN
                  go_wp2_with fail
                  go_quiet (fail)
                  go_wp2_with fail
                  go_roundw
                  case rel => exact ⟨b + 1, _, by omega, by go_num, rfl, HX.out, Reg.drewN hb _⟩
                  case measure => simp [intOf]; omega
                · have HX := Lib.hid (HS.out (fun h => hz0 h.2))
                  have d1 : decide (0 < z) = false := decide_eq_false hz0
                  clear HS HN hz0
                  go_wp2_with fail
                  go_quiet (fail)
                  go_wp2_with fail
                  go_roundw
                  case rel => exact ⟨b + 1, _, by omega, by go_num, rfl, HX.out, Reg.drewN hb _⟩
                  case measure => simp [intOf]; omega
              · have HX := Lib.hid (HS.out (fun h => hzy h.1))
                have d1 : (z == y) = false := by simpa using hzy
                clear HS HN hzy
                go_wp2_with fail
                go_quiet (fail)
                go_wp2_with fail
                go_roundw
                case rel => exact ⟨b + 1, _, by omega, by go_num, rfl, HX.out, Reg.drewN hb _⟩
                case measure => simp [intOf]; omega
            · obtain rfl : b = a := by omega
              have hlb' : ¬ (b : Int) < (b : Int) := by omega
              have HX := Lib.hid (Ma.low_row HLOW.out)
              go_wp2_with fail
              go_roundw
              case rel => exact ⟨b + 1, _, by omega, by go_num, rfl, HX.out, hb⟩
              case measure => simp [intOf]; omega
        · obtain rfl : a = n := by omega
          have hlt' : ¬ (a : Int) < (a : Int) := by omega
          have HLE := Lib.hid (fun k (hk : k < xs.length) => Ma.low_end HV.out (by have h := HLOW.out; rw [← HLN.out] at h; exact h) hk)
          go_wp2_with fail
          go_loopw [11] (fun i wr => ∃ (k : Nat), k ≤ a ∧ i = .int .i64 k ∧ Below u4.heap.size u4 wr) (fun i _ => a - (intOf i).toNat)
          case atStart => exact ⟨0, Nat.zero_le _, rfl, hb⟩
          case round =>
            clear hb hBs
            obtain ⟨k, hk, rfl, hb⟩ := hrel
            have hBs := hb.size
            have hbw : Below w.heap.size w wr := bw4.trans (hb.mono hzw)
            by_cases hlk : k < a
            · have hlk' : (k : Int) < (a : Int) := by omega
              have hk0 : (0 : Int) ≤ (k : Int) := by omega
              have hE := HLE.out k (by have := HLN.out; omega)
              obtain ⟨gb, rfl, hgB, hgl, hcell⟩ := (HB9.out.below hb).at_ (by omega)
              have hck := (hcell k hlk).1
              have HH := Lib.hid (fun q => hasInt_any A_p n_p c_p ms (k : Int) (wr.drewN q) _ ((HP9.out.below hb).rd.drewN q) (by omega))
              rw [← HMS.out] at hE
              have hH2 := HH.out
              rw [hE] at hH2
              clear hcell HH hE
              generalize xs.getD k 0 = z at hck hH2
              by_cases hz0 : 0 < z
              · have d1 : decide (0 < z) = true := decide_eq_true hz0
                rw [d1, Bool.true_and] at hH2
                by_cases hzl : z < low
                · have d2 : decide (z < low) = true := decide_eq_true hzl
                  rw [d2] at hH2
                  have HH2 := Lib.hid hH2
                  clear hH2
                  go_wp2_with fail
                  go_quiet ((go_at_call 30; exact Calls.quiet_of_same ((HH2.out _).mono fun _ _ ⟨he, hw⟩ => ⟨he, hw.symm⟩)))
                  go_wp2_with fail
                  go_roundw
                  case rel => exact ⟨k + 1, by omega, by go_num, Reg.drewN hb _⟩
                  case measure => simp [intOf]; omega
                · have d2 : decide (z < low) = false := decide_eq_false hzl
                  rw [d2] at hH2
                  have HH2 := Lib.hid hH2
                  clear hH2
                  go_wp2_with fail
                  go_quiet ((go_at_call 30; exact Calls.quiet_of_same ((HH2.out _).mono fun _ _ ⟨he, hw⟩ => ⟨he, hw.symm⟩)))
                  go_wp2_with fail
                  go_roundw
                  case rel => exact ⟨k + 1, by omega, by go_num, Reg.drewN hb _⟩
                  case measure => simp [intOf]; omega
              · have d1 : decide (0 < z) = false := decide_eq_false hz0
                rw [d1, Bool.false_and] at hH2
                have HH2 := Lib.hid hH2
                clear hH2
                go_wp2_with fail
                go_quiet ((go_at_call 30; exact Calls.quiet_of_same ((HH2.out _).mono fun _ _ ⟨he, hw⟩ => ⟨he, hw.symm⟩)))
                go_wp2_with fail
                go_roundw
                case rel => exact ⟨k + 1, by omega, by go_num, Reg.drewN hb _⟩
                case measure => simp [intOf]; omega
            · have hlk' : ¬ (k : Int) < (a : Int) := by omega
              go_wp2_with fail
              go_ret
              exact ⟨rfl, hbw⟩

set_option maxRecDepth 100000 in
theorem lifted (os : Os) (started : os.Started) (H : Type) (enc : TypeId × Value → H) :
    ReturnsInHanded {} Try.checked os 8 .any (Rows.fnMarksEndSpec.pre6 enc Try.prog Try.f8 Rows.fnMarksEndRow.domain false) (Rows.fnMarksEndSpec.post enc Try.prog Try.f8 false true false false) := by
  refine returnsInHanded_of_change (C := Try.checked) own started (by kernel_rfl) Try.func8
    (ChangeSpec.witness6 (enc := enc) (C := Try.checked) false ⟨#[], #[.slice none 0 0], []⟩ 8 (by kernel_rfl) (by kernel_rfl) (by kernel_rfl) (by kernel_rfl)) ?_
  intro W base args ds gs before hval0 hW hcnd _
  have hval : ∀ (j : Nat) t v, Try.f8.params[j]? = some t → args[j]? = some v → Value.okWide Try.prog W .any base t v := hval0
  have hW' := hW
  obtain ⟨p, q, hA0, hV, rfl, hfz, hnd⟩ := hW
  have hA : DataW.TrodAll enc Try.prog W 0 (fun _ => true) true Try.f8.params.toList args.toList ds p := hA0
  rw [Try.params8] at hA hval
  obtain ⟨v0, vs0, d0, ds0, p0, q0, hargs, rfl, rfl, h0, r0⟩ := trodAll_cons hA
  obtain ⟨rfl, rfl, rfl⟩ := trodAll_nil r0
  obtain rfl : args = #[v0] := by cases args; simp_all
  obtain ⟨rfl, rfl⟩ := trodVars_none hV
  have k0 := h0
  have lt0 : ∀ x ∈ p0, x.block < W.heap.size := by obtain ⟨m, hm⟩ := k0; exact DataW.trod_lt m _ _ _ hm
  obtain ⟨a0, len0, cap0, rfl⟩ := okWide_slice Try.underlying31 (hval 0 31 v0 rfl rfl)
  obtain ⟨z0, w0⟩ : ∃ zs, IsRow .u8 W a0 len0 cap0 zs := by
    obtain ⟨fuel, hf⟩ := h0
    rcases open_ints Try.underlying31 Try.underlying5 (by kernel_rfl) hf with ⟨hcs, _⟩ | ⟨x, l, c, zs, hcs, _, hl, hm, hz, _, hcell, hwz⟩
    · simp [Value.cells] at hcs
      obtain ⟨rfl, rfl, rfl⟩ := hcs
      exact ⟨[], .inl ⟨rfl, rfl, rfl, rfl⟩⟩
    · simp [Value.cells] at hcs
      obtain ⟨rfl, rfl, rfl⟩ := hcs
      exact ⟨zs, .inr ⟨_, rfl, hl, hm, by simpa using hz, hcell, hwz⟩⟩
  clear hA0 hval0
  refine (walk W a0 len0 cap0 z0 w0).mono fun e W' ⟨he, bel⟩ => ?_
  subst he
  exact ⟨_, rfl, _, _, _, [], _, [], hW', trodAll_mk1 (shut_bool Try.underlying4 _), (trodAll_cons_mk (Below.trod laidOut (by kernel_rfl) (of_decide_eq_true (by kernel_rfl)) k0 bel lt0) trodAll_mk0), rfl, bel.frame _, fun h => by cases h⟩

theorem over : Rows.fnMarksEndRow.holds Try.pinned (OpenSpec.ofChange Rows.fnMarksEndSpec) :=
  OpenClaim.holds_of_wide 8 Try.f8 rfl rfl rfl rfl rfl rfl rfl ⟨rfl, rfl, rfl, rfl, rfl⟩ rfl rfl rfl rfl rfl (by kernel_rfl) Try.func8 (by kernel_rfl)
    (of_decide_eq_true (by kernel_rfl)) (by unfold Func.isWrapper; first | (rw [if_pos (by decide +kernel)]; kernel_rfl) | (rw [if_neg (by decide +kernel)]; exact ⟨rfl, rfl⟩))
    (fun os started H enc _ => lifted os started H enc)

/-- the statement -/
theorem proved : Rows.FnMarksEndSaid := over
#print axioms proved
end Go.Proofs.Ytcaiddggokpmoaa.fnMarksEnd
