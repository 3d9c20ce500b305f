/- FnMarksRead: whatever its arguments are, the law FnMarksRead of the given program returns true, and leaves all memory as it was. -/
import Derived.Test.YtcaiddggokpmoaaKit
import Derived.Test.YtcaiddggokpmoaaLawKit
import Derived.Test.YtcaiddggokpmoaaDrawMa
import Derived.Test.YtcaiddggokpmoaaMaLaws
namespace Go.Proofs.Ytcaiddggokpmoaa.fnMarksRead
open Go.ChangeShapes Go.WideShapes Go.ChangeAt Go.RowKit Go.Joins
open Go.ChangeMaps (open_string shut_string)
set_option linter.unusedVariables false

set_option maxHeartbeats 6400000 in
/-- the walk -/
theorem walk (w : World) (a0 : Option Addr) (len0 cap0 : Nat) (z0 : List Int) (w0 : IsRow .u8 w a0 len0 cap0 z0) :
    Calls Try.prog 9 #[.slice a0 len0 cap0] w fun e w' => e = .returned (.bool true) ∧ Below w.heap.size w w' := by
  by_cases hl0 : (1048576 : Int) < (len0 : Int)
  · go_enter Try.func9, Try.ntmps9
    go_wp2_with fail
    go_ret
    exact ⟨rfl, Below.refl _ _⟩
  · have hs0_ : len0 ≤ 1048576 := by omega
    go_enter Try.func9, Try.ntmps9
    go_wp2_with fail
    refine (drawMarksRead_any a0 len0 cap0 z0 w w0).mono ?_
    rintro e u1 ⟨A, n, c, xs, rfl, ho, hn, hb1⟩
    have hs1 := hb1.size
    have bw1 : Below w.heap.size w u1 := hb1.mono (by omega)
    obtain ⟨hc1, hc2⟩ := ho.cap
    have hBw : w.heap.size ≤ w.heap.size := Nat.le_refl _
    have HLN := Lib.hid ho.len
    have o_b_1 := ho
    clear ho
    have HI := Lib.hid (fun u (h : RdI u u.heap.size A n xs) => iMarksRead_any A n c xs u h hc1 (by omega) hc2)
    have HSP := Lib.hid (fun u (h : RdI u u.heap.size A n xs) => sMarksRead_any A n c xs u h (by omega))
    have HML := Lib.hid (Ma.mread_len xs)
    obtain ⟨ms, hms⟩ : ∃ ms, ms = Ma.mread xs := ⟨_, rfl⟩
    have hi := HI.out; rw [← hms] at hi; have HI3 := Lib.hid hi
    have hs := HSP.out; rw [← hms] at hs; have HS3 := Lib.hid hs
    have hl := HML.out; rw [← hms] at hl
    have HMS := Lib.hid hms
    clear hi hs HI HSP HML hms
    cases hv : Ma.mv xs with
    | false =>
      have hi := HI3.out; rw [hv] at hi; have HI2 := Lib.hid hi
      have hs := HS3.out; rw [hv] at hs; have HS2 := Lib.hid hs
      have HV := Lib.hid hv
      clear hi hs HI3 HS3 hv
      go_wp2_with fail
      refine (HI2.out u1 o_b_1.rd).mono ?_
      rintro e u2 ⟨A_p, n_p, c_p, rfl, ho, hb2⟩
      have hs2 := hb2.size
      have bw2 : Below w.heap.size w u2 := bw1.trans (hb2.mono (by omega))
      have o_b_2 := o_b_1.below hb2
      clear o_b_1 bw1
      have o_p_2 := ho
      have HN_p := Lib.hid ho.len
      clear ho
      go_wp2_with fail
      refine (HS2.out u2 o_b_2.rd).mono ?_
      rintro e u3 ⟨A_q, n_q, c_q, rfl, ho, hb3⟩
      have hs3 := hb3.size
      have bw3 : Below w.heap.size w u3 := bw2.trans (hb3.mono (by omega))
      have o_b_3 := o_b_2.below hb3
      have o_p_3 := o_p_2.below hb3
      clear o_b_2 o_p_2 bw2
      have o_q_3 := ho
      have HN_q := Lib.hid ho.len
      clear ho
      have hn_p : n_p ≤ 9 := by have h1 := HN_p.out; omega
      have hn_q : n_q ≤ 9 := by have h1 := HN_q.out; omega
      go_wp2_with fail
      refine (quiet_below (sameInts_any A_p A_q n_p n_q c_p c_q ms ms u3 _ _ o_p_3.rd o_q_3.rd (by omega) (by omega))).mono ?_
      rintro e u4 ⟨rfl, hb4⟩
      have hs4 := hb4.size
      have bw4 : Below w.heap.size w u4 := bw3.trans (hb4.mono (by omega))
      have o_b_4 := o_b_3.below hb4
      have o_p_4 := o_p_3.below hb4
      have o_q_4 := o_q_3.below hb4
      clear o_b_3 o_p_3 o_q_3 bw3
      go_wp2_with fail
      refine (quiet_below (sameInts_any A_p A_q n_p n_q c_p c_q ms ms u4 _ _ o_p_4.rd o_q_4.rd (by omega) (by omega))).mono ?_
      rintro e u5 ⟨rfl, hb5⟩
      have hs5 := hb5.size
      have bw5 : Below w.heap.size w u5 := bw4.trans (hb5.mono (by omega))
      have o_b_5 := o_b_4.below hb5
      have o_p_5 := o_p_4.below hb5
      have o_q_5 := o_q_4.below hb5
      clear o_b_4 o_p_4 o_q_4 bw4
      go_wp2_with fail
      go_ret
      exact ⟨rfl, bw5⟩
    | true =>
      have hi := HI3.out; rw [hv] at hi; have HI2 := Lib.hid hi
      have hs := HS3.out; rw [hv] at hs; have HS2 := Lib.hid hs
      have HV := Lib.hid hv
      clear hi hs HI3 HS3 hv
      go_wp2_with fail
      refine (HI2.out u1 o_b_1.rd).mono ?_
      rintro e u2 ⟨A_p, n_p, c_p, rfl, ho, hb2⟩
      have hs2 := hb2.size
      have bw2 : Below w.heap.size w u2 := bw1.trans (hb2.mono (by omega))
      have o_b_2 := o_b_1.below hb2
      clear o_b_1 bw1
      have o_p_2 := ho
      have HN_p := Lib.hid ho.len
      clear ho
      go_wp2_with fail
      refine (HS2.out u2 o_b_2.rd).mono ?_
      rintro e u3 ⟨A_q, n_q, c_q, rfl, ho, hb3⟩
      have hs3 := hb3.size
      have bw3 : Below w.heap.size w u3 := bw2.trans (hb3.mono (by omega))
      have o_b_3 := o_b_2.below hb3
      have o_p_3 := o_p_2.below hb3
      clear o_b_2 o_p_2 bw2
      have o_q_3 := ho
      have HN_q := Lib.hid ho.len
      clear ho
      have hn_p : n_p ≤ 9 := by have h1 := HN_p.out; omega
      have hn_q : n_q ≤ 9 := by have h1 := HN_q.out; omega
      go_wp2_with fail
      refine (quiet_below (sameInts_any A_p A_q n_p n_q c_p c_q ms ms u3 _ _ o_p_3.rd o_q_3.rd (by omega) (by omega))).mono ?_
      rintro e u4 ⟨rfl, hb4⟩
      have hs4 := hb4.size
      have bw4 : Below w.heap.size w u4 := bw3.trans (hb4.mono (by omega))
      have o_b_4 := o_b_3.below hb4
      have o_p_4 := o_p_3.below hb4
      have o_q_4 := o_q_3.below hb4
      clear o_b_3 o_p_3 o_q_3 bw3
      have HM := Lib.hid (Ma.mv_iff.1 HV.out).1
      obtain ⟨hp1, hp2⟩ := o_p_4.cap
      have hRF := Ma.read_facts HV.out
      rw [← HMS.out] at hRF
      have HR1 := Lib.hid hRF.1
      have HR2 := Lib.hid hRF.2.1
      have hbv := hRF.2.2
      rw [HLN.out] at hbv
      have hBV := fun u B (h : RdI u B A_p n_p ms) => iBallotValid_any A_p n_p c_p ms (n : Int) u B h hp1 (by omega) hp2
      rw [hbv] at hBV
      have HBV := Lib.hid hBV
      have HB9 := Lib.hid o_b_4
      have HP9 := Lib.hid o_p_4
      have hzw := bw4.size
      clear o_b_4 o_p_4 hRF hbv hBV
      go_wp2_with fail
      go_loopw [8] (fun i wr => ∃ k : Nat, k ≤ n_p ∧ i = .int .i64 k ∧ Below u4.heap.size u4 wr) (fun i _ => n_p - (intOf i).toNat)
      case atStart => exact ⟨0, Nat.zero_le _, rfl, Below.refl _ _⟩
      case round =>
        obtain ⟨k, hk, rfl, hb⟩ := hrel
        have hBs := hb.size
        by_cases hlt : k < n_p
        · have hlt' : (k : Int) < (n_p : Int) := by omega
          have hk0 : (0 : Int) ≤ (k : Int) := by omega
          have hkm : k < ms.length := by have := HN_p.out; omega
          have hmem : ∀ q, q < ms.length → ms.getD q 0 ∈ ms := fun q hq => by
            rw [List.getD_eq_getElem?_getD, List.getElem?_eq_getElem hq]; exact List.getElem_mem hq
          obtain ⟨kk, hkn, hyk, hz1, huq⟩ := HR1.out _ (hmem k hkm)
          have hkn' : kk < n := by have := HLN.out; omega
          obtain ⟨y, hy⟩ : ∃ y, ms.getD k 0 = y := ⟨_, rfl⟩
          have HYE := Lib.hid hy
          rw [hy] at hyk
          have htn : kk = y.toNat := by omega
          subst htn
          obtain ⟨z, hz⟩ : ∃ z, xs.getD y.toNat 0 = z := ⟨_, rfl⟩
          have HZE := Lib.hid hz
          rw [hz] at hz1 huq
          have HUQ : Hid (∀ j, j < n → (j : Int) ≠ y → xs.getD j 0 ≠ z) := Lib.hid (fun j hj hjy => huq j (by have := HLN.out; omega) (by omega))
          obtain ⟨gp, rfl, _, _, hcellP⟩ := (HP9.out.below hb).at_ (by omega)
          obtain ⟨gb, rfl, _, _, hcellB⟩ := (HB9.out.below hb).at_ (by omega)
          have hcy := (hcellP k hlt).1
          rw [hy] at hcy
          have hcz := (hcellB y.toNat hkn').1
          rw [hz] at hcz
          have h0y : (0 : Int) ≤ y := by omega
          have hyn : y < (n : Int) := by omega
          have hny : ¬ y < (0 : Int) := by omega
          have hnn : ¬ (n : Int) ≤ y := by omega
          have dy0 : decide (y < (0 : Int)) = false := decide_eq_false hny
          have dyn : decide ((n : Int) ≤ y) = false := decide_eq_false hnn
          have dz : (z == 0) = false := by have h : ¬ z = 0 := (by omega); simpa using h
          have HO := Lib.hid (fun (h : 0 < k) => HR2.out (k - 1) (by omega))
          clear huq hy hz hyk
          by_cases hk1 : 0 < k
          · obtain ⟨k2, hk2n, hy2, -, -⟩ := HR1.out _ (hmem (k - 1) (by omega))
            have hk2n' : k2 < n := by have := HLN.out; omega
            have ho := HO.out hk1
            rw [show k - 1 + 1 = k by omega, HYE.out, HZE.out] at ho
            obtain ⟨y2, hyy2⟩ : ∃ y2, ms.getD (k - 1) 0 = y2 := ⟨_, rfl⟩
            rw [hyy2] at hy2 ho
            have htn : k2 = y2.toNat := by omega
            subst htn
            have hcy2 := (hcellP (k - 1) (by omega)).1
            rw [hyy2] at hcy2
            have hcz2 := (hcellB y2.toNat hk2n').1
            generalize xs.getD y2.toNat 0 = z2 at hcz2 ho
            have h0y2 : (0 : Int) ≤ y2 := by omega
            have hyn2 : y2 < (n : Int) := by omega
            have dzz : decide (z ≤ z2) = false := decide_eq_false (by omega)
            have d0 : decide ((0 : Int) < (k : Int)) = true := decide_eq_true (by omega)
            have hwk : IntKind.i64.wrap ((k : Int) - 1) = (k : Int) - 1 := IntWalk.i64_in _ (by omega)
            have hi0 : (0 : Int) ≤ (k : Int) - 1 := by omega
            have hi1 : (k : Int) - 1 < (n_p : Int) := by omega
            have et : ((k : Int) - 1).toNat = k - 1 := by omega
            clear hcellP hcellB hmem HO hyy2 hny hnn hy2
            go_wp2_with fail
            go_quiet (fail)
            go_wp2_with fail
            go_loopw [9] (fun i wr => ∃ j : Nat, j ≤ n ∧ i = .int .i64 j ∧ Below u4.heap.size u4 wr) (fun i _ => n - (intOf i).toNat)
            case atStart => exact ⟨0, Nat.zero_le _, rfl, Reg.drewN hb _⟩
            case round =>
              clear hb hBs hcy hcz
              obtain ⟨j, hj, rfl, hb⟩ := hrel
              have hBs := hb.size
              by_cases hlj : j < n
              · have hlj' : (j : Int) < (n : Int) := by omega
                have hj0 : (0 : Int) ≤ (j : Int) := by omega
                obtain ⟨gp', hgp', _, _, hcellP⟩ := (HP9.out.below hb).at_ (by omega)
                obtain ⟨gb', hgb', _, _, hcellB⟩ := (HB9.out.below hb).at_ (by omega)
                have e1 : gp' = gp := by injection hgp' with e; injection e with e3; exact e3.symm
                have e2 : gb' = gb := by injection hgb' with e; injection e with e3; exact e3.symm
                rw [e1] at hcellP
                rw [e2] at hcellB
                have hcy := (hcellP k hlt).1
                rw [HYE.out] at hcy
                have hcz := (hcellB y.toNat (by omega)).1
                rw [HZE.out] at hcz
                have hcj := (hcellB j hlj).1
                clear hcellP hcellB e1 e2 hgp' hgb'
                by_cases hjy : (j : Int) = y
                · have d1 : ((j : Int) != y) = false := by simpa using hjy
                  clear hcj hjy
                  go_wp2_with fail
                  go_quiet (fail)
                  go_wp2_with fail
                  go_roundw
                  case rel => exact ⟨j + 1, by omega, by go_num, Reg.drewN hb _⟩
                  case measure => simp [intOf]; omega
                · have d1 : ((j : Int) != y) = true := by simpa using hjy
                  have hne := HUQ.out j hlj hjy
                  generalize xs.getD j 0 = x at hcj hne
                  have d2 : (x == z) = false := by simpa using hne
                  clear hne hjy
                  go_wp2_with fail
                  go_quiet (fail)
                  go_wp2_with fail
                  go_roundw
                  case rel => exact ⟨j + 1, by omega, by go_num, Reg.drewN hb _⟩
                  case measure => simp [intOf]; omega
              · obtain rfl : j = n := by omega
                have hlj' : ¬ (j : Int) < (j : Int) := by omega
                clear h0y hyn dy0 dyn dz hkm hkn hkn' hz1
                set_option maxRecDepth 100000 in
                  go_wp2_with fail
                go_roundw
                case rel => exact ⟨k + 1, by omega, by go_num, hb⟩
                case measure => simp [intOf]; omega
          · have d0 : decide ((0 : Int) < (k : Int)) = false := decide_eq_false (by omega)
            clear hcellP hcellB hmem HO hny hnn
            go_wp2_with fail
            go_quiet (fail)
            go_wp2_with fail
            go_loopw [9] (fun i wr => ∃ j : Nat, j ≤ n ∧ i = .int .i64 j ∧ Below u4.heap.size u4 wr) (fun i _ => n - (intOf i).toNat)
            case atStart => exact ⟨0, Nat.zero_le _, rfl, Reg.drewN hb _⟩
            case round =>
              clear hb hBs hcy hcz
              obtain ⟨j, hj, rfl, hb⟩ := hrel
              have hBs := hb.size
              by_cases hlj : j < n
              · have hlj' : (j : Int) < (n : Int) := by omega
                have hj0 : (0 : Int) ≤ (j : Int) := by omega
                obtain ⟨gp', hgp', _, _, hcellP⟩ := (HP9.out.below hb).at_ (by omega)
                obtain ⟨gb', hgb', _, _, hcellB⟩ := (HB9.out.below hb).at_ (by omega)
                have e1 : gp' = gp := by injection hgp' with e; injection e with e3; exact e3.symm
                have e2 : gb' = gb := by injection hgb' with e; injection e with e3; exact e3.symm
                rw [e1] at hcellP
                rw [e2] at hcellB
                have hcy := (hcellP k hlt).1
                rw [HYE.out] at hcy
                have hcz := (hcellB y.toNat (by omega)).1
                rw [HZE.out] at hcz
                have hcj := (hcellB j hlj).1
                clear hcellP hcellB e1 e2 hgp' hgb'
                by_cases hjy : (j : Int) = y
                · have d1 : ((j : Int) != y) = false := by simpa using hjy
                  clear hcj hjy
                  go_wp2_with fail
                  go_quiet (fail)
                  go_wp2_with fail
                  go_roundw
                  case rel => exact ⟨j + 1, by omega, by go_num, Reg.drewN hb _⟩
                  case measure => simp [intOf]; omega
                · have d1 : ((j : Int) != y) = true := by simpa using hjy
                  have hne := HUQ.out j hlj hjy
                  generalize xs.getD j 0 = x at hcj hne
                  have d2 : (x == z) = false := by simpa using hne
                  clear hne hjy
                  go_wp2_with fail
                  go_quiet (fail)
                  go_wp2_with fail
                  go_roundw
                  case rel => exact ⟨j + 1, by omega, by go_num, Reg.drewN hb _⟩
                  case measure => simp [intOf]; omega
              · obtain rfl : j = n := by omega
                have hlj' : ¬ (j : Int) < (j : Int) := by omega
                clear h0y hyn dy0 dyn dz hkm hkn hkn' hz1
                set_option maxRecDepth 100000 in
                  go_wp2_with fail
                go_roundw
                case rel => exact ⟨k + 1, by omega, by go_num, hb⟩
                case measure => simp [intOf]; omega
        · have hlt' : ¬ (k : Int) < (n_p : Int) := by omega
          have hbw : Below w.heap.size w wr := bw4.trans (hb.mono hzw)
          have HX := Lib.hid (HBV.out wr _ (HP9.out.below hb).rd)
          go_wp2_with fail
          refine (same_below HX.out).mono ?_
          rintro e v1 ⟨rfl, hb2⟩
          have hbw2 : Below w.heap.size w v1 := hbw.trans (hb2.mono hbw.size)
          go_wp2_with fail
          go_ret
          exact ⟨rfl, hbw2⟩

set_option maxRecDepth 100000 in
theorem lifted (os : Os) (started : os.Started) (H : Type) (enc : TypeId × Value → H) :
    ReturnsInHanded {} Try.checked os 9 .any (Rows.fnMarksReadSpec.pre6 enc Try.prog Try.f9 Rows.fnMarksReadRow.domain false) (Rows.fnMarksReadSpec.post enc Try.prog Try.f9 false true false false) := by
  refine returnsInHanded_of_change (C := Try.checked) own started (by kernel_rfl) Try.func9
    (ChangeSpec.witness6 (enc := enc) (C := Try.checked) false ⟨#[], #[.slice none 0 0], []⟩ 8 (by kernel_rfl) (by kernel_rfl) (by kernel_rfl) (by kernel_rfl)) ?_
  intro W base args ds gs before hval0 hW hcnd _
  have hval : ∀ (j : Nat) t v, Try.f9.params[j]? = some t → args[j]? = some v → Value.okWide Try.prog W .any base t v := hval0
  have hW' := hW
  obtain ⟨p, q, hA0, hV, rfl, hfz, hnd⟩ := hW
  have hA : DataW.TrodAll enc Try.prog W 0 (fun _ => true) true Try.f9.params.toList args.toList ds p := hA0
  rw [Try.params9] at hA hval
  obtain ⟨v0, vs0, d0, ds0, p0, q0, hargs, rfl, rfl, h0, r0⟩ := trodAll_cons hA
  obtain ⟨rfl, rfl, rfl⟩ := trodAll_nil r0
  obtain rfl : args = #[v0] := by cases args; simp_all
  obtain ⟨rfl, rfl⟩ := trodVars_none hV
  have k0 := h0
  have lt0 : ∀ x ∈ p0, x.block < W.heap.size := by obtain ⟨m, hm⟩ := k0; exact DataW.trod_lt m _ _ _ hm
  obtain ⟨a0, len0, cap0, rfl⟩ := okWide_slice Try.underlying31 (hval 0 31 v0 rfl rfl)
  obtain ⟨z0, w0⟩ : ∃ zs, IsRow .u8 W a0 len0 cap0 zs := by
    obtain ⟨fuel, hf⟩ := h0
    rcases open_ints Try.underlying31 Try.underlying5 (by kernel_rfl) hf with ⟨hcs, _⟩ | ⟨x, l, c, zs, hcs, _, hl, hm, hz, _, hcell, hwz⟩
    · simp [Value.cells] at hcs
      obtain ⟨rfl, rfl, rfl⟩ := hcs
      exact ⟨[], .inl ⟨rfl, rfl, rfl, rfl⟩⟩
    · simp [Value.cells] at hcs
      obtain ⟨rfl, rfl, rfl⟩ := hcs
      exact ⟨zs, .inr ⟨_, rfl, hl, hm, by simpa using hz, hcell, hwz⟩⟩
  clear hA0 hval0
  refine (walk W a0 len0 cap0 z0 w0).mono fun e W' ⟨he, bel⟩ => ?_
  subst he
  exact ⟨_, rfl, _, _, _, [], _, [], hW', trodAll_mk1 (shut_bool Try.underlying4 _), (trodAll_cons_mk (Below.trod laidOut (by kernel_rfl) (of_decide_eq_true (by kernel_rfl)) k0 bel lt0) trodAll_mk0), rfl, bel.frame _, fun h => by cases h⟩

theorem over : Rows.fnMarksReadRow.holds Try.pinned (OpenSpec.ofChange Rows.fnMarksReadSpec) :=
  OpenClaim.holds_of_wide 9 Try.f9 rfl rfl rfl rfl rfl rfl rfl ⟨rfl, rfl, rfl, rfl, rfl⟩ rfl rfl rfl rfl rfl (by kernel_rfl) Try.func9 (by kernel_rfl)
    (of_decide_eq_true (by kernel_rfl)) (by unfold Func.isWrapper; first | (rw [if_pos (by decide +kernel)]; kernel_rfl) | (rw [if_neg (by decide +kernel)]; exact ⟨rfl, rfl⟩))
    (fun os started H enc _ => lifted os started H enc)

/-- the statement -/
theorem proved : Rows.FnMarksReadSaid := over
#print axioms proved
end Go.Proofs.Ytcaiddggokpmoaa.fnMarksRead
