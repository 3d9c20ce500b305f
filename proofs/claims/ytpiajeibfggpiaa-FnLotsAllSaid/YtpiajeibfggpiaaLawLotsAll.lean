/- FnLotsAll: whatever its arguments are, the law FnLotsAll of the given program returns true, and leaves all memory as it was. -/
import Derived.Test.YtpiajeibfggpiaaKit
import Derived.Test.YtpiajeibfggpiaaLawKit
import Derived.Test.YtpiajeibfggpiaaDraws
import Derived.Test.YtpiajeibfggpiaaLotFacts
namespace Go.Proofs.Ytpiajeibfggpiaa.fnLotsAll
open Go.ChangeShapes Go.WideShapes Go.ChangeAt Go.RowKit Go.Joins
open Go.ChangeMaps (open_string shut_string)
set_option linter.unusedVariables false

set_option maxHeartbeats 6400000 in
/-- the walk -/
theorem walk (w : World) (a0 : Option Addr) (len0 cap0 : Nat) (z0 : List Int) (w0 : IsRow .u8 w a0 len0 cap0 z0) :
    Calls Try.prog 4 #[.slice a0 len0 cap0] w fun e w' => e = .returned (.bool true) ∧ Below w.heap.size w w' := by
  by_cases hl0 : (1048576 : Int) < (len0 : Int)
  · go_enter Try.func4, Try.ntmps4
    go_wp2_with fail
    go_ret
    exact ⟨rfl, Below.refl _ _⟩
  · have hs0_ : len0 ≤ 1048576 := by omega
    go_enter Try.func4, Try.ntmps4
    go_wp2_with fail
    refine (drawLotsOf_any a0 len0 cap0 z0 w w0).mono ?_
    rintro e u1 ⟨m, s, rfl, hb1⟩
    have hs1 := hb1.size
    have bw1 : Below w.heap.size w u1 := hb1.mono (by omega)
    have HI := Lib.hid (fun u => iLotsOf_any m s u)
    have HSP := Lib.hid (fun u => sLotsOf_any m s u)
    have h5 := Bal.lots_len m s
    cases hv : Bal.lotsOk m s with
    | false =>
      have hi := HI.out; rw [hv, Bal.lots_f hv] at hi; have HI2 := Lib.hid hi
      have hs := HSP.out; rw [hv, Bal.lots_f hv] at hs; have HS2 := Lib.hid hs
      clear hi hs
      go_wp2_with fail
      refine (HI2.out u1).mono ?_
      rintro e u2 ⟨A_p, n_p, c_p, rfl, ho, hb2⟩
      have hs2 := hb2.size
      have bw2 : Below w.heap.size w u2 := bw1.trans (hb2.mono (by omega))
      clear bw1
      have o_p_2 := ho
      have HN_p := Lib.hid ho.len
      clear ho
      go_wp2_with fail
      refine (HS2.out u2).mono ?_
      rintro e u3 ⟨A_q, n_q, c_q, rfl, ho, hb3⟩
      have hs3 := hb3.size
      have bw3 : Below w.heap.size w u3 := bw2.trans (hb3.mono (by omega))
      have o_p_3 := o_p_2.below hb3
      clear o_p_2 bw2
      have o_q_3 := ho
      have HN_q := Lib.hid ho.len
      clear ho
      have hn_p : n_p ≤ 5 := by have h1 := HN_p.out; simp at h1; omega
      have hn_q : n_q ≤ 5 := by have h1 := HN_q.out; simp at h1; omega
      go_wp2_with fail
      refine (quiet_below (sameInts_any A_p A_q n_p n_q c_p c_q [] [] u3 _ _ o_p_3.rd o_q_3.rd (by omega) (by omega))).mono ?_
      rintro e u4 ⟨rfl, hb4⟩
      have hs4 := hb4.size
      have bw4 : Below w.heap.size w u4 := bw3.trans (hb4.mono (by omega))
      have o_p_4 := o_p_3.below hb4
      have o_q_4 := o_q_3.below hb4
      clear o_p_3 o_q_3 bw3
      go_wp2_with fail
      refine (quiet_below (sameInts_any A_p A_q n_p n_q c_p c_q [] [] u4 _ _ o_p_4.rd o_q_4.rd (by omega) (by omega))).mono ?_
      rintro e u5 ⟨rfl, hb5⟩
      have hs5 := hb5.size
      have bw5 : Below w.heap.size w u5 := bw4.trans (hb5.mono (by omega))
      have o_p_5 := o_p_4.below hb5
      have o_q_5 := o_q_4.below hb5
      clear o_p_4 o_q_4 bw4
      go_wp2_with fail
      go_ret
      exact ⟨rfl, bw5⟩
    | true =>
      have hq := hv
      unfold Bal.lotsOk at hq
      simp only [decide_eq_true_eq] at hq
      obtain ⟨m', rfl⟩ : ∃ m' : Nat, m = m' := ⟨m.toNat, by omega⟩
      obtain ⟨s', rfl⟩ : ∃ s' : Nat, s = s' := ⟨s.toNat, by omega⟩
      have hm1 : 1 ≤ m' := by omega
      have hm5 : m' ≤ 5 := by omega
      have hs9 : s' ≤ 999 := by omega
      have hT := Bal.lots_t hv
      rw [Int.toNat_natCast, Int.toNat_natCast] at hT
      have hi := HI.out; rw [hv, hT] at hi; have HI2 := Lib.hid hi
      have hs := HSP.out; rw [hv, hT] at hs; have HS2 := Lib.hid hs
      clear hi hs hT hq hv h5
      obtain ⟨ps, hps⟩ : ∃ ps, ps = Bal.lotsOf m' s' := ⟨_, rfl⟩
      have hpl : ps.length = m' := by rw [hps, Bal.lotsOf_len]
      have hi := HI2.out; rw [← hps] at hi; have HI3 := Lib.hid hi
      have hs := HS2.out; rw [← hps] at hs; have HS3 := Lib.hid hs
      have HPS := Lib.hid hps
      have HPL := Lib.hid hpl
      clear hi hs HI2 HS2 hps hpl HI HSP
      go_wp2_with fail
      refine (HI3.out u1).mono ?_
      rintro e u2 ⟨A_p, n_p, c_p, rfl, ho, hb2⟩
      have hs2 := hb2.size
      have bw2 : Below w.heap.size w u2 := bw1.trans (hb2.mono (by omega))
      clear bw1
      have o_p_2 := ho
      have HN_p := Lib.hid ho.len
      clear ho
      go_wp2_with fail
      refine (HS3.out u2).mono ?_
      rintro e u3 ⟨A_q, n_q, c_q, rfl, ho, hb3⟩
      have hs3 := hb3.size
      have bw3 : Below w.heap.size w u3 := bw2.trans (hb3.mono (by omega))
      have o_p_3 := o_p_2.below hb3
      clear o_p_2 bw2
      have o_q_3 := ho
      have HN_q := Lib.hid ho.len
      clear ho
      obtain rfl : n_p = m' := by have h1 := HN_p.out; have h2 := HPL.out; omega
      have hn_q : n_q ≤ 5 := by have h1 := HN_q.out; have h2 := HPL.out; omega
      go_wp2_with fail
      refine (quiet_below (sameInts_any A_p A_q n_p n_q c_p c_q ps ps u3 _ _ o_p_3.rd o_q_3.rd (by omega) (by omega))).mono ?_
      rintro e u4 ⟨rfl, hb4⟩
      have hs4 := hb4.size
      have bw4 : Below w.heap.size w u4 := bw3.trans (hb4.mono (by omega))
      have o_p_4 := o_p_3.below hb4
      have o_q_4 := o_q_3.below hb4
      clear o_p_3 o_q_3 bw3
      by_cases hn2 : (n_p : Int) < 2
      · skip
        go_wp2_with fail
        refine (quiet_below (sameInts_any A_p A_q n_p n_q c_p c_q ps ps u4 _ _ o_p_4.rd o_q_4.rd (by omega) (by omega))).mono ?_
        rintro e u5 ⟨rfl, hb5⟩
        have hs5 := hb5.size
        have bw5 : Below w.heap.size w u5 := bw4.trans (hb5.mono (by omega))
        have o_p_5 := o_p_4.below hb5
        have o_q_5 := o_q_4.below hb5
        clear o_p_4 o_q_4 bw4
        go_wp2_with fail
        go_ret
        exact ⟨rfl, bw5⟩
      · skip
        have hSF := Bal.swap_facts (m := n_p) (s := s') (by omega) hm5 hs9
        obtain ⟨T, hT⟩ : ∃ T, T = Bal.swapSeed n_p s' := ⟨_, rfl⟩
        rw [← hT, ← HPS.out] at hSF
        have hT120 := hSF.1
        have HSF := Lib.hid hSF.2
        clear hSF hT
        have hO := o_p_4
        obtain ⟨p1, p2⟩ := hO.cap
        obtain ⟨gp, rfl, hgB, hgl, hcellP⟩ := hO.at_ (by omega)
        have hP0 := (hcellP 0 (by omega)).1
        have hP1 := (hcellP 1 (by omega)).1
        have HO := Lib.hid hO
        have HPd : Hid (∃ a b r, ps = a :: b :: r) := by
          have := HPL.out
          match ps, this with
          | a :: b :: r, _ => exact ⟨a, b, r, rfl⟩
          | [a], h => simp at h; omega
          | [], h => simp at h; omega
        obtain ⟨a, b, r, hps⟩ := HPd.out
        have e0 : ps.getD 0 0 = a := by rw [hps]; rfl
        have e1 : ps.getD 1 0 = b := by rw [hps]; rfl
        rw [e0] at hP0
        rw [e1] at hP1
        have HAB := Lib.hid hps
        clear hcellP hO e0 e1 hps HPd o_p_4
        go_wp2_with fail
        go_loopw [9] (fun i wr => ∃ k : Nat, k ≤ T ∧ i = .int .i64 k ∧ Below u4.heap.size u4 wr) (fun i _ => 120 - (intOf i).toNat)
        case atStart => exact ⟨0, Nat.zero_le _, rfl, Below.refl _ _⟩
        case round =>
          obtain ⟨k, hk, rfl, hb⟩ := hrel
          have hk1 : (k : Int) < 120 := by omega
          have hbw : Below w.heap.size w wr := bw4.trans (hb.mono (by have := bw4.size; omega))
          have hok : Bal.lotsOk (n_p : Int) (k : Int) = true := by unfold Bal.lotsOk; simp; omega
          have hTT := Bal.lots_t hok
          rw [Int.toNat_natCast, Int.toNat_natCast] at hTT
          have h1 := iLotsOf_any (n_p : Int) (k : Int) wr
          rw [hok, hTT] at h1
          obtain ⟨ys, hys⟩ : ∃ ys, ys = Bal.lotsOf n_p k := ⟨_, rfl⟩
          rw [← hys] at h1
          have hyl : ys.length = n_p := by rw [hys, Bal.lotsOf_len]
          have HT2 : Hid (k = T → ys = Bal.swapped ps) := Lib.hid (fun e => by rw [hys, e]; exact HSF.out)
          have HYL := Lib.hid hyl
          have H1 := Lib.hid h1
          have hbs := hb.size
          clear h1 hok hTT hys hyl
          go_wp2_with fail
          refine H1.out.mono ?_
          rintro e v1 ⟨A_x, n_x, c_x, rfl, hox, hbx⟩
          obtain rfl : n_x = n_p := by have := hox.len; have := HYL.out; omega
          have hb2 : Below u4.heap.size u4 v1 := hb.trans (hbx.mono hbs)
          have hbw2 : Below w.heap.size w v1 := hbw.trans (hbx.mono (by have := hbw.size; omega))
          have hOv := HO.out.below hb2
          obtain ⟨x1, x2⟩ := hox.cap
          obtain ⟨gx, rfl, hxB, hxl, hcellX⟩ := hox.at_ (by omega)
          have hX0 := (hcellX 0 (by omega)).1
          have hX1 := (hcellX 1 (by omega)).1
          have hq0 : v1.cell? ⟨gp, 0, none⟩ = some (.int .i64 a) := (hb2.cell (p := ⟨gp, 0, none⟩) hgl).trans hP0
          have hq1 : v1.cell? ⟨gp, 1, none⟩ = some (.int .i64 b) := (hb2.cell (p := ⟨gp, 1, none⟩) hgl).trans hP1
          have HYd : Hid (∃ c d t, ys = c :: d :: t) := by
            have := HYL.out
            match ys, this with
            | c :: d :: t, _ => exact ⟨c, d, t, rfl⟩
            | [c], h => simp at h; omega
            | [], h => simp at h; omega
          obtain ⟨c, d, t, hyd⟩ := HYd.out
          have f0 : ys.getD 0 0 = c := by rw [hyd]; rfl
          have f1 : ys.getD 1 0 = d := by rw [hyd]; rfl
          rw [f0] at hX0
          rw [f1] at hX1
          have HCD := Lib.hid hyd
          have h2n : (2 : Int) ≤ (n_x : Int) := by omega
          have h2c : (2 : Int) ≤ (c_x : Int) := by omega
          have h2p : (2 : Int) ≤ (c_p : Int) := by omega
          have hnx : (n_x : Int) ≤ (c_x : Int) := by omega
          have hnp : (n_x : Int) ≤ (c_p : Int) := by omega
          have h0i : (0 : Int) < (n_x : Int) := by omega
          have h1i : (1 : Int) < (n_x : Int) := by omega
          have hmx1 : c_x ≤ 9223372036854775807 := by unfold maxLen at x2; exact x2
          have hmx2 : c_p ≤ 9223372036854775807 := by unfold maxLen at p2; exact p2
          have HNE : Hid (¬ (c = b ∧ d = a ∧ t = r) → k < T) := Lib.hid (fun hno => by
            rcases Nat.lt_or_ge k T with h | h
            · exact h
            · exfalso
              have e := HT2.out (by omega)
              rw [HCD.out, HAB.out] at e
              simp only [Bal.swapped, List.cons.injEq] at e
              exact hno e)
          have hrx := hox.rd.drop_ 2 (by omega)
          have hrp := hOv.rd.drop_ 2 (by omega)
          rw [HCD.out] at hrx
          rw [HAB.out] at hrp
          have HRX := Lib.hid hrx
          have HRP := Lib.hid hrp
          clear hcellX f0 f1 hyd HYd hrx hrp hOv hox hbx hb hP0 hP1 H1 hbw
          by_cases g0 : c = b
          · subst g0
            by_cases g1 : d = a
            · subst g1
              obtain ⟨Ax, hAx1, hAx2⟩ : ∃ Ax : Option Addr, (if c_x = 2 then some (⟨gx, 0, none⟩ : Addr) else some ⟨gx, 2, none⟩) = Ax ∧ (0 < n_x - 2 → Ax = some ⟨gx, 0 + 2, none⟩) := ⟨_, rfl, fun h => by rw [if_neg (by omega)]⟩
              obtain ⟨Ap, hAp1, hAp2⟩ : ∃ Ap : Option Addr, (if c_p = 2 then some (⟨gp, 0, none⟩ : Addr) else some ⟨gp, 2, none⟩) = Ap ∧ (0 < n_x - 2 → Ap = some ⟨gp, 0 + 2, none⟩) := ⟨_, rfl, fun h => by rw [if_neg (by omega)]⟩
              have hsame := fun q => sameInts_any Ax Ap (n_x - 2) (n_x - 2) (c_x - 2) (c_p - 2) t r (v1.drewN q) _ _ ((HRX.out Ax hAx2).drewN q) ((HRP.out Ap hAp2).drewN q) (by omega) (by omega)
              clear hAx2 hAp2
              by_cases g2 : t = r
              · have hs2 := hsame
                rw [decide_eq_true g2] at hs2
                have HS2 := Lib.hid hs2
                clear hs2 hsame g2
                go_wp2_with fail
                go_quiet ((go_at_call 21; exact Calls.quiet_of (HS2.out _)))
                go_wp2_with fail
                go_ret
                exact ⟨rfl, Reg.drewN hbw2 _⟩
              · have hkT := HNE.out (fun h => g2 h.2.2)
                have hs2 := hsame
                rw [decide_eq_false g2] at hs2
                have HS2 := Lib.hid hs2
                clear hs2 hsame g2
                go_wp2_with fail
                go_quiet ((go_at_call 21; exact Calls.quiet_of (HS2.out _)))
                go_wp2_with fail
                go_roundw
                case rel => exact ⟨k + 1, by omega, by go_num, Reg.drewN hb2 _⟩
                case measure => simp [intOf]; omega
            · have hkT := HNE.out (fun h => g1 h.2.1)
              have g1' : (d == a) = false := by simpa using g1
              clear g1
              go_wp2_with fail
              go_quiet (fail)
              go_wp2_with fail
              go_roundw
              case rel => exact ⟨k + 1, by omega, by go_num, Reg.drewN hb2 _⟩
              case measure => simp [intOf]; omega
          · have hkT := HNE.out (fun h => g0 h.1)
            have g0' : (c == b) = false := by simpa using g0
            clear g0
            go_wp2_with fail
            go_quiet (fail)
            go_wp2_with fail
            go_roundw
            case rel => exact ⟨k + 1, by omega, by go_num, Reg.drewN hb2 _⟩
            case measure => simp [intOf]; omega

set_option maxRecDepth 100000 in
theorem lifted (os : Os) (started : os.Started) (H : Type) (enc : TypeId × Value → H) :
    ReturnsInHanded {} Try.checked os 4 .any (Rows.fnLotsAllSpec.pre6 enc Try.prog Try.f4 Rows.fnLotsAllRow.domain false) (Rows.fnLotsAllSpec.post enc Try.prog Try.f4 false true false false) := by
  refine returnsInHanded_of_change (C := Try.checked) own started (by kernel_rfl) Try.func4
    (ChangeSpec.witness6 (enc := enc) (C := Try.checked) false ⟨#[], #[.slice none 0 0], []⟩ 8 (by kernel_rfl) (by kernel_rfl) (by kernel_rfl) (by kernel_rfl)) ?_
  intro W base args ds gs before hval0 hW hcnd _
  have hval : ∀ (j : Nat) t v, Try.f4.params[j]? = some t → args[j]? = some v → Value.okWide Try.prog W .any base t v := hval0
  have hW' := hW
  obtain ⟨p, q, hA0, hV, rfl, hfz, hnd⟩ := hW
  have hA : DataW.TrodAll enc Try.prog W 0 (fun _ => true) true Try.f4.params.toList args.toList ds p := hA0
  rw [Try.params4] at hA hval
  obtain ⟨v0, vs0, d0, ds0, p0, q0, hargs, rfl, rfl, h0, r0⟩ := trodAll_cons hA
  obtain ⟨rfl, rfl, rfl⟩ := trodAll_nil r0
  obtain rfl : args = #[v0] := by cases args; simp_all
  obtain ⟨rfl, rfl⟩ := trodVars_none hV
  have k0 := h0
  have lt0 : ∀ x ∈ p0, x.block < W.heap.size := by obtain ⟨m, hm⟩ := k0; exact DataW.trod_lt m _ _ _ hm
  obtain ⟨a0, len0, cap0, rfl⟩ := okWide_slice Try.underlying22 (hval 0 22 v0 rfl rfl)
  obtain ⟨z0, w0⟩ : ∃ zs, IsRow .u8 W a0 len0 cap0 zs := by
    obtain ⟨fuel, hf⟩ := h0
    rcases open_ints Try.underlying22 Try.underlying5 (by kernel_rfl) hf with ⟨hcs, _⟩ | ⟨x, l, c, zs, hcs, _, hl, hm, hz, _, hcell, hwz⟩
    · simp [Value.cells] at hcs
      obtain ⟨rfl, rfl, rfl⟩ := hcs
      exact ⟨[], .inl ⟨rfl, rfl, rfl, rfl⟩⟩
    · simp [Value.cells] at hcs
      obtain ⟨rfl, rfl, rfl⟩ := hcs
      exact ⟨zs, .inr ⟨_, rfl, hl, hm, by simpa using hz, hcell, hwz⟩⟩
  clear hA0 hval0
  refine (walk W a0 len0 cap0 z0 w0).mono fun e W' ⟨he, bel⟩ => ?_
  subst he
  exact ⟨_, rfl, _, _, _, [], _, [], hW', trodAll_mk1 (shut_bool Try.underlying4 _), (trodAll_cons_mk (Below.trod laidOut (by kernel_rfl) (of_decide_eq_true (by kernel_rfl)) k0 bel lt0) trodAll_mk0), rfl, bel.frame _, fun h => by cases h⟩

theorem over : Rows.fnLotsAllRow.holds Try.pinned (OpenSpec.ofChange Rows.fnLotsAllSpec) :=
  OpenClaim.holds_of_wide 4 Try.f4 rfl rfl rfl rfl rfl rfl rfl ⟨rfl, rfl, rfl, rfl, rfl⟩ rfl rfl rfl rfl rfl (by kernel_rfl) Try.func4 (by kernel_rfl)
    (of_decide_eq_true (by kernel_rfl)) (by unfold Func.isWrapper; first | (rw [if_pos (by decide +kernel)]; kernel_rfl) | (rw [if_neg (by decide +kernel)]; exact ⟨rfl, rfl⟩))
    (fun os started H enc _ => lifted os started H enc)

/-- the statement -/
theorem proved : Rows.FnLotsAllSaid := over
#print axioms proved
end Go.Proofs.Ytpiajeibfggpiaa.fnLotsAll
