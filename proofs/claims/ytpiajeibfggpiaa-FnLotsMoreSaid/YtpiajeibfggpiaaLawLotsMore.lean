/- FnLotsMore: whatever its arguments are, the law FnLotsMore of the given program returns true, and leaves all memory as it was. -/
import Derived.Test.YtpiajeibfggpiaaKit
import Derived.Test.YtpiajeibfggpiaaLawKit
import Derived.Test.YtpiajeibfggpiaaDraws
import Derived.Test.YtpiajeibfggpiaaLotFacts
namespace Go.Proofs.Ytpiajeibfggpiaa.fnLotsMore
open Go.ChangeShapes Go.WideShapes Go.ChangeAt Go.RowKit Go.Joins
open Go.ChangeMaps (open_string shut_string)
set_option linter.unusedVariables false

set_option maxHeartbeats 800000 in
/-- the walk -/
theorem walk (w : World) (a0 : Option Addr) (len0 cap0 : Nat) (z0 : List Int) (w0 : IsRow .u8 w a0 len0 cap0 z0) :
    Calls Try.prog 5 #[.slice a0 len0 cap0] w fun e w' => e = .returned (.bool true) ∧ Below w.heap.size w w' := by
  by_cases hl0 : (1048576 : Int) < (len0 : Int)
  · go_enter Try.func5, Try.ntmps5
    go_wp2_with fail
    go_ret
    exact ⟨rfl, Below.refl _ _⟩
  · have hs0_ : len0 ≤ 1048576 := by omega
    go_enter Try.func5, Try.ntmps5
    go_wp2_with fail
    refine (drawLotsOf_any a0 len0 cap0 z0 w w0).mono ?_
    rintro e u1 ⟨m, s, rfl, hb1⟩
    have hs1 := hb1.size
    have bw1 : Below w.heap.size w u1 := hb1.mono (by omega)
    have HI := Lib.hid (fun u => iLotsOf_any m s u)
    have HSP := Lib.hid (fun u => sLotsOf_any m s u)
    have h5 := Bal.lots_len m s
    cases hv : Bal.lotsOk m s with
    | false =>
      have hi := HI.out; rw [hv, Bal.lots_f hv] at hi; have HI2 := Lib.hid hi
      have hs := HSP.out; rw [hv, Bal.lots_f hv] at hs; have HS2 := Lib.hid hs
      clear hi hs
      go_wp2_with fail
      refine (HI2.out u1).mono ?_
      rintro e u2 ⟨A_p, n_p, c_p, rfl, ho, hb2⟩
      have hs2 := hb2.size
      have bw2 : Below w.heap.size w u2 := bw1.trans (hb2.mono (by omega))
      clear bw1
      have o_p_2 := ho
      have HN_p := Lib.hid ho.len
      clear ho
      go_wp2_with fail
      refine (HS2.out u2).mono ?_
      rintro e u3 ⟨A_q, n_q, c_q, rfl, ho, hb3⟩
      have hs3 := hb3.size
      have bw3 : Below w.heap.size w u3 := bw2.trans (hb3.mono (by omega))
      have o_p_3 := o_p_2.below hb3
      clear o_p_2 bw2
      have o_q_3 := ho
      have HN_q := Lib.hid ho.len
      clear ho
      have hn_p : n_p ≤ 5 := by have h1 := HN_p.out; simp at h1; omega
      have hn_q : n_q ≤ 5 := by have h1 := HN_q.out; simp at h1; omega
      go_wp2_with fail
      refine (quiet_below (sameInts_any A_p A_q n_p n_q c_p c_q [] [] u3 _ _ o_p_3.rd o_q_3.rd (by omega) (by omega))).mono ?_
      rintro e u4 ⟨rfl, hb4⟩
      have hs4 := hb4.size
      have bw4 : Below w.heap.size w u4 := bw3.trans (hb4.mono (by omega))
      have o_p_4 := o_p_3.below hb4
      have o_q_4 := o_q_3.below hb4
      clear o_p_3 o_q_3 bw3
      go_wp2_with fail
      refine (quiet_below (sameInts_any A_p A_q n_p n_q c_p c_q [] [] u4 _ _ o_p_4.rd o_q_4.rd (by omega) (by omega))).mono ?_
      rintro e u5 ⟨rfl, hb5⟩
      have hs5 := hb5.size
      have bw5 : Below w.heap.size w u5 := bw4.trans (hb5.mono (by omega))
      have o_p_5 := o_p_4.below hb5
      have o_q_5 := o_q_4.below hb5
      clear o_p_4 o_q_4 bw4
      go_wp2_with fail
      go_ret
      exact ⟨rfl, bw5⟩
    | true =>
      have hq := hv
      unfold Bal.lotsOk at hq
      simp only [decide_eq_true_eq] at hq
      obtain ⟨m', rfl⟩ : ∃ m' : Nat, m = m' := ⟨m.toNat, by omega⟩
      obtain ⟨s', rfl⟩ : ∃ s' : Nat, s = s' := ⟨s.toNat, by omega⟩
      have hm1 : 1 ≤ m' := by omega
      have hm5 : m' ≤ 5 := by omega
      have hs9 : s' ≤ 999 := by omega
      have hT := Bal.lots_t hv
      rw [Int.toNat_natCast, Int.toNat_natCast] at hT
      have hi := HI.out; rw [hv, hT] at hi; have HI2 := Lib.hid hi
      have hs := HSP.out; rw [hv, hT] at hs; have HS2 := Lib.hid hs
      clear hi hs hT hq hv h5
      obtain ⟨ps, hps⟩ : ∃ ps, ps = Bal.lotsOf m' s' := ⟨_, rfl⟩
      have hpl : ps.length = m' := by rw [hps, Bal.lotsOf_len]
      have hi := HI2.out; rw [← hps] at hi; have HI3 := Lib.hid hi
      have hs := HS2.out; rw [← hps] at hs; have HS3 := Lib.hid hs
      have HPS := Lib.hid hps
      have HPL := Lib.hid hpl
      clear hi hs HI2 HS2 hps hpl HI HSP
      go_wp2_with fail
      refine (HI3.out u1).mono ?_
      rintro e u2 ⟨A_p, n_p, c_p, rfl, ho, hb2⟩
      have hs2 := hb2.size
      have bw2 : Below w.heap.size w u2 := bw1.trans (hb2.mono (by omega))
      clear bw1
      have o_p_2 := ho
      have HN_p := Lib.hid ho.len
      clear ho
      go_wp2_with fail
      refine (HS3.out u2).mono ?_
      rintro e u3 ⟨A_q, n_q, c_q, rfl, ho, hb3⟩
      have hs3 := hb3.size
      have bw3 : Below w.heap.size w u3 := bw2.trans (hb3.mono (by omega))
      have o_p_3 := o_p_2.below hb3
      clear o_p_2 bw2
      have o_q_3 := ho
      have HN_q := Lib.hid ho.len
      clear ho
      obtain rfl : n_p = m' := by have h1 := HN_p.out; have h2 := HPL.out; omega
      have hn_q : n_q ≤ 5 := by have h1 := HN_q.out; have h2 := HPL.out; omega
      go_wp2_with fail
      refine (quiet_below (sameInts_any A_p A_q n_p n_q c_p c_q ps ps u3 _ _ o_p_3.rd o_q_3.rd (by omega) (by omega))).mono ?_
      rintro e u4 ⟨rfl, hb4⟩
      have hs4 := hb4.size
      have bw4 : Below w.heap.size w u4 := bw3.trans (hb4.mono (by omega))
      have o_p_4 := o_p_3.below hb4
      have o_q_4 := o_q_3.below hb4
      clear o_p_3 o_q_3 bw3
      have HF := Lib.hid (Bal.lot_facts hm1 hm5 hs9)
      have HL := Lib.hid (Bal.fact_le hm5)
      go_wp2_with fail
      go_loop [9, 10] (fun kk i => ∃ j : Nat, 2 ≤ j ∧ j ≤ n_p + 1 ∧ i = .int .i64 j ∧ kk = .int .i64 (Bal.fact (j - 1) : Nat)) (fun _ i => n_p + 1 - (intOf i).toNat)
      case atStart => exact ⟨2, by omega, by omega, rfl, rfl⟩
      case round =>
        obtain ⟨j, hj2, hj, rfl, rfl⟩ := hrel
        by_cases hlt : (j : Int) ≤ (n_p : Int)
        · have hst := Bal.fact_step hj2
          have hfl := Bal.fact_le (m := j - 1) (by omega)
          have hfj := Bal.fact_le (m := j) (by omega)
          have HST := Lib.hid (show ((Bal.fact (j - 1) : Nat) : Int) * (j : Int) = ((Bal.fact j : Nat) : Int) by rw [← hst]; simp)
          have hw : IntKind.i64.wrap (((Bal.fact (j - 1) : Nat) : Int) * (j : Int)) = ((Bal.fact j : Nat) : Int) := by rw [HST.out]; exact IntWalk.i64_in _ (by omega)
          clear hst HST
          obtain ⟨f1, hf1⟩ : ∃ f1, f1 = Bal.fact (j - 1) := ⟨_, rfl⟩
          obtain ⟨f2, hf2⟩ : ∃ f2, f2 = Bal.fact j := ⟨_, rfl⟩
          rw [← hf1, ← hf2] at hw
          rw [← hf1] at hfl ⊢
          rw [← hf2] at hfj
          have HF2 := Lib.hid hf2
          clear hf1 hf2
          have hw2 : ((f1 : Nat) : Int) * (j : Int) = ((f2 : Nat) : Int) := by
            have h1 : (((f1 : Nat) : Int) * (j : Int)) ≤ 120 * 6 := Int.mul_le_mul (by omega) (by omega) (by omega) (by omega)
            have h2 : 0 ≤ (((f1 : Nat) : Int) * (j : Int)) := Int.mul_nonneg (by omega) (by omega)
            rw [← hw]; exact (IntWalk.i64_in _ (by omega)).symm
          go_wp2_with fail
          go_round
          case rel => exact ⟨j + 1, by omega, by omega, by go_num, by rw [Nat.add_sub_cancel, ← HF2.out]⟩
          case measure => simp [intOf]; omega
        · obtain rfl : j = n_p + 1 := by omega
          rw [Nat.add_sub_cancel]
          have hfl := HL.out
          have hF := HF.out.2.2
          generalize Bal.fact n_p = f at hfl hF
          by_cases hbig : 999 < s' + f
          · have hbig' : (999 : Int) < (s' : Int) + (f : Int) := by omega
            clear hF
            go_wp2_with fail
            go_ret
            exact ⟨rfl, bw4⟩
          · have hbig' : ¬ (999 : Int) < (s' : Int) + (f : Int) := by omega
            have hx := hF (by omega)
            have h1 := fun u => iLotsOf_any (n_p : Int) ((s' : Int) + (f : Int)) u
            have hok : Bal.lotsOk (n_p : Int) ((s' : Int) + (f : Int)) = true := by unfold Bal.lotsOk; simp; omega
            have hT := Bal.lots_t hok
            have e1 : ((s' : Int) + (f : Int)).toNat = s' + f := by omega
            rw [Int.toNat_natCast, e1, hx, ← HPS.out] at hT
            rw [hok, hT] at h1
            have H1 := Lib.hid h1
            clear h1 hT hok e1 hx hF
            go_wp2_with fail
            refine (H1.out u4).mono ?_
            rintro e u5 ⟨A_x, n_x, c_x, rfl, ho, hb5⟩
            have hs5 := hb5.size
            have bw5 : Below w.heap.size w u5 := bw4.trans (hb5.mono (by omega))
            have o_p_5 := o_p_4.below hb5
            have o_q_5 := o_q_4.below hb5
            clear o_p_4 o_q_4 bw4
            have o_x_5 := ho
            have HN_x := Lib.hid ho.len
            clear ho
            obtain rfl : n_x = n_p := by have h1 := HN_x.out; have h2 := HPL.out; omega
            go_wp2_with fail
            refine (quiet_below (sameInts_any A_x A_p n_x n_x c_x c_p ps ps u5 _ _ o_x_5.rd o_p_5.rd (by omega) (by omega))).mono ?_
            rintro e u6 ⟨rfl, hb6⟩
            have hs6 := hb6.size
            have bw6 : Below w.heap.size w u6 := bw5.trans (hb6.mono (by omega))
            have o_p_6 := o_p_5.below hb6
            have o_q_6 := o_q_5.below hb6
            have o_x_6 := o_x_5.below hb6
            clear o_p_5 o_q_5 o_x_5 bw5
            go_wp2_with fail
            go_ret
            exact ⟨rfl, bw6⟩

set_option maxRecDepth 100000 in
theorem lifted (os : Os) (started : os.Started) (H : Type) (enc : TypeId × Value → H) :
    ReturnsInHanded {} Try.checked os 5 .any (Rows.fnLotsMoreSpec.pre6 enc Try.prog Try.f5 Rows.fnLotsMoreRow.domain false) (Rows.fnLotsMoreSpec.post enc Try.prog Try.f5 false true false false) := by
  refine returnsInHanded_of_change (C := Try.checked) own started (by kernel_rfl) Try.func5
    (ChangeSpec.witness6 (enc := enc) (C := Try.checked) false ⟨#[], #[.slice none 0 0], []⟩ 8 (by kernel_rfl) (by kernel_rfl) (by kernel_rfl) (by kernel_rfl)) ?_
  intro W base args ds gs before hval0 hW hcnd _
  have hval : ∀ (j : Nat) t v, Try.f5.params[j]? = some t → args[j]? = some v → Value.okWide Try.prog W .any base t v := hval0
  have hW' := hW
  obtain ⟨p, q, hA0, hV, rfl, hfz, hnd⟩ := hW
  have hA : DataW.TrodAll enc Try.prog W 0 (fun _ => true) true Try.f5.params.toList args.toList ds p := hA0
  rw [Try.params5] at hA hval
  obtain ⟨v0, vs0, d0, ds0, p0, q0, hargs, rfl, rfl, h0, r0⟩ := trodAll_cons hA
  obtain ⟨rfl, rfl, rfl⟩ := trodAll_nil r0
  obtain rfl : args = #[v0] := by cases args; simp_all
  obtain ⟨rfl, rfl⟩ := trodVars_none hV
  have k0 := h0
  have lt0 : ∀ x ∈ p0, x.block < W.heap.size := by obtain ⟨m, hm⟩ := k0; exact DataW.trod_lt m _ _ _ hm
  obtain ⟨a0, len0, cap0, rfl⟩ := okWide_slice Try.underlying22 (hval 0 22 v0 rfl rfl)
  obtain ⟨z0, w0⟩ : ∃ zs, IsRow .u8 W a0 len0 cap0 zs := by
    obtain ⟨fuel, hf⟩ := h0
    rcases open_ints Try.underlying22 Try.underlying5 (by kernel_rfl) hf with ⟨hcs, _⟩ | ⟨x, l, c, zs, hcs, _, hl, hm, hz, _, hcell, hwz⟩
    · simp [Value.cells] at hcs
      obtain ⟨rfl, rfl, rfl⟩ := hcs
      exact ⟨[], .inl ⟨rfl, rfl, rfl, rfl⟩⟩
    · simp [Value.cells] at hcs
      obtain ⟨rfl, rfl, rfl⟩ := hcs
      exact ⟨zs, .inr ⟨_, rfl, hl, hm, by simpa using hz, hcell, hwz⟩⟩
  clear hA0 hval0
  refine (walk W a0 len0 cap0 z0 w0).mono fun e W' ⟨he, bel⟩ => ?_
  subst he
  exact ⟨_, rfl, _, _, _, [], _, [], hW', trodAll_mk1 (shut_bool Try.underlying4 _), (trodAll_cons_mk (Below.trod laidOut (by kernel_rfl) (of_decide_eq_true (by kernel_rfl)) k0 bel lt0) trodAll_mk0), rfl, bel.frame _, fun h => by cases h⟩

theorem over : Rows.fnLotsMoreRow.holds Try.pinned (OpenSpec.ofChange Rows.fnLotsMoreSpec) :=
  OpenClaim.holds_of_wide 5 Try.f5 rfl rfl rfl rfl rfl rfl rfl ⟨rfl, rfl, rfl, rfl, rfl⟩ rfl rfl rfl rfl rfl (by kernel_rfl) Try.func5 (by kernel_rfl)
    (of_decide_eq_true (by kernel_rfl)) (by unfold Func.isWrapper; first | (rw [if_pos (by decide +kernel)]; kernel_rfl) | (rw [if_neg (by decide +kernel)]; exact ⟨rfl, rfl⟩))
    (fun os started H enc _ => lifted os started H enc)

/-- the statement -/
theorem proved : Rows.FnLotsMoreSaid := over
#print axioms proved
end Go.Proofs.Ytpiajeibfggpiaa.fnLotsMore
