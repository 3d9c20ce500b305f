/- FnLots: whatever its arguments are, the law FnLots of the given program returns true, and leaves all memory as it was. -/
import Derived.Test.YtpiajeibfggpiaaKit
import Derived.Test.YtpiajeibfggpiaaLawKit
import Derived.Test.YtpiajeibfggpiaaDraws
import Derived.Test.YtpiajeibfggpiaaLotFacts
namespace Go.Proofs.Ytpiajeibfggpiaa.fnLots
open Go.ChangeShapes Go.WideShapes Go.ChangeAt Go.RowKit Go.Joins
open Go.ChangeMaps (open_string shut_string)
set_option linter.unusedVariables false

set_option maxHeartbeats 6400000 in
/-- the walk -/
theorem walk (w : World) (a0 : Option Addr) (len0 cap0 : Nat) (z0 : List Int) (w0 : IsRow .u8 w a0 len0 cap0 z0) :
    Calls Try.prog 8 #[.slice a0 len0 cap0] w fun e w' => e = .returned (.bool true) ∧ Below w.heap.size w w' := by
  by_cases hl0 : (1048576 : Int) < (len0 : Int)
  · go_enter Try.func8, Try.ntmps8
    go_wp2_with fail
    go_ret
    exact ⟨rfl, Below.refl _ _⟩
  · have hs0_ : len0 ≤ 1048576 := by omega
    go_enter Try.func8, Try.ntmps8
    go_wp2_with fail
    refine (drawLotsOf_any a0 len0 cap0 z0 w w0).mono ?_
    rintro e u1 ⟨m, s, rfl, hb1⟩
    have hs1 := hb1.size
    have bw1 : Below w.heap.size w u1 := hb1.mono (by omega)
    have HI := Lib.hid (fun u => iLotsOf_any m s u)
    have HSP := Lib.hid (fun u => sLotsOf_any m s u)
    have h5 := Bal.lots_len m s
    cases hv : Bal.lotsOk m s with
    | false =>
      have hno : ¬ ((1 ≤ m ∧ m ≤ 5) ∧ (0 ≤ s ∧ s ≤ 999)) := by unfold Bal.lotsOk at hv; simpa using hv
      have HNO := Lib.hid hno
      clear hno
      have hi := HI.out; rw [hv, Bal.lots_f hv] at hi; have HI2 := Lib.hid hi
      have hs := HSP.out; rw [hv, Bal.lots_f hv] at hs; have HS2 := Lib.hid hs
      clear hi hs
      go_wp2_with fail
      refine (HI2.out u1).mono ?_
      rintro e u2 ⟨A_p, n_p, c_p, rfl, ho, hb2⟩
      have hs2 := hb2.size
      have bw2 : Below w.heap.size w u2 := bw1.trans (hb2.mono (by omega))
      clear bw1
      have o_p_2 := ho
      have HN_p := Lib.hid ho.len
      clear ho
      go_wp2_with fail
      refine (HS2.out u2).mono ?_
      rintro e u3 ⟨A_q, n_q, c_q, rfl, ho, hb3⟩
      have hs3 := hb3.size
      have bw3 : Below w.heap.size w u3 := bw2.trans (hb3.mono (by omega))
      have o_p_3 := o_p_2.below hb3
      clear o_p_2 bw2
      have o_q_3 := ho
      have HN_q := Lib.hid ho.len
      clear ho
      have hn_p : n_p ≤ 5 := by have h1 := HN_p.out; simp at h1; omega
      have hn_q : n_q ≤ 5 := by have h1 := HN_q.out; simp at h1; omega
      go_wp2_with fail
      refine (quiet_below (sameInts_any A_p A_q n_p n_q c_p c_q [] [] u3 _ _ o_p_3.rd o_q_3.rd (by omega) (by omega))).mono ?_
      rintro e u4 ⟨rfl, hb4⟩
      have hs4 := hb4.size
      have bw4 : Below w.heap.size w u4 := bw3.trans (hb4.mono (by omega))
      have o_p_4 := o_p_3.below hb4
      have o_q_4 := o_q_3.below hb4
      clear o_p_3 o_q_3 bw3
      clear hv h5
      by_cases h1 : 1 ≤ m
      · by_cases h2 : m ≤ 5
        · by_cases h3 : 0 ≤ s
          · by_cases h4 : s ≤ 999
            · exact absurd ⟨⟨h1, h2⟩, h3, h4⟩ HNO.out
            · have dt1 : decide (1 ≤ m) = true := decide_eq_true h1
              have dt2 : decide (m ≤ 5) = true := decide_eq_true h2
              have dt3 : decide (0 ≤ s) = true := decide_eq_true h3
              have df4 : decide (s ≤ 999) = false := decide_eq_false h4
              go_wp2_with fail
              go_quiet (fail)
              go_wp2_with fail
              go_ret
              exact ⟨rfl, Reg.drewN bw4 _⟩
          · have dt1 : decide (1 ≤ m) = true := decide_eq_true h1
            have dt2 : decide (m ≤ 5) = true := decide_eq_true h2
            have df3 : decide (0 ≤ s) = false := decide_eq_false h3
            go_wp2_with fail
            go_quiet (fail)
            go_wp2_with fail
            go_ret
            exact ⟨rfl, Reg.drewN bw4 _⟩
        · have dt1 : decide (1 ≤ m) = true := decide_eq_true h1
          have df2 : decide (m ≤ 5) = false := decide_eq_false h2
          go_wp2_with fail
          go_quiet (fail)
          go_wp2_with fail
          go_ret
          exact ⟨rfl, Reg.drewN bw4 _⟩
      · have df1 : decide (1 ≤ m) = false := decide_eq_false h1
        go_wp2_with fail
        go_quiet (fail)
        go_wp2_with fail
        go_ret
        exact ⟨rfl, Reg.drewN bw4 _⟩
    | true =>
      have hq := hv
      unfold Bal.lotsOk at hq
      simp only [decide_eq_true_eq] at hq
      obtain ⟨m', rfl⟩ : ∃ m' : Nat, m = m' := ⟨m.toNat, by omega⟩
      obtain ⟨s', rfl⟩ : ∃ s' : Nat, s = s' := ⟨s.toNat, by omega⟩
      have hm1 : 1 ≤ m' := by omega
      have hm5 : m' ≤ 5 := by omega
      have hs9 : s' ≤ 999 := by omega
      have hT := Bal.lots_t hv
      rw [Int.toNat_natCast, Int.toNat_natCast] at hT
      have hi := HI.out; rw [hv, hT] at hi; have HI2 := Lib.hid hi
      have hs := HSP.out; rw [hv, hT] at hs; have HS2 := Lib.hid hs
      clear hi hs hT hq hv h5
      obtain ⟨ps, hps⟩ : ∃ ps, ps = Bal.lotsOf m' s' := ⟨_, rfl⟩
      have hpl : ps.length = m' := by rw [hps, Bal.lotsOf_len]
      have hi := HI2.out; rw [← hps] at hi; have HI3 := Lib.hid hi
      have hs := HS2.out; rw [← hps] at hs; have HS3 := Lib.hid hs
      have HPS := Lib.hid hps
      have HPL := Lib.hid hpl
      clear hi hs HI2 HS2 hps hpl HI HSP
      go_wp2_with fail
      refine (HI3.out u1).mono ?_
      rintro e u2 ⟨A_p, n_p, c_p, rfl, ho, hb2⟩
      have hs2 := hb2.size
      have bw2 : Below w.heap.size w u2 := bw1.trans (hb2.mono (by omega))
      clear bw1
      have o_p_2 := ho
      have HN_p := Lib.hid ho.len
      clear ho
      go_wp2_with fail
      refine (HS3.out u2).mono ?_
      rintro e u3 ⟨A_q, n_q, c_q, rfl, ho, hb3⟩
      have hs3 := hb3.size
      have bw3 : Below w.heap.size w u3 := bw2.trans (hb3.mono (by omega))
      have o_p_3 := o_p_2.below hb3
      clear o_p_2 bw2
      have o_q_3 := ho
      have HN_q := Lib.hid ho.len
      clear ho
      obtain rfl : n_p = m' := by have h1 := HN_p.out; have h2 := HPL.out; omega
      have hn_q : n_q ≤ 5 := by have h1 := HN_q.out; have h2 := HPL.out; omega
      go_wp2_with fail
      refine (quiet_below (sameInts_any A_p A_q n_p n_q c_p c_q ps ps u3 _ _ o_p_3.rd o_q_3.rd (by omega) (by omega))).mono ?_
      rintro e u4 ⟨rfl, hb4⟩
      have hs4 := hb4.size
      have bw4 : Below w.heap.size w u4 := bw3.trans (hb4.mono (by omega))
      have o_p_4 := o_p_3.below hb4
      have o_q_4 := o_q_3.below hb4
      clear o_p_3 o_q_3 bw3
      have hF := Bal.lot_facts hm1 hm5 hs9
      obtain ⟨hp1, hp2⟩ := o_p_4.cap
      obtain ⟨gp, rfl, hgB, hgl, hcell⟩ := o_p_4.at_ (by omega)
      have hc0 := (hcell 0 (by omega)).1
      have hx0 : ps.getD 0 0 = ((s' % n_p : Nat) : Int) := by
        have h1 := hF.2.1
        rw [← HPS.out] at h1
        rw [← h1, List.getD_eq_getElem?_getD, List.getD_eq_getElem?_getD, List.getElem?_eq_getElem (by have := HPL.out; omega)]
        rfl
      rw [hx0] at hc0
      have hem : (s' : Int) % (n_p : Int) = ((s' % n_p : Nat) : Int) := (Int.natCast_emod _ _).symm
      have htm : (s' : Int).tmod (n_p : Int) = ((s' % n_p : Nat) : Int) := by rw [Int.tmod_eq_emod_of_nonneg (by omega)]; exact hem
      have hlv := fun q => iLotsValid_any (some ⟨gp, 0, none⟩) n_p c_p ps (u4.drewN q) _ (o_p_4.rd.drewN q) hp1 (by omega) hp2
      have hbv : Bal.bv ps (n_p : Int) = true := by rw [HPS.out]; exact hF.1
      rw [hbv] at hlv
      have HLV := Lib.hid hlv
      have hmi : IntKind.i64.wrap ((s' % n_p : Nat) : Int) = ((s' % n_p : Nat) : Int) := IntWalk.i64_in _ (by have : s' % n_p ≤ s' := Nat.mod_le _ _; omega)
      generalize s' % n_p = r at hc0 hem htm hmi
      have hp0 : (0 : Int) < (n_p : Int) := by omega
      have hn0 : ¬ (n_p : Int) = 0 := by omega
      have h1i : (1 : Int) ≤ (n_p : Int) := by omega
      have h5i : (n_p : Int) ≤ 5 := by omega
      have h0s : (0 : Int) ≤ (s' : Int) := by omega
      have h9s : (s' : Int) ≤ 999 := by omega
      have d1 : decide ((1 : Int) ≤ (n_p : Int)) = true := decide_eq_true h1i
      have d2 : decide ((n_p : Int) ≤ 5) = true := decide_eq_true h5i
      have d3 : decide ((0 : Int) ≤ (s' : Int)) = true := decide_eq_true h0s
      have d4 : decide ((s' : Int) ≤ 999) = true := decide_eq_true h9s
      clear hlv hbv hF hx0 hcell
      go_wp2_with fail
      go_quiet ((go_at_call 23; exact Calls.quiet_of_same ((HLV.out _).mono fun _ _ ⟨he, hw⟩ => ⟨he, hw.symm⟩)))
      go_wp2_with fail
      go_ret
      exact ⟨rfl, Reg.drewN bw4 _⟩

set_option maxRecDepth 100000 in
theorem lifted (os : Os) (started : os.Started) (H : Type) (enc : TypeId × Value → H) :
    ReturnsInHanded {} Try.checked os 8 .any (Rows.fnLotsSpec.pre6 enc Try.prog Try.f8 Rows.fnLotsRow.domain false) (Rows.fnLotsSpec.post enc Try.prog Try.f8 false true false false) := by
  refine returnsInHanded_of_change (C := Try.checked) own started (by kernel_rfl) Try.func8
    (ChangeSpec.witness6 (enc := enc) (C := Try.checked) false ⟨#[], #[.slice none 0 0], []⟩ 8 (by kernel_rfl) (by kernel_rfl) (by kernel_rfl) (by kernel_rfl)) ?_
  intro W base args ds gs before hval0 hW hcnd _
  have hval : ∀ (j : Nat) t v, Try.f8.params[j]? = some t → args[j]? = some v → Value.okWide Try.prog W .any base t v := hval0
  have hW' := hW
  obtain ⟨p, q, hA0, hV, rfl, hfz, hnd⟩ := hW
  have hA : DataW.TrodAll enc Try.prog W 0 (fun _ => true) true Try.f8.params.toList args.toList ds p := hA0
  rw [Try.params8] at hA hval
  obtain ⟨v0, vs0, d0, ds0, p0, q0, hargs, rfl, rfl, h0, r0⟩ := trodAll_cons hA
  obtain ⟨rfl, rfl, rfl⟩ := trodAll_nil r0
  obtain rfl : args = #[v0] := by cases args; simp_all
  obtain ⟨rfl, rfl⟩ := trodVars_none hV
  have k0 := h0
  have lt0 : ∀ x ∈ p0, x.block < W.heap.size := by obtain ⟨m, hm⟩ := k0; exact DataW.trod_lt m _ _ _ hm
  obtain ⟨a0, len0, cap0, rfl⟩ := okWide_slice Try.underlying22 (hval 0 22 v0 rfl rfl)
  obtain ⟨z0, w0⟩ : ∃ zs, IsRow .u8 W a0 len0 cap0 zs := by
    obtain ⟨fuel, hf⟩ := h0
    rcases open_ints Try.underlying22 Try.underlying5 (by kernel_rfl) hf with ⟨hcs, _⟩ | ⟨x, l, c, zs, hcs, _, hl, hm, hz, _, hcell, hwz⟩
    · simp [Value.cells] at hcs
      obtain ⟨rfl, rfl, rfl⟩ := hcs
      exact ⟨[], .inl ⟨rfl, rfl, rfl, rfl⟩⟩
    · simp [Value.cells] at hcs
      obtain ⟨rfl, rfl, rfl⟩ := hcs
      exact ⟨zs, .inr ⟨_, rfl, hl, hm, by simpa using hz, hcell, hwz⟩⟩
  clear hA0 hval0
  refine (walk W a0 len0 cap0 z0 w0).mono fun e W' ⟨he, bel⟩ => ?_
  subst he
  exact ⟨_, rfl, _, _, _, [], _, [], hW', trodAll_mk1 (shut_bool Try.underlying4 _), (trodAll_cons_mk (Below.trod laidOut (by kernel_rfl) (of_decide_eq_true (by kernel_rfl)) k0 bel lt0) trodAll_mk0), rfl, bel.frame _, fun h => by cases h⟩

theorem over : Rows.fnLotsRow.holds Try.pinned (OpenSpec.ofChange Rows.fnLotsSpec) :=
  OpenClaim.holds_of_wide 8 Try.f8 rfl rfl rfl rfl rfl rfl rfl ⟨rfl, rfl, rfl, rfl, rfl⟩ rfl rfl rfl rfl rfl (by kernel_rfl) Try.func8 (by kernel_rfl)
    (of_decide_eq_true (by kernel_rfl)) (by unfold Func.isWrapper; first | (rw [if_pos (by decide +kernel)]; kernel_rfl) | (rw [if_neg (by decide +kernel)]; exact ⟨rfl, rfl⟩))
    (fun os started H enc _ => lifted os started H enc)

/-- the statement -/
theorem proved : Rows.FnLotsSaid := over
#print axioms proved
end Go.Proofs.Ytpiajeibfggpiaa.fnLots
