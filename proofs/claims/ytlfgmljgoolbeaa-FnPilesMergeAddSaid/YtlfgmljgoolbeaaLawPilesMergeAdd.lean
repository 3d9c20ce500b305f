/- FnPilesMergeAdd: whatever its arguments are, the law FnPilesMergeAdd of the given program returns true, and leaves all memory as it was. -/
import Derived.Test.YtlfgmljgoolbeaaKit
import Derived.Test.YtlfgmljgoolbeaaPiLaws
import Derived.Test.YtlfgmljgoolbeaaPiTotal
import Derived.Test.YtlfgmljgoolbeaaPiCopy
import Derived.Test.YtlfgmljgoolbeaaLawKit
import Derived.Test.YtlfgmljgoolbeaaTuWalk
namespace Go.Proofs.Ytlfgmljgoolbeaa.fnPilesMergeAdd
open Go.ChangeShapes Go.WideShapes Go.ChangeAt Go.RowKit Go.Joins
open Go.ChangeMaps (open_string shut_string)
set_option linter.unusedVariables false

set_option maxRecDepth 100000 in
set_option maxHeartbeats 1600000 in
/-- the walk -/
theorem walk (w : World) (a0 : Option Addr) (len0 cap0 : Nat) (z0 : List Int) (w0 : IsRow .u8 w a0 len0 cap0 z0) :
    Calls Try.prog 15 #[.slice a0 len0 cap0] w fun e w' => e = .returned (.bool true) ∧ Below w.heap.size w w' := by
  by_cases hl0 : (1048576 : Int) < (len0 : Int)
  · go_enter Try.func15, Try.ntmps15
    go_wp2_with fail
    go_ret
    exact ⟨rfl, Below.refl _ _⟩
  ·
    go_enter Try.func15, Try.ntmps15
    have hBw : w.heap.size ≤ w.heap.size := Nat.le_refl _
    go_wp2_with fail
    refine (drawPilesMerge_any a0 len0 cap0 z0 w w0).mono ?_
    rintro e u1 ⟨ga, na, ca, ps, gb, nb, cb, qs, rfl, hoa, hob, hna, hnb, hsz, hsz2, hb1⟩
    have hs1 := hb1.size
    have bw1 : Below w.heap.size w u1 := hb1.mono (by omega)
    obtain ⟨hc1, hc2⟩ := hoa.cap
    obtain ⟨hd1, hd2⟩ := hob.cap
    have HLA := Lib.hid hoa.len
    have HLB := Lib.hid hob.len
    have o_a_1 := hoa
    have o_b_1 := hob
    clear hoa hob
    have HZA := Lib.hid (fun (p : Pil.Pl) (hp : p ∈ ps) => Nat.le_trans (hsz p hp) (show 5 ≤ 4194304 by omega))
    clear hsz
    have hsz := hsz2
    clear hsz2
    have HZB := Lib.hid (fun (p : Pil.Pl) (hp : p ∈ qs) => Nat.le_trans (hsz p hp) (show 5 ≤ 4194304 by omega))
    clear hsz
    have HI := Lib.hid (fun u (h : RdP u u.heap.size (some ⟨ga, 0, none⟩) na ps) (h' : RdP u u.heap.size (some ⟨gb, 0, none⟩) nb qs) => iPilesMerge_any _ na ca _ nb cb ps qs u h h' (by omega) (by omega) HZA.out HZB.out)
    have HS := Lib.hid (fun u (h : RdP u u.heap.size (some ⟨ga, 0, none⟩) na ps) (h' : RdP u u.heap.size (some ⟨gb, 0, none⟩) nb qs) => sPilesMerge_any ga 0 na ca _ nb cb ps qs u h h' (by omega) (by omega) HZA.out HZB.out)
    cases hok : pmergeOk ps qs with
    | false =>
      have he := pmerge_f hok
      have hi := HI.out; rw [hok, he] at hi; have HI2 := Lib.hid hi
      have hs := HS.out; rw [hok, he] at hs; have HS2 := Lib.hid hs
      clear hi hs he HI HS hok
      go_wp2_with fail
      refine (HI2.out u1 o_a_1.rd o_b_1.rd).mono ?_
      rintro e u2 ⟨A_p, n_p, c_p, rfl, ho, hb2⟩
      have hs2 := hb2.size
      have bw2 : Below w.heap.size w u2 := bw1.trans (hb2.mono (by omega))
      have o_a_2 := o_a_1.below hb2
      have o_b_2 := o_b_1.below hb2
      clear o_a_1 o_b_1 bw1
      have o_p_2 := ho
      have HN_p := Lib.hid ho.len
      clear ho
      go_wp2_with fail
      refine (HS2.out u2 o_a_2.rd o_b_2.rd).mono ?_
      rintro e u3 ⟨g_q, n_q, c_q, rfl, ho, hb3⟩
      have hs3 := hb3.size
      have bw3 : Below w.heap.size w u3 := bw2.trans (hb3.mono (by omega))
      have o_a_3 := o_a_2.below hb3
      have o_b_3 := o_b_2.below hb3
      have o_p_3 := o_p_2.below hb3
      clear o_a_2 o_b_2 o_p_2 bw2
      have o_q_3 := ho
      have HN_q := Lib.hid ho.len
      clear ho
      have hl_p : n_p ≤ 4194303 := by have h1 := HN_p.out; simp at h1; omega
      go_wp2_with fail
      refine (samePiles_same _ _ _ _ _ _ _ u3 o_p_3.rd o_q_3.rd (by omega)).mono ?_
      rintro e u4 ⟨rfl, hb4⟩
      have hs4 := hb4.size
      have bw4 : Below w.heap.size w u4 := bw3.trans (hb4.mono (by omega))
      have o_a_4 := o_a_3.below hb4
      have o_b_4 := o_b_3.below hb4
      have o_p_4 := o_p_3.below hb4
      have o_q_4 := o_q_3.below hb4
      clear o_a_3 o_b_3 o_p_3 o_q_3 bw3
      go_wp2_with fail
      refine (samePiles_same _ _ _ _ _ _ _ u4 o_p_4.rd o_q_4.rd (by omega)).mono ?_
      rintro e u5 ⟨rfl, hb5⟩
      have hs5 := hb5.size
      have bw5 : Below w.heap.size w u5 := bw4.trans (hb5.mono (by omega))
      have o_a_5 := o_a_4.below hb5
      have o_b_5 := o_b_4.below hb5
      have o_p_5 := o_p_4.below hb5
      have o_q_5 := o_q_4.below hb5
      clear o_a_4 o_b_4 o_p_4 o_q_4 bw4
      go_wp2_with fail
      go_ret
      exact ⟨rfl, bw5⟩
    | true =>
      have he := pmerge_t hok
      obtain ⟨rs, hrs⟩ : ∃ rs, rs = Pil.merge ps qs := ⟨_, rfl⟩
      rw [← hrs] at he
      have hi := HI.out; rw [hok, he] at hi; have HI2 := Lib.hid hi
      have hs := HS.out; rw [hok, he] at hs; have HS2 := Lib.hid hs
      have HOK := Lib.hid hok
      have HRS := Lib.hid hrs
      have hrv : Pil.plv rs = true := by rw [hrs]; exact (pmerge_parts hok).2.2
      have HRL := Lib.hid (plv_short hrv)
      have HRZ := Lib.hid (plv_sz hrv)
      have HRV := Lib.hid hrv
      clear hi hs he HI HS hok hrs hrv
      go_wp2_with fail
      refine (HI2.out u1 o_a_1.rd o_b_1.rd).mono ?_
      rintro e u2 ⟨A_p, n_p, c_p, rfl, ho, hb2⟩
      have hs2 := hb2.size
      have bw2 : Below w.heap.size w u2 := bw1.trans (hb2.mono (by omega))
      have o_a_2 := o_a_1.below hb2
      have o_b_2 := o_b_1.below hb2
      clear o_a_1 o_b_1 bw1
      have o_p_2 := ho
      have HN_p := Lib.hid ho.len
      clear ho
      go_wp2_with fail
      refine (HS2.out u2 o_a_2.rd o_b_2.rd).mono ?_
      rintro e u3 ⟨g_q, n_q, c_q, rfl, ho, hb3⟩
      have hs3 := hb3.size
      have bw3 : Below w.heap.size w u3 := bw2.trans (hb3.mono (by omega))
      have o_a_3 := o_a_2.below hb3
      have o_b_3 := o_b_2.below hb3
      have o_p_3 := o_p_2.below hb3
      clear o_a_2 o_b_2 o_p_2 bw2
      have o_q_3 := ho
      have HN_q := Lib.hid ho.len
      clear ho
      have hl_p : n_p ≤ 4194303 := by have h1 := HN_p.out; have := HRL.out; omega
      go_wp2_with fail
      refine (samePiles_same _ _ _ _ _ _ _ u3 o_p_3.rd o_q_3.rd (by omega)).mono ?_
      rintro e u4 ⟨rfl, hb4⟩
      have hs4 := hb4.size
      have bw4 : Below w.heap.size w u4 := bw3.trans (hb4.mono (by omega))
      have o_a_4 := o_a_3.below hb4
      have o_b_4 := o_b_3.below hb4
      have o_p_4 := o_p_3.below hb4
      have o_q_4 := o_q_3.below hb4
      clear o_a_3 o_b_3 o_p_3 o_q_3 bw3
      have HPR := Lib.hid (fun k => pmerge_pre HOK.out k)
      have HST := Lib.hid (fun k (hk : k < qs.length) => pmerge_step HOK.out hk)
      have HOA := Lib.hid o_a_4
      have HOB := Lib.hid o_b_4
      have HOP := Lib.hid o_p_4
      have HBW := Lib.hid bw4
      have hzw := bw4.size
      clear o_a_4 o_b_4 o_p_4 bw4
      go_wp2_with fail
      go_loopw [9, 10] (fun x i wr => ∃ (k : Nat) (A : Option Addr) (n c : Nat), k ≤ nb ∧ i = .int .i64 k ∧ x = .slice A n c ∧ RdP wr wr.heap.size A n (Pil.merge ps (qs.take k)) ∧ Below u4.heap.size u4 wr) (fun _ i _ => nb - (intOf i).toNat)
      case atStart => exact ⟨0, _, _, _, by omega, rfl, rfl, HOA.out.rd, Below.refl _ _⟩
      case round =>
        obtain ⟨k, A, n, c, hk, rfl, rfl, hr, hb⟩ := hrel
        have hn12 : n ≤ 12 := by have h1 := hr.len; have h2 := plv_short (HPR.out k); omega
        have HR := Lib.hid hr
        have hBs := hb.size
        have HB := Lib.hid (HOB.out.below hb)
        clear hr
        by_cases hlt : k < nb
        ·
          have hk' : k < qs.length := by have := HLB.out; omega
          obtain ⟨g', hg', -, -, hcl⟩ := HB.out.at_ (by omega)
          obtain rfl : g' = gb := by injection hg' with e; injection e with e; exact e.symm
          obtain ⟨d0, d1, -, -⟩ := hcl k hk'
          have hlt' : (k : Int) < (nb : Int) := by omega
          have hk0 : (0 : Int) ≤ (k : Int) := by omega
          have hsk := HST.out k hk'
          have hszk := HZB.out qs[k] (List.getElem_mem hk')
          have hA := fun u (h : RdP u u.heap.size A n (Pil.merge ps (qs.take k))) => iPilesAdd_any A n c _ qs[k].1 qs[k].2 u h (by omega) (plv_sz (HPR.out k)) (by omega)
          rw [hsk, (padd_t hsk).1, ← merge_take_succ ps qs k hk'] at hA
          have HA := Lib.hid hA
          clear hA hsk hcl hg' hszk
          generalize qs[k].1 = s at *
          generalize qs[k].2 = m at *
          go_wp2_with fail
          have HA2 := Lib.hid (HA.out wr.drew HR.out)
          go_region_law (first
            | (refine step_call3 (by rfl) _ _ _ _ (by rfl) (run_iAdd _ _ _ _) (by rfl) (by rfl) (by rfl) HA2.out ?_; rintro e w4 ⟨A4, n4, c4, rfl, ho4, hb4⟩; refine ⟨_, rfl, ?_⟩; have hb5 := hb.trans ((Reg.undrew hb4).mono hBs); have HO4 := Lib.hid ho4.rd; clear ho4 hb4 HA2))
          all_goals
            go_wp2_with fail
            go_roundw
            case rel => exact ⟨k + 1, A4, n4, c4, by omega, by go_num, rfl, HO4.out, hb5⟩
            case measure => simp [intOf]; omega
        ·
          have hlt' : ¬ (k : Int) < (nb : Int) := by omega
          have hT : qs.take k = qs := List.take_of_length_le (by have := HLB.out; omega)
          have hr := HR.out
          rw [hT, ← HRS.out] at hr
          have HRR := Lib.hid hr
          clear hr hT
          go_wp2_with fail
          refine (samePiles_same _ _ _ _ _ _ _ wr HRR.out (HOP.out.below hb).rd (by omega)).mono ?_
          rintro e w5 ⟨rfl, hb5⟩
          have bwz : Below w.heap.size w w5 := HBW.out.trans ((hb.mono (by omega)).trans (hb5.mono (by omega)))
          go_wp2_with fail
          go_ret
          exact ⟨rfl, bwz⟩

set_option maxRecDepth 100000 in
theorem lifted (os : Os) (started : os.Started) (H : Type) (enc : TypeId × Value → H) :
    ReturnsInHanded {} Try.checked os 15 .any (Rows.fnPilesMergeAddSpec.pre6 enc Try.prog Try.f15 Rows.fnPilesMergeAddRow.domain false) (Rows.fnPilesMergeAddSpec.post enc Try.prog Try.f15 false true false false) := by
  refine returnsInHanded_of_change (C := Try.checked) own started (by kernel_rfl) Try.func15
    (ChangeSpec.witness6 (enc := enc) (C := Try.checked) false ⟨#[], #[.slice none 0 0], []⟩ 8 (by kernel_rfl) (by kernel_rfl) (by kernel_rfl) (by kernel_rfl)) ?_
  intro W base args ds gs before hval0 hW hcnd _
  have hval : ∀ (j : Nat) t v, Try.f15.params[j]? = some t → args[j]? = some v → Value.okWide Try.prog W .any base t v := hval0
  have hW' := hW
  obtain ⟨p, q, hA0, hV, rfl, hfz, hnd⟩ := hW
  have hA : DataW.TrodAll enc Try.prog W 0 (fun _ => true) true Try.f15.params.toList args.toList ds p := hA0
  rw [Try.params15] at hA hval
  obtain ⟨v0, vs0, d0, ds0, p0, q0, hargs, rfl, rfl, h0, r0⟩ := trodAll_cons hA
  obtain ⟨rfl, rfl, rfl⟩ := trodAll_nil r0
  obtain rfl : args = #[v0] := by cases args; simp_all
  obtain ⟨rfl, rfl⟩ := trodVars_none hV
  have k0 := h0
  have lt0 : ∀ x ∈ p0, x.block < W.heap.size := by obtain ⟨m, hm⟩ := k0; exact DataW.trod_lt m _ _ _ hm
  obtain ⟨a0, len0, cap0, rfl⟩ := okWide_slice Try.underlying22 (hval 0 22 v0 rfl rfl)
  obtain ⟨z0, w0⟩ : ∃ zs, IsRow .u8 W a0 len0 cap0 zs := by
    obtain ⟨fuel, hf⟩ := h0
    rcases open_ints Try.underlying22 Try.underlying5 (by kernel_rfl) hf with ⟨hcs, _⟩ | ⟨x, l, c, zs, hcs, _, hl, hm, hz, _, hcell, hwz⟩
    · simp [Value.cells] at hcs
      obtain ⟨rfl, rfl, rfl⟩ := hcs
      exact ⟨[], .inl ⟨rfl, rfl, rfl, rfl⟩⟩
    · simp [Value.cells] at hcs
      obtain ⟨rfl, rfl, rfl⟩ := hcs
      exact ⟨zs, .inr ⟨_, rfl, hl, hm, by simpa using hz, hcell, hwz⟩⟩
  clear hA0 hval0
  refine (walk W a0 len0 cap0 z0 w0).mono fun e W' ⟨he, bel⟩ => ?_
  subst he
  exact ⟨_, rfl, _, _, _, [], _, [], hW', trodAll_mk1 (shut_bool Try.underlying4 _), (trodAll_cons_mk (Below.trod laidOut (by kernel_rfl) (of_decide_eq_true (by kernel_rfl)) k0 bel lt0) trodAll_mk0), rfl, bel.frame _, fun h => by cases h⟩

theorem over : Rows.fnPilesMergeAddRow.holds Try.pinned (OpenSpec.ofChange Rows.fnPilesMergeAddSpec) :=
  OpenClaim.holds_of_wide 15 Try.f15 rfl rfl rfl rfl rfl rfl rfl ⟨rfl, rfl, rfl, rfl, rfl⟩ rfl rfl rfl rfl rfl (by kernel_rfl) Try.func15 (by kernel_rfl)
    (of_decide_eq_true (by kernel_rfl)) (by unfold Func.isWrapper; first | (rw [if_pos (by decide +kernel)]; kernel_rfl) | (rw [if_neg (by decide +kernel)]; exact ⟨rfl, rfl⟩))
    (fun os started H enc _ => lifted os started H enc)

/-- the statement -/
theorem proved : Rows.FnPilesMergeAddSaid := over
#print axioms proved
end Go.Proofs.Ytlfgmljgoolbeaa.fnPilesMergeAdd
