/- FnPilesMerge: whatever its arguments are, the law FnPilesMerge of the given program returns true, and leaves all memory as it was. -/
import Derived.Test.YtlfgmljgoolbeaaKit
import Derived.Test.YtlfgmljgoolbeaaPiLaws
import Derived.Test.YtlfgmljgoolbeaaPiTotal
import Derived.Test.YtlfgmljgoolbeaaPiCopy
import Derived.Test.YtlfgmljgoolbeaaLawKit
namespace Go.Proofs.Ytlfgmljgoolbeaa.fnPilesMerge
open Go.ChangeShapes Go.WideShapes Go.ChangeAt Go.RowKit Go.Joins
open Go.ChangeMaps (open_string shut_string)
set_option linter.unusedVariables false

set_option maxHeartbeats 1600000 in
/-- the walk -/
theorem walk (w : World) (a0 : Option Addr) (len0 cap0 : Nat) (z0 : List Int) (w0 : IsRow .u8 w a0 len0 cap0 z0) :
    Calls Try.prog 3 #[.slice a0 len0 cap0] w fun e w' => e = .returned (.bool true) ∧ Below w.heap.size w w' := by
  by_cases hl0 : (1048576 : Int) < (len0 : Int)
  · go_enter Try.func3, Try.ntmps3
    go_wp2_with fail
    go_ret
    exact ⟨rfl, Below.refl _ _⟩
  ·
    go_enter Try.func3, Try.ntmps3
    have hBw : w.heap.size ≤ w.heap.size := Nat.le_refl _
    go_wp2_with fail
    refine (drawPilesMerge_any a0 len0 cap0 z0 w w0).mono ?_
    rintro e u1 ⟨ga, na, ca, ps, gb, nb, cb, qs, rfl, hoa, hob, hna, hnb, hsz, hsz2, hb1⟩
    have hs1 := hb1.size
    have bw1 : Below w.heap.size w u1 := hb1.mono (by omega)
    obtain ⟨hc1, hc2⟩ := hoa.cap
    obtain ⟨hd1, hd2⟩ := hob.cap
    have HLA := Lib.hid hoa.len
    have HLB := Lib.hid hob.len
    have o_a_1 := hoa
    have o_b_1 := hob
    clear hoa hob
    have HZA := Lib.hid (fun (p : Pil.Pl) (hp : p ∈ ps) => Nat.le_trans (hsz p hp) (show 5 ≤ 4194304 by omega))
    clear hsz
    have hsz := hsz2
    clear hsz2
    have HZB := Lib.hid (fun (p : Pil.Pl) (hp : p ∈ qs) => Nat.le_trans (hsz p hp) (show 5 ≤ 4194304 by omega))
    clear hsz
    have HI := Lib.hid (fun u (h : RdP u u.heap.size (some ⟨ga, 0, none⟩) na ps) (h' : RdP u u.heap.size (some ⟨gb, 0, none⟩) nb qs) => iPilesMerge_any _ na ca _ nb cb ps qs u h h' (by omega) (by omega) HZA.out HZB.out)
    have HS := Lib.hid (fun u (h : RdP u u.heap.size (some ⟨ga, 0, none⟩) na ps) (h' : RdP u u.heap.size (some ⟨gb, 0, none⟩) nb qs) => sPilesMerge_any ga 0 na ca _ nb cb ps qs u h h' (by omega) (by omega) HZA.out HZB.out)
    cases hok : pmergeOk ps qs with
    | false =>
      have he := pmerge_f hok
      have hi := HI.out; rw [hok, he] at hi; have HI2 := Lib.hid hi
      have hs := HS.out; rw [hok, he] at hs; have HS2 := Lib.hid hs
      clear hi hs he HI HS hok
      go_wp2_with fail
      refine (HI2.out u1 o_a_1.rd o_b_1.rd).mono ?_
      rintro e u2 ⟨A_p, n_p, c_p, rfl, ho, hb2⟩
      have hs2 := hb2.size
      have bw2 : Below w.heap.size w u2 := bw1.trans (hb2.mono (by omega))
      have o_a_2 := o_a_1.below hb2
      have o_b_2 := o_b_1.below hb2
      clear o_a_1 o_b_1 bw1
      have o_p_2 := ho
      have HN_p := Lib.hid ho.len
      clear ho
      go_wp2_with fail
      refine (HS2.out u2 o_a_2.rd o_b_2.rd).mono ?_
      rintro e u3 ⟨g_q, n_q, c_q, rfl, ho, hb3⟩
      have hs3 := hb3.size
      have bw3 : Below w.heap.size w u3 := bw2.trans (hb3.mono (by omega))
      have o_a_3 := o_a_2.below hb3
      have o_b_3 := o_b_2.below hb3
      have o_p_3 := o_p_2.below hb3
      clear o_a_2 o_b_2 o_p_2 bw2
      have o_q_3 := ho
      have HN_q := Lib.hid ho.len
      clear ho
      have hl_p : n_p ≤ 4194303 := by have h1 := HN_p.out; simp at h1; omega
      go_wp2_with fail
      refine (samePiles_same _ _ _ _ _ _ _ u3 o_p_3.rd o_q_3.rd (by omega)).mono ?_
      rintro e u4 ⟨rfl, hb4⟩
      have hs4 := hb4.size
      have bw4 : Below w.heap.size w u4 := bw3.trans (hb4.mono (by omega))
      have o_a_4 := o_a_3.below hb4
      have o_b_4 := o_b_3.below hb4
      have o_p_4 := o_p_3.below hb4
      have o_q_4 := o_q_3.below hb4
      clear o_a_3 o_b_3 o_p_3 o_q_3 bw3
      go_wp2_with fail
      refine (samePiles_same _ _ _ _ _ _ _ u4 o_p_4.rd o_q_4.rd (by omega)).mono ?_
      rintro e u5 ⟨rfl, hb5⟩
      have hs5 := hb5.size
      have bw5 : Below w.heap.size w u5 := bw4.trans (hb5.mono (by omega))
      have o_a_5 := o_a_4.below hb5
      have o_b_5 := o_b_4.below hb5
      have o_p_5 := o_p_4.below hb5
      have o_q_5 := o_q_4.below hb5
      clear o_a_4 o_b_4 o_p_4 o_q_4 bw4
      go_wp2_with fail
      go_ret
      exact ⟨rfl, bw5⟩
    | true =>
      have he := pmerge_t hok
      obtain ⟨rs, hrs⟩ : ∃ rs, rs = Pil.merge ps qs := ⟨_, rfl⟩
      rw [← hrs] at he
      have hi := HI.out; rw [hok, he] at hi; have HI2 := Lib.hid hi
      have hs := HS.out; rw [hok, he] at hs; have HS2 := Lib.hid hs
      have HOK := Lib.hid hok
      have HRS := Lib.hid hrs
      have hrv : Pil.plv rs = true := by rw [hrs]; exact (pmerge_parts hok).2.2
      have HRL := Lib.hid (plv_short hrv)
      have HRZ := Lib.hid (plv_sz hrv)
      have HRV := Lib.hid hrv
      clear hi hs he HI HS hok hrs hrv
      go_wp2_with fail
      refine (HI2.out u1 o_a_1.rd o_b_1.rd).mono ?_
      rintro e u2 ⟨A_p, n_p, c_p, rfl, ho, hb2⟩
      have hs2 := hb2.size
      have bw2 : Below w.heap.size w u2 := bw1.trans (hb2.mono (by omega))
      have o_a_2 := o_a_1.below hb2
      have o_b_2 := o_b_1.below hb2
      clear o_a_1 o_b_1 bw1
      have o_p_2 := ho
      have HN_p := Lib.hid ho.len
      clear ho
      go_wp2_with fail
      refine (HS2.out u2 o_a_2.rd o_b_2.rd).mono ?_
      rintro e u3 ⟨g_q, n_q, c_q, rfl, ho, hb3⟩
      have hs3 := hb3.size
      have bw3 : Below w.heap.size w u3 := bw2.trans (hb3.mono (by omega))
      have o_a_3 := o_a_2.below hb3
      have o_b_3 := o_b_2.below hb3
      have o_p_3 := o_p_2.below hb3
      clear o_a_2 o_b_2 o_p_2 bw2
      have o_q_3 := ho
      have HN_q := Lib.hid ho.len
      clear ho
      have hl_p : n_p ≤ 4194303 := by have h1 := HN_p.out; have := HRL.out; omega
      go_wp2_with fail
      refine (samePiles_same _ _ _ _ _ _ _ u3 o_p_3.rd o_q_3.rd (by omega)).mono ?_
      rintro e u4 ⟨rfl, hb4⟩
      have hs4 := hb4.size
      have bw4 : Below w.heap.size w u4 := bw3.trans (hb4.mono (by omega))
      have o_a_4 := o_a_3.below hb4
      have o_b_4 := o_b_3.below hb4
      have o_p_4 := o_p_3.below hb4
      have o_q_4 := o_q_3.below hb4
      clear o_a_3 o_b_3 o_p_3 o_q_3 bw3
      obtain ⟨k1, k2⟩ := pmerge_comm HOK.out
      have hx := fun u (h' : RdP u u.heap.size (some ⟨ga, 0, none⟩) na ps) (h : RdP u u.heap.size (some ⟨gb, 0, none⟩) nb qs) => iPilesMerge_any _ nb cb _ na ca qs ps u h h' (by omega) (by omega) HZB.out HZA.out
      rw [k1, pmerge_t k1, k2, ← HRS.out] at hx
      have HX := Lib.hid hx
      clear hx k1 k2
      have HT1 := Lib.hid (fun u (h : RdP u u.heap.size A_p n_p rs) => iPilesTotal_any A_p n_p c_p rs u h (by omega) HRZ.out)
      have HTA := Lib.hid (fun u (h : RdP u u.heap.size (some ⟨ga, 0, none⟩) na ps) => iPilesTotal_any _ na ca ps u h (by omega) HZA.out)
      have HTB := Lib.hid (fun u (h : RdP u u.heap.size (some ⟨gb, 0, none⟩) nb qs) => iPilesTotal_any _ nb cb qs u h (by omega) HZB.out)
      have HV1 := Lib.hid (fun u (h : RdP u u.heap.size A_p n_p rs) => bool_to (iPilesValid_any A_p n_p c_p rs u h (by omega) HRZ.out) HRV.out)
      obtain ⟨hq1, hq2, hq3, hq4, hq5⟩ := pmerge_total HOK.out
      rw [← HRS.out] at hq1
      have h1 := HT1.out; rw [hq1] at h1; have HT3 := Lib.hid h1
      clear h1 hq1 HT1
      generalize Pil.ptot ps = T at *
      generalize Pil.ptot qs = S at *
      go_wp2_with fail
      refine (HX.out u4 o_a_4.rd o_b_4.rd).mono ?_
      rintro e u5 ⟨A_x, n_x, c_x, rfl, ho, hb5⟩
      have hs5 := hb5.size
      have bw5 : Below w.heap.size w u5 := bw4.trans (hb5.mono (by omega))
      have o_a_5 := o_a_4.below hb5
      have o_b_5 := o_b_4.below hb5
      have o_p_5 := o_p_4.below hb5
      have o_q_5 := o_q_4.below hb5
      clear o_a_4 o_b_4 o_p_4 o_q_4 bw4
      have o_x_5 := ho
      have HN_x := Lib.hid ho.len
      clear ho
      have hl_x : n_x ≤ 4194303 := by have h1 := HN_x.out; have := HRL.out; omega
      go_wp2_with fail
      refine (samePiles_same _ _ _ _ _ _ _ u5 o_x_5.rd o_p_5.rd (by omega)).mono ?_
      rintro e u6 ⟨rfl, hb6⟩
      have hs6 := hb6.size
      have bw6 : Below w.heap.size w u6 := bw5.trans (hb6.mono (by omega))
      have o_a_6 := o_a_5.below hb6
      have o_b_6 := o_b_5.below hb6
      have o_p_6 := o_p_5.below hb6
      have o_q_6 := o_q_5.below hb6
      have o_x_6 := o_x_5.below hb6
      clear o_a_5 o_b_5 o_p_5 o_q_5 o_x_5 bw5
      go_wp2_with fail
      refine (HT3.out u6 o_p_6.rd).mono ?_
      rintro e u7 ⟨rfl, hb7⟩
      have hs7 := hb7.size
      have bw7 : Below w.heap.size w u7 := bw6.trans (hb7.mono (by omega))
      have o_a_7 := o_a_6.below hb7
      have o_b_7 := o_b_6.below hb7
      have o_p_7 := o_p_6.below hb7
      have o_q_7 := o_q_6.below hb7
      have o_x_7 := o_x_6.below hb7
      clear o_a_6 o_b_6 o_p_6 o_q_6 o_x_6 bw6
      go_wp2_with fail
      refine (HTA.out u7 o_a_7.rd).mono ?_
      rintro e u8 ⟨rfl, hb8⟩
      have hs8 := hb8.size
      have bw8 : Below w.heap.size w u8 := bw7.trans (hb8.mono (by omega))
      have o_a_8 := o_a_7.below hb8
      have o_b_8 := o_b_7.below hb8
      have o_p_8 := o_p_7.below hb8
      have o_q_8 := o_q_7.below hb8
      have o_x_8 := o_x_7.below hb8
      clear o_a_7 o_b_7 o_p_7 o_q_7 o_x_7 bw7
      go_wp2_with fail
      refine (HTB.out u8 o_b_8.rd).mono ?_
      rintro e u9 ⟨rfl, hb9⟩
      have hs9 := hb9.size
      have bw9 : Below w.heap.size w u9 := bw8.trans (hb9.mono (by omega))
      have o_a_9 := o_a_8.below hb9
      have o_b_9 := o_b_8.below hb9
      have o_p_9 := o_p_8.below hb9
      have o_q_9 := o_q_8.below hb9
      have o_x_9 := o_x_8.below hb9
      clear o_a_8 o_b_8 o_p_8 o_q_8 o_x_8 bw8
      go_wp2_with fail
      refine (HV1.out u9 o_p_9.rd).mono ?_
      rintro e u10 ⟨rfl, hb10⟩
      have hs10 := hb10.size
      have bw10 : Below w.heap.size w u10 := bw9.trans (hb10.mono (by omega))
      have o_a_10 := o_a_9.below hb10
      have o_b_10 := o_b_9.below hb10
      have o_p_10 := o_p_9.below hb10
      have o_q_10 := o_q_9.below hb10
      have o_x_10 := o_x_9.below hb10
      clear o_a_9 o_b_9 o_p_9 o_q_9 o_x_9 bw9
      go_wp2_with fail
      go_ret
      exact ⟨rfl, bw10⟩

set_option maxRecDepth 100000 in
theorem lifted (os : Os) (started : os.Started) (H : Type) (enc : TypeId × Value → H) :
    ReturnsInHanded {} Try.checked os 3 .any (Rows.fnPilesMergeSpec.pre6 enc Try.prog Try.f3 Rows.fnPilesMergeRow.domain false) (Rows.fnPilesMergeSpec.post enc Try.prog Try.f3 false true false false) := by
  refine returnsInHanded_of_change (C := Try.checked) own started (by kernel_rfl) Try.func3
    (ChangeSpec.witness6 (enc := enc) (C := Try.checked) false ⟨#[], #[.slice none 0 0], []⟩ 8 (by kernel_rfl) (by kernel_rfl) (by kernel_rfl) (by kernel_rfl)) ?_
  intro W base args ds gs before hval0 hW hcnd _
  have hval : ∀ (j : Nat) t v, Try.f3.params[j]? = some t → args[j]? = some v → Value.okWide Try.prog W .any base t v := hval0
  have hW' := hW
  obtain ⟨p, q, hA0, hV, rfl, hfz, hnd⟩ := hW
  have hA : DataW.TrodAll enc Try.prog W 0 (fun _ => true) true Try.f3.params.toList args.toList ds p := hA0
  rw [Try.params3] at hA hval
  obtain ⟨v0, vs0, d0, ds0, p0, q0, hargs, rfl, rfl, h0, r0⟩ := trodAll_cons hA
  obtain ⟨rfl, rfl, rfl⟩ := trodAll_nil r0
  obtain rfl : args = #[v0] := by cases args; simp_all
  obtain ⟨rfl, rfl⟩ := trodVars_none hV
  have k0 := h0
  have lt0 : ∀ x ∈ p0, x.block < W.heap.size := by obtain ⟨m, hm⟩ := k0; exact DataW.trod_lt m _ _ _ hm
  obtain ⟨a0, len0, cap0, rfl⟩ := okWide_slice Try.underlying22 (hval 0 22 v0 rfl rfl)
  obtain ⟨z0, w0⟩ : ∃ zs, IsRow .u8 W a0 len0 cap0 zs := by
    obtain ⟨fuel, hf⟩ := h0
    rcases open_ints Try.underlying22 Try.underlying5 (by kernel_rfl) hf with ⟨hcs, _⟩ | ⟨x, l, c, zs, hcs, _, hl, hm, hz, _, hcell, hwz⟩
    · simp [Value.cells] at hcs
      obtain ⟨rfl, rfl, rfl⟩ := hcs
      exact ⟨[], .inl ⟨rfl, rfl, rfl, rfl⟩⟩
    · simp [Value.cells] at hcs
      obtain ⟨rfl, rfl, rfl⟩ := hcs
      exact ⟨zs, .inr ⟨_, rfl, hl, hm, by simpa using hz, hcell, hwz⟩⟩
  clear hA0 hval0
  refine (walk W a0 len0 cap0 z0 w0).mono fun e W' ⟨he, bel⟩ => ?_
  subst he
  exact ⟨_, rfl, _, _, _, [], _, [], hW', trodAll_mk1 (shut_bool Try.underlying4 _), (trodAll_cons_mk (Below.trod laidOut (by kernel_rfl) (of_decide_eq_true (by kernel_rfl)) k0 bel lt0) trodAll_mk0), rfl, bel.frame _, fun h => by cases h⟩

theorem over : Rows.fnPilesMergeRow.holds Try.pinned (OpenSpec.ofChange Rows.fnPilesMergeSpec) :=
  OpenClaim.holds_of_wide 3 Try.f3 rfl rfl rfl rfl rfl rfl rfl ⟨rfl, rfl, rfl, rfl, rfl⟩ rfl rfl rfl rfl rfl (by kernel_rfl) Try.func3 (by kernel_rfl)
    (of_decide_eq_true (by kernel_rfl)) (by unfold Func.isWrapper; first | (rw [if_pos (by decide +kernel)]; kernel_rfl) | (rw [if_neg (by decide +kernel)]; exact ⟨rfl, rfl⟩))
    (fun os started H enc _ => lifted os started H enc)

/-- the statement -/
theorem proved : Rows.FnPilesMergeSaid := over
#print axioms proved
end Go.Proofs.Ytlfgmljgoolbeaa.fnPilesMerge
