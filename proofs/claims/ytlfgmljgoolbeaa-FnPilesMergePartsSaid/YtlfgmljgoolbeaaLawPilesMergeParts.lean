/- FnPilesMergeParts: whatever its arguments are, the law FnPilesMergeParts of the given program returns true, and leaves all memory as it was. -/
import Derived.Test.YtlfgmljgoolbeaaKit
import Derived.Test.YtlfgmljgoolbeaaPiLaws
import Derived.Test.YtlfgmljgoolbeaaPiTotal
import Derived.Test.YtlfgmljgoolbeaaPiCopy
import Derived.Test.YtlfgmljgoolbeaaLawKit
namespace Go.Proofs.Ytlfgmljgoolbeaa.fnPilesMergeParts
open Go.ChangeShapes Go.WideShapes Go.ChangeAt Go.RowKit Go.Joins
open Go.ChangeMaps (open_string shut_string)
set_option linter.unusedVariables false

set_option maxHeartbeats 1600000 in
/-- the walk -/
theorem walk (w : World) (a0 : Option Addr) (len0 cap0 : Nat) (z0 : List Int) (w0 : IsRow .u8 w a0 len0 cap0 z0) (a1 : Option Addr) (len1 cap1 : Nat) (z1 : List Int) (w1 : IsRow .u8 w a1 len1 cap1 z1) :
    Calls Try.prog 13 #[.slice a0 len0 cap0, .slice a1 len1 cap1] w fun e w' => e = .returned (.bool true) ∧ Below w.heap.size w w' := by
  by_cases hl0 : (1048576 : Int) < (len0 : Int)
  · go_enter Try.func13, Try.ntmps13
    go_wp2_with fail
    go_ret
    exact ⟨rfl, Below.refl _ _⟩
  ·
    by_cases hl1 : (1048576 : Int) < (len1 : Int)
    · go_enter Try.func13, Try.ntmps13
      go_wp2_with fail
      go_ret
      exact ⟨rfl, Below.refl _ _⟩
    ·
      have hs1_ : len1 ≤ 1048576 := by omega
      go_enter Try.func13, Try.ntmps13
      have hBw : w.heap.size ≤ w.heap.size := Nat.le_refl _
      go_wp2_with fail
      refine (drawPilesMerge_any a0 len0 cap0 z0 w w0).mono ?_
      rintro e u1 ⟨ga, na, ca, ps, gb, nb, cb, qs, rfl, hoa, hob, hna, hnb, hsz, hsz2, hb1⟩
      have hs1 := hb1.size
      have bw1 : Below w.heap.size w u1 := hb1.mono (by omega)
      obtain ⟨hc1, hc2⟩ := hoa.cap
      obtain ⟨hd1, hd2⟩ := hob.cap
      have HLA := Lib.hid hoa.len
      have HLB := Lib.hid hob.len
      have o_a_1 := hoa
      have o_b_1 := hob
      clear hoa hob
      have HZA := Lib.hid (fun (p : Pil.Pl) (hp : p ∈ ps) => Nat.le_trans (hsz p hp) (show 5 ≤ 4194304 by omega))
      clear hsz
      have hsz := hsz2
      clear hsz2
      have HZB := Lib.hid (fun (p : Pil.Pl) (hp : p ∈ qs) => Nat.le_trans (hsz p hp) (show 5 ≤ 4194304 by omega))
      clear hsz
      have HI := Lib.hid (fun u (h : RdP u u.heap.size (some ⟨ga, 0, none⟩) na ps) (h' : RdP u u.heap.size (some ⟨gb, 0, none⟩) nb qs) => iPilesMerge_any _ na ca _ nb cb ps qs u h h' (by omega) (by omega) HZA.out HZB.out)
      have HS := Lib.hid (fun u (h : RdP u u.heap.size (some ⟨ga, 0, none⟩) na ps) (h' : RdP u u.heap.size (some ⟨gb, 0, none⟩) nb qs) => sPilesMerge_any ga 0 na ca _ nb cb ps qs u h h' (by omega) (by omega) HZA.out HZB.out)
      cases hok : pmergeOk ps qs with
      | false =>
        have he := pmerge_f hok
        have hi := HI.out; rw [hok, he] at hi; have HI2 := Lib.hid hi
        have hs := HS.out; rw [hok, he] at hs; have HS2 := Lib.hid hs
        clear hi hs he HI HS hok
        go_wp2_with fail
        refine (HI2.out u1 o_a_1.rd o_b_1.rd).mono ?_
        rintro e u2 ⟨A_p, n_p, c_p, rfl, ho, hb2⟩
        have hs2 := hb2.size
        have bw2 : Below w.heap.size w u2 := bw1.trans (hb2.mono (by omega))
        have o_a_2 := o_a_1.below hb2
        have o_b_2 := o_b_1.below hb2
        clear o_a_1 o_b_1 bw1
        have o_p_2 := ho
        have HN_p := Lib.hid ho.len
        clear ho
        go_wp2_with fail
        refine (HS2.out u2 o_a_2.rd o_b_2.rd).mono ?_
        rintro e u3 ⟨g_q, n_q, c_q, rfl, ho, hb3⟩
        have hs3 := hb3.size
        have bw3 : Below w.heap.size w u3 := bw2.trans (hb3.mono (by omega))
        have o_a_3 := o_a_2.below hb3
        have o_b_3 := o_b_2.below hb3
        have o_p_3 := o_p_2.below hb3
        clear o_a_2 o_b_2 o_p_2 bw2
        have o_q_3 := ho
        have HN_q := Lib.hid ho.len
        clear ho
        have hl_p : n_p ≤ 4194303 := by have h1 := HN_p.out; simp at h1; omega
        go_wp2_with fail
        refine (samePiles_same _ _ _ _ _ _ _ u3 o_p_3.rd o_q_3.rd (by omega)).mono ?_
        rintro e u4 ⟨rfl, hb4⟩
        have hs4 := hb4.size
        have bw4 : Below w.heap.size w u4 := bw3.trans (hb4.mono (by omega))
        have o_a_4 := o_a_3.below hb4
        have o_b_4 := o_b_3.below hb4
        have o_p_4 := o_p_3.below hb4
        have o_q_4 := o_q_3.below hb4
        clear o_a_3 o_b_3 o_p_3 o_q_3 bw3
        go_wp2_with fail
        refine (samePiles_same _ _ _ _ _ _ _ u4 o_p_4.rd o_q_4.rd (by omega)).mono ?_
        rintro e u5 ⟨rfl, hb5⟩
        have hs5 := hb5.size
        have bw5 : Below w.heap.size w u5 := bw4.trans (hb5.mono (by omega))
        have o_a_5 := o_a_4.below hb5
        have o_b_5 := o_b_4.below hb5
        have o_p_5 := o_p_4.below hb5
        have o_q_5 := o_q_4.below hb5
        clear o_a_4 o_b_4 o_p_4 o_q_4 bw4
        go_wp2_with fail
        go_ret
        exact ⟨rfl, bw5⟩
      | true =>
        have he := pmerge_t hok
        obtain ⟨rs, hrs⟩ : ∃ rs, rs = Pil.merge ps qs := ⟨_, rfl⟩
        rw [← hrs] at he
        have hi := HI.out; rw [hok, he] at hi; have HI2 := Lib.hid hi
        have hs := HS.out; rw [hok, he] at hs; have HS2 := Lib.hid hs
        have HOK := Lib.hid hok
        have HRS := Lib.hid hrs
        have hrv : Pil.plv rs = true := by rw [hrs]; exact (pmerge_parts hok).2.2
        have HRL := Lib.hid (plv_short hrv)
        have HRZ := Lib.hid (plv_sz hrv)
        have HRV := Lib.hid hrv
        clear hi hs he HI HS hok hrs hrv
        go_wp2_with fail
        refine (HI2.out u1 o_a_1.rd o_b_1.rd).mono ?_
        rintro e u2 ⟨A_p, n_p, c_p, rfl, ho, hb2⟩
        have hs2 := hb2.size
        have bw2 : Below w.heap.size w u2 := bw1.trans (hb2.mono (by omega))
        have o_a_2 := o_a_1.below hb2
        have o_b_2 := o_b_1.below hb2
        clear o_a_1 o_b_1 bw1
        have o_p_2 := ho
        have HN_p := Lib.hid ho.len
        clear ho
        go_wp2_with fail
        refine (HS2.out u2 o_a_2.rd o_b_2.rd).mono ?_
        rintro e u3 ⟨g_q, n_q, c_q, rfl, ho, hb3⟩
        have hs3 := hb3.size
        have bw3 : Below w.heap.size w u3 := bw2.trans (hb3.mono (by omega))
        have o_a_3 := o_a_2.below hb3
        have o_b_3 := o_b_2.below hb3
        have o_p_3 := o_p_2.below hb3
        clear o_a_2 o_b_2 o_p_2 bw2
        have o_q_3 := ho
        have HN_q := Lib.hid ho.len
        clear ho
        have hl_p : n_p ≤ 4194303 := by have h1 := HN_p.out; have := HRL.out; omega
        go_wp2_with fail
        refine (samePiles_same _ _ _ _ _ _ _ u3 o_p_3.rd o_q_3.rd (by omega)).mono ?_
        rintro e u4 ⟨rfl, hb4⟩
        have hs4 := hb4.size
        have bw4 : Below w.heap.size w u4 := bw3.trans (hb4.mono (by omega))
        have o_a_4 := o_a_3.below hb4
        have o_b_4 := o_b_3.below hb4
        have o_p_4 := o_p_3.below hb4
        have o_q_4 := o_q_3.below hb4
        clear o_a_3 o_b_3 o_p_3 o_q_3 bw3
        have e0 : (len1 : Int) % ((nb : Int) + 1) = ((len1 % (nb + 1) : Nat) : Int) := by rw [Int.natCast_emod]; simp
        have e0' : Int.tmod (len1 : Int) ((nb : Int) + 1) = ((len1 % (nb + 1) : Nat) : Int) := by rw [Int.tmod_eq_emod_of_nonneg (by omega)]; exact e0
        have hat : len1 % (nb + 1) < nb + 1 := Nat.mod_lt _ (by omega)
        have hnz : (((nb : Int) + 1) == 0) = false := by simp; omega
        have hnz2 : ¬ ((nb : Int) + 1) = 0 := by omega
        generalize len1 % (nb + 1) = k at e0 e0' hat
        have hkn : k ≤ nb := by omega
        have hk0 : (0 : Int) ≤ (k : Int) := by omega
        have hk1 : (k : Int) ≤ (nb : Int) := by omega
        have hk2 : (k : Int) ≤ (cb : Int) := by omega
        have hcn : (nb : Int) ≤ (cb : Int) := by omega
        have hmx : cb ≤ 9223372036854775807 := by unfold maxLen at hd2; exact hd2
        have hmx2 : (cb : Int) ≤ 9223372036854775807 := by omega
        obtain ⟨k1, k2, k3⟩ := pmerge_two HOK.out k
        have HXV := Lib.hid (pmerge_parts k1).2.2
        have HDV := Lib.hid (pmerge_parts k2).2.1
        have HTV := Lib.hid (pmerge_parts k1).2.1
        have hx := fun u (h : RdP u u.heap.size (some ⟨ga, 0, none⟩) na ps) (h' : RdP u u.heap.size (some ⟨gb, 0, none⟩) k (qs.take k)) => iPilesMerge_any _ na ca _ k cb ps (qs.take k) u h h' (by omega) (by omega) HZA.out (plv_sz HTV.out)
        rw [k1, pmerge_t k1] at hx
        have HX := Lib.hid hx
        have hxl := plv_short HXV.out
        obtain ⟨xs, hxs⟩ : ∃ xs, xs = Pil.merge ps (qs.take k) := ⟨_, rfl⟩
        have hy := fun A n c B (hn : n ≤ 4194303) u (h : RdP u u.heap.size A n xs) (h' : RdP u u.heap.size B (nb - k) (qs.drop k)) => iPilesMerge_any A n c B (nb - k) (cb - k) xs (qs.drop k) u h h' hn (by omega) (by rw [hxs]; exact plv_sz HXV.out) (plv_sz HDV.out)
        rw [hxs] at hy
        rw [k2, pmerge_t k2, k3, ← HRS.out] at hy
        have hx := HX.out; rw [← hxs] at hx hy hxl
        have HX2 := Lib.hid hx
        have HY := Lib.hid hy
        clear k1 k2 k3 hx hy HX hxs HXV HDV HTV
        go_wp2_with fail
        refine (HX2.out u4 o_a_4.rd (o_b_4.rd.take_ hkn)).mono ?_
        rintro e u5 ⟨A_x, n_x, c_x, rfl, ho, hb5⟩
        have hs5 := hb5.size
        have bw5 : Below w.heap.size w u5 := bw4.trans (hb5.mono (by omega))
        have o_a_5 := o_a_4.below hb5
        have o_b_5 := o_b_4.below hb5
        have o_p_5 := o_p_4.below hb5
        have o_q_5 := o_q_4.below hb5
        clear o_a_4 o_b_4 o_p_4 o_q_4 bw4
        have o_x_5 := ho
        have HN_x := Lib.hid ho.len
        clear ho
        have hl_x : n_x ≤ 4194303 := by have h1 := HN_x.out; omega
        by_cases hcc : cb = k
        case' pos =>
          have hif : ∀ x y : Option Addr, (if cb = k then x else y) = x := fun x y => if_pos hcc
          have hif2 : ∀ x y : Option Addr, (if cb - k = 0 then x else y) = x := fun x y => if_pos (by omega)
          have hdr : ∀ u (h : RdP u u.heap.size (some ⟨gb, 0, none⟩) nb qs), RdP u u.heap.size (some ⟨gb, 0, none⟩) (nb - k) (qs.drop k) := fun u h => h.drop_ hkn _ (fun hlt => by omega)
        case' neg =>
          have hif : ∀ x y : Option Addr, (if cb = k then x else y) = y := fun x y => if_neg hcc
          have hif2 : ∀ x y : Option Addr, (if cb - k = 0 then x else y) = y := fun x y => if_neg (by omega)
          have hdr : ∀ u (h : RdP u u.heap.size (some ⟨gb, 0, none⟩) nb qs), RdP u u.heap.size (some ⟨gb, k * 2, none⟩) (nb - k) (qs.drop k) := fun u h => h.drop_ hkn _ (fun hlt => by simp)
        all_goals
          have HDR := Lib.hid hdr
          clear hdr hcc
          go_wp2_with fail
          refine (HY.out A_x n_x c_x _ hl_x u5 o_x_5.rd (HDR.out u5 o_b_5.rd)).mono ?_
          rintro e u6 ⟨A_y, n_y, c_y, rfl, ho, hb6⟩
          have hs6 := hb6.size
          have bw6 : Below w.heap.size w u6 := bw5.trans (hb6.mono (by omega))
          have o_a_6 := o_a_5.below hb6
          have o_b_6 := o_b_5.below hb6
          have o_p_6 := o_p_5.below hb6
          have o_q_6 := o_q_5.below hb6
          have o_x_6 := o_x_5.below hb6
          clear o_a_5 o_b_5 o_p_5 o_q_5 o_x_5 bw5
          have o_y_6 := ho
          have HN_y := Lib.hid ho.len
          clear ho
          have hl_y : n_y ≤ 4194303 := by have h1 := HN_y.out; have := HRL.out; omega
          go_wp2_with fail
          refine (samePiles_same _ _ _ _ _ _ _ u6 o_y_6.rd o_p_6.rd (by omega)).mono ?_
          rintro e u7 ⟨rfl, hb7⟩
          have hs7 := hb7.size
          have bw7 : Below w.heap.size w u7 := bw6.trans (hb7.mono (by omega))
          have o_a_7 := o_a_6.below hb7
          have o_b_7 := o_b_6.below hb7
          have o_p_7 := o_p_6.below hb7
          have o_q_7 := o_q_6.below hb7
          have o_x_7 := o_x_6.below hb7
          have o_y_7 := o_y_6.below hb7
          clear o_a_6 o_b_6 o_p_6 o_q_6 o_x_6 o_y_6 bw6
          go_wp2_with fail
          go_ret
          exact ⟨rfl, bw7⟩

set_option maxRecDepth 100000 in
theorem lifted (os : Os) (started : os.Started) (H : Type) (enc : TypeId × Value → H) :
    ReturnsInHanded {} Try.checked os 13 .any (Rows.fnPilesMergePartsSpec.pre6 enc Try.prog Try.f13 Rows.fnPilesMergePartsRow.domain false) (Rows.fnPilesMergePartsSpec.post enc Try.prog Try.f13 false true false false) := by
  refine returnsInHanded_of_change (C := Try.checked) own started (by kernel_rfl) Try.func13
    (ChangeSpec.witness6 (enc := enc) (C := Try.checked) false ⟨#[], #[.slice none 0 0, .slice none 0 0], []⟩ 8 (by kernel_rfl) (by kernel_rfl) (by kernel_rfl) (by kernel_rfl)) ?_
  intro W base args ds gs before hval0 hW hcnd _
  have hval : ∀ (j : Nat) t v, Try.f13.params[j]? = some t → args[j]? = some v → Value.okWide Try.prog W .any base t v := hval0
  have hW' := hW
  obtain ⟨p, q, hA0, hV, rfl, hfz, hnd⟩ := hW
  have hA : DataW.TrodAll enc Try.prog W 0 (fun _ => true) true Try.f13.params.toList args.toList ds p := hA0
  rw [Try.params13] at hA hval
  obtain ⟨v0, vs0, d0, ds0, p0, q0, hargs, rfl, rfl, h0, r0⟩ := trodAll_cons hA
  obtain ⟨v1, vs1, d1, ds1, p1, q1, rfl, rfl, rfl, h1, r1⟩ := trodAll_cons r0
  obtain ⟨rfl, rfl, rfl⟩ := trodAll_nil r1
  obtain rfl : args = #[v0, v1] := by cases args; simp_all
  obtain ⟨rfl, rfl⟩ := trodVars_none hV
  have k0 := h0
  have lt0 : ∀ x ∈ p0, x.block < W.heap.size := by obtain ⟨m, hm⟩ := k0; exact DataW.trod_lt m _ _ _ hm
  obtain ⟨a0, len0, cap0, rfl⟩ := okWide_slice Try.underlying22 (hval 0 22 v0 rfl rfl)
  obtain ⟨z0, w0⟩ : ∃ zs, IsRow .u8 W a0 len0 cap0 zs := by
    obtain ⟨fuel, hf⟩ := h0
    rcases open_ints Try.underlying22 Try.underlying5 (by kernel_rfl) hf with ⟨hcs, _⟩ | ⟨x, l, c, zs, hcs, _, hl, hm, hz, _, hcell, hwz⟩
    · simp [Value.cells] at hcs
      obtain ⟨rfl, rfl, rfl⟩ := hcs
      exact ⟨[], .inl ⟨rfl, rfl, rfl, rfl⟩⟩
    · simp [Value.cells] at hcs
      obtain ⟨rfl, rfl, rfl⟩ := hcs
      exact ⟨zs, .inr ⟨_, rfl, hl, hm, by simpa using hz, hcell, hwz⟩⟩
  have k1 := h1
  have lt1 : ∀ x ∈ p1, x.block < W.heap.size := by obtain ⟨m, hm⟩ := k1; exact DataW.trod_lt m _ _ _ hm
  obtain ⟨a1, len1, cap1, rfl⟩ := okWide_slice Try.underlying22 (hval 1 22 v1 rfl rfl)
  obtain ⟨z1, w1⟩ : ∃ zs, IsRow .u8 W a1 len1 cap1 zs := by
    obtain ⟨fuel, hf⟩ := h1
    rcases open_ints Try.underlying22 Try.underlying5 (by kernel_rfl) hf with ⟨hcs, _⟩ | ⟨x, l, c, zs, hcs, _, hl, hm, hz, _, hcell, hwz⟩
    · simp [Value.cells] at hcs
      obtain ⟨rfl, rfl, rfl⟩ := hcs
      exact ⟨[], .inl ⟨rfl, rfl, rfl, rfl⟩⟩
    · simp [Value.cells] at hcs
      obtain ⟨rfl, rfl, rfl⟩ := hcs
      exact ⟨zs, .inr ⟨_, rfl, hl, hm, by simpa using hz, hcell, hwz⟩⟩
  clear hA0 hval0
  refine (walk W a0 len0 cap0 z0 w0 a1 len1 cap1 z1 w1).mono fun e W' ⟨he, bel⟩ => ?_
  subst he
  exact ⟨_, rfl, _, _, _, [], _, [], hW', trodAll_mk1 (shut_bool Try.underlying4 _), (trodAll_cons_mk (Below.trod laidOut (by kernel_rfl) (of_decide_eq_true (by kernel_rfl)) k0 bel lt0) (trodAll_cons_mk (Below.trod laidOut (by kernel_rfl) (of_decide_eq_true (by kernel_rfl)) k1 bel lt1) trodAll_mk0)), rfl, bel.frame _, fun h => by cases h⟩

theorem over : Rows.fnPilesMergePartsRow.holds Try.pinned (OpenSpec.ofChange Rows.fnPilesMergePartsSpec) :=
  OpenClaim.holds_of_wide 13 Try.f13 rfl rfl rfl rfl rfl rfl rfl ⟨rfl, rfl, rfl, rfl, rfl⟩ rfl rfl rfl rfl rfl (by kernel_rfl) Try.func13 (by kernel_rfl)
    (of_decide_eq_true (by kernel_rfl)) (by unfold Func.isWrapper; first | (rw [if_pos (by decide +kernel)]; kernel_rfl) | (rw [if_neg (by decide +kernel)]; exact ⟨rfl, rfl⟩))
    (fun os started H enc _ => lifted os started H enc)

/-- the statement -/
theorem proved : Rows.FnPilesMergePartsSaid := over
#print axioms proved
end Go.Proofs.Ytlfgmljgoolbeaa.fnPilesMergeParts
