/- FnMarksAgreeTurned: whatever its arguments are, the law FnMarksAgreeTurned of the given program returns true, and leaves all memory as it was. -/
import Derived.Test.YtnolnlhoedafcaaKit
import Derived.Test.YtnolnlhoedafcaaRwAppend
namespace Go.Proofs.Ytnolnlhoedafcaa.fnMarksAgreeTurned
open Go.ChangeShapes Go.WideShapes Go.ChangeAt Go.RowKit Go.Joins
open Go.ChangeMaps (open_string shut_string)
set_option linter.unusedVariables false

set_option maxHeartbeats 6400000 in
/-- the walk -/
theorem walk (w : World) (a0 : Option Addr) (len0 cap0 : Nat) (z0 : List Int) (w0 : IsRow .u8 w a0 len0 cap0 z0) :
    Calls Try.prog 6 #[.slice a0 len0 cap0] w fun e w' => e = .returned (.bool true) ∧ Below w.heap.size w w' := by
  by_cases hl0 : (1048576 : Int) < (len0 : Int)
  · go_enter Try.func6, Try.ntmps6
    go_wp2_with fail
    go_ret
    exact ⟨rfl, Below.refl _ _⟩
  ·
    go_enter Try.func6, Try.ntmps6
    have hBw : w.heap.size ≤ w.heap.size := Nat.le_refl _
    go_wp2_with fail
    refine (drawMarksAgree_any a0 len0 cap0 z0 w w0).mono ?_
    rintro e u1 ⟨G, n, c, Xs, rfl, ho, hn8, hx8, hb1⟩
    have hs1 := hb1.size
    have bw1 : Below w.heap.size w u1 := hb1.mono (by omega)
    have HL := Lib.hid ho.len
    have o_b_1 := ho
    have HZ := Lib.hid (fun (x : Rw) (hx : x ∈ Xs) => Nat.le_trans (hx8 x hx) (show 8 ≤ 4194304 by omega))
    clear ho hx8
    have HI := Lib.hid (fun u (h : RdR u u.heap.size (some ⟨G, 0, none⟩) n Xs) => iMarksAgree_any _ n c Xs u h (by omega) HZ.out)
    have HS := Lib.hid (fun u (h : RdR u u.heap.size (some ⟨G, 0, none⟩) n Xs) => sMarksAgree_any _ n c Xs u h (by omega) HZ.out)
    have HNX := Lib.hid hn8
    have hle := agL_le5 Xs
    have HT0 := fun h0 A c u (h : RdR u u.heap.size A n (Xs.drop 1 ++ [Xs.getD 0 []])) => iMarksAgree_turned A n c Xs u h h0 (by omega) HZ.out
    obtain ⟨rs, hrs⟩ : ∃ rs, rs = Rw2.agL Xs := ⟨_, rfl⟩
    obtain ⟨ok, hok⟩ : ∃ ok, ok = Rw2.agOk Xs := ⟨_, rfl⟩
    have hi := HI.out
    have hs := HS.out
    rw [← hrs, ← hok] at hi hs HT0
    rw [← hrs] at hle
    have HI2 := Lib.hid hi
    have HS2 := Lib.hid hs
    have HT := Lib.hid HT0
    have HRL := Lib.hid hle
    clear hi hs HI HS HT0 hok hrs hle
    go_wp2_with fail
    refine (HI2.out u1 o_b_1.rd).mono ?_
    rintro e u2 ⟨A_p, n_p, c_p, rfl, ho, hb2⟩
    have hs2 := hb2.size
    have bw2 : Below w.heap.size w u2 := bw1.trans (hb2.mono (by omega))
    have o_b_2 := o_b_1.below hb2
    clear o_b_1 bw1
    have o_p_2 := ho
    have HN_p := Lib.hid ho.len
    clear ho
    go_wp2_with fail
    refine (HS2.out u2 o_b_2.rd).mono ?_
    rintro e u3 ⟨A_q, n_q, c_q, rfl, ho, hb3⟩
    have hs3 := hb3.size
    have bw3 : Below w.heap.size w u3 := bw2.trans (hb3.mono (by omega))
    have o_b_3 := o_b_2.below hb3
    have o_p_3 := o_p_2.below hb3
    clear o_b_2 o_p_2 bw2
    have o_q_3 := ho
    have HN_q := Lib.hid ho.len
    clear ho
    have hl_p : n_p ≤ 4194304 := by have h1 := HN_p.out; have h2 := HRL.out; omega
    have hl_q : n_q ≤ 4194304 := by have h1 := HN_q.out; have h2 := HRL.out; omega
    go_wp2_with fail
    refine (quiet_below (sameInts_any A_p A_q n_p n_q c_p c_q rs rs u3 _ _ o_p_3.rd o_q_3.rd (by omega) (by omega))).mono ?_
    rintro e u4 ⟨rfl, hb4⟩
    have hs4 := hb4.size
    have bw4 : Below w.heap.size w u4 := bw3.trans (hb4.mono (by omega))
    have o_b_4 := o_b_3.below hb4
    have o_p_4 := o_p_3.below hb4
    have o_q_4 := o_q_3.below hb4
    clear o_b_3 o_p_3 o_q_3 bw3
    by_cases hn0 : n = 0
    ·
      subst hn0
      go_wp2_with fail
      refine (quiet_below (sameInts_any A_p A_q n_p n_q c_p c_q rs rs u4 _ _ o_p_4.rd o_q_4.rd (by omega) (by omega))).mono ?_
      rintro e u5 ⟨rfl, hb5⟩
      have hs5 := hb5.size
      have bw5 : Below w.heap.size w u5 := bw4.trans (hb5.mono (by omega))
      have o_b_5 := o_b_4.below hb5
      have o_p_5 := o_p_4.below hb5
      have o_q_5 := o_q_4.below hb5
      clear o_b_4 o_p_4 o_q_4 bw4
      go_wp2_with fail
      go_ret
      exact ⟨rfl, bw5⟩
    ·
      have hn0i : ((n : Int) == 0) = false := by simp; omega
      have hn0j : ¬ (n : Int) = 0 := by omega
      have hpN : 0 < n := by omega
      have hpos : (0 : Int) < (n : Int) := by omega
      have hk0 : 0 < Xs.length := by have := HL.out; omega
      obtain ⟨hcn, hcm⟩ := o_b_4.cap
      have hmx : c ≤ 9223372036854775807 := by unfold maxLen at hcm; exact hcm
      have h1n : (1 : Int) ≤ (n : Int) := by omega
      have h1c : (1 : Int) ≤ (c : Int) := by omega
      have hnc : (n : Int) ≤ (c : Int) := by omega
      obtain ⟨hgw, hgl⟩ := o_b_4.fromB
      obtain ⟨⟨A0, c0, d0, q0⟩, -⟩ := o_b_4.at_ 0 hk0
      obtain ⟨y0, hy0⟩ : ∃ y0, y0 = Xs.getD 0 [] := ⟨_, rfl⟩
      have hy1 : Xs[0] = y0 := by rw [hy0, List.getD_eq_getElem?_getD, List.getElem?_eq_getElem hk0]; rfl
      rw [hy1] at d0 q0
      obtain ⟨l0, hl0⟩ : ∃ l0, y0.length = l0 := ⟨_, rfl⟩
      rw [hl0] at d0 q0
      have HL0 := Lib.hid hl0
      have HO0 := Lib.hid q0
      have ht := HT.out
      rw [← hy0] at ht
      clear HT
      have HT := Lib.hid ht
      have HLD := Lib.hid (show (Xs.drop 1).length = n - 1 by rw [List.length_drop, HL.out])
      have hUw : w.heap.size ≤ u4.heap.size := bw4.size
      have HOB := Lib.hid o_b_4
      have HOP := Lib.hid o_p_4
      have HBW := Lib.hid bw4
      have HW1 := Lib.hid (show Aft u4 w.heap.size (some ⟨u4.heap.size, 0, none⟩) 0 0 [] (u4.drew.alloc (.cells #[] 24)) from Aft.lit ((Below.refl u4.heap.size u4).drew) hUw)
      have HW2 := Lib.hid (show Aft u4 w.heap.size (some ⟨u4.heap.size, 0, none⟩) 0 0 [] ((u4.drew.alloc (.cells #[] 24)).alloc (.cells #[.slice A0 l0 c0] 24)) from HW1.out.alloc _)
      have HW3 := Lib.hid (show Aft u4 w.heap.size (some ⟨u4.heap.size + 1, 0, none⟩) 0 0 [] ((u4.drew.alloc (.cells #[.slice A0 l0 c0] 24)).alloc (.cells #[] 24)) by
        have h := Aft.lit (((Below.refl u4.heap.size u4).drew).alloc (Nat.le_refl _) (.cells #[.slice A0 l0 c0] 24)) hUw
        have e : (u4.drew.alloc (.cells #[.slice A0 l0 c0] 24)).heap.size = u4.heap.size + 1 := by simp
        rw [e] at h
        exact h)
      have HV1 := Lib.hid (show Aft u4 w.heap.size (some ⟨u4.heap.size, 0, none⟩) 0 0 [] (u4.alloc (.cells #[] 24)).drew from HW1.out)
      have HV2 := Lib.hid (show Aft u4 w.heap.size (some ⟨u4.heap.size, 0, none⟩) 0 0 [] ((u4.alloc (.cells #[] 24)).alloc (.cells #[.slice A0 l0 c0] 24)).drew from HW2.out)
      have HV3 := Lib.hid (show Aft u4 w.heap.size (some ⟨u4.heap.size + 1, 0, none⟩) 0 0 [] ((u4.alloc (.cells #[.slice A0 l0 c0] 24)).alloc (.cells #[] 24)).drew from HW3.out)
      obtain ⟨AA, hif, hsr⟩ : ∃ AA : Addr, (if c = 1 then (some ⟨G, 0, none⟩ : Option Addr) else some ⟨G, 1, none⟩) = some AA ∧ ∀ (W : World) (A : Option Addr), Below u4.heap.size u4 W → (∀ g, A = some ⟨g, 0, none⟩ → u4.heap.size ≤ g) → SrcQ W w.heap.size A AA (Xs.drop 1) := by
        by_cases hcc : c = 1
        · exact ⟨⟨G, 0, none⟩, by rw [if_pos hcc], fun W A _ _ => SrcQ.nil (by rw [HLD.out]; omega)⟩
        · exact ⟨⟨G, 1, none⟩, by rw [if_neg hcc], fun W A hb hA => HOB.out.srcD 1 hb hA⟩
      have HSRC := Lib.hid hsr
      clear q0 ht hy0 hy1 hl0 hcm hsr o_b_4 o_p_4 bw4
      have tok1 : True := trivial
      have tok2 : True := trivial
      go_wp2_with fail
      go_region_law (first | (have _t := tok1; refine step_lay (by rfl) _ _ (by rfl) (U := u4) (B := w.heap.size) (A := some ⟨u4.heap.size, 0, none⟩) (n := 0) (c := 0) (Xs := []) (Ys := Xs.drop 1) (by rfl) AA (n - 1) (c - 1) (by rfl) (by with_reducible (first | exact HV1.out | exact HW1.out)) HLD.out (HSRC.out _ _) (n - 1) (Nat.zero_add _) (by omega) hUw ?_; clear tok1; intro A5 c5 w5 h5 hk5; rw [List.nil_append] at h5; have d5 := Reg.keepc h5.2.1 hgl d0; have z5 := h5.2.1.size; have hgl5 := Nat.lt_of_lt_of_le hgl z5; have H5 := Lib.hid h5; clear hk5 h5) | (have _t := tok1; refine step_lay (by rfl) _ _ (by rfl) (U := u4) (B := w.heap.size) (A := some ⟨u4.heap.size, 0, none⟩) (n := 0) (c := 0) (Xs := []) (Ys := Xs.drop 1) (by rfl) AA (n - 1) (c - 1) (by rfl) (by with_reducible (first | exact HV2.out | exact HW2.out)) HLD.out (HSRC.out _ _) (n - 1) (Nat.zero_add _) (by omega) hUw ?_; clear tok1; intro A5 c5 w5 h5 hk5; rw [List.nil_append] at h5; have d5 := Reg.keepc h5.2.1 hgl d0; have z5 := h5.2.1.size; have hgl5 := Nat.lt_of_lt_of_le hgl z5; have H5 := Lib.hid h5; have e5 := Lib.hid (hk5 (u4.heap.size + 1) (.slice A0 l0 c0) (by simp) (by simp) (by simp [go_sem])); clear hk5 h5) | (have _t := tok1; refine step_lay (by rfl) _ _ (by rfl) (U := u4) (B := w.heap.size) (A := some ⟨u4.heap.size + 1, 0, none⟩) (n := 0) (c := 0) (Xs := []) (Ys := Xs.drop 1) (by rfl) AA (n - 1) (c - 1) (by rfl) (by with_reducible (first | exact HV3.out | exact HW3.out)) HLD.out (HSRC.out _ _) (n - 1) (Nat.zero_add _) (by omega) hUw ?_; clear tok1; intro A5 c5 w5 h5 hk5; rw [List.nil_append] at h5; have d5 := Reg.keepc h5.2.1 hgl d0; have z5 := h5.2.1.size; have hgl5 := Nat.lt_of_lt_of_le hgl z5; have H5 := Lib.hid h5; have e5 := Lib.hid (hk5 u4.heap.size (.slice A0 l0 c0) (by first | (simp; done) | (simp; omega)) (by simp) (by simp [go_sem])); clear hk5 h5) | (have _t := tok2; refine step_lay (by rfl) _ _ (by rfl) (U := u4) (B := w.heap.size) (A := A5) (n := n - 1) (c := c5) (Xs := Xs.drop 1) (Ys := [y0]) (by rfl) ⟨_, 0, none⟩ 1 1 (by rfl) (by with_reducible (first | exact H5.out | exact H5.out.alloc _)) rfl (SrcQ.one HL0.out HO0.out (by first | exact e5.out | (simp [go_sem]; done))) n (by omega) (by omega) hUw ?_; clear tok2; intro A6 c6 w6 h6 _; have H6 := Lib.hid h6; have z6 := h6.2.1.size; clear h6) | (have _t := A6; refine step_callQ (by rfl) _ _ (by rfl) (run_iMarksAgree _ _) (by rfl) (HT.out hk0 A6 c6 w6 H6.out.rd) ?_; rintro e w7 ⟨A_x, n_x, c_x, rfl, ho7, hb7⟩; refine ⟨_, rfl, ?_⟩; have HB7 := Lib.hid (H6.out.2.1.trans (hb7.mono z6)); have HO7 := Lib.hid ho7; clear ho7 hb7))
      all_goals
        go_wp2_with fail
        refine (quiet_below (sameInts_any A_x A_p n_x n_p c_x c_p rs rs w7 _ _ HO7.out.rd (HOP.out.below HB7.out).rd (by have h1 := HO7.out.len; have h2 := HRL.out; omega) (by omega))).mono ?_
        rintro e w8 ⟨rfl, hb8⟩
        have bwz : Below w.heap.size w w8 := HBW.out.trans ((HB7.out.mono hUw).trans (hb8.mono (Nat.le_trans hUw HB7.out.size)))
        go_wp2_with fail
        go_ret
        exact ⟨rfl, bwz⟩

set_option maxRecDepth 100000 in
theorem lifted (os : Os) (started : os.Started) (H : Type) (enc : TypeId × Value → H) :
    ReturnsInHanded {} Try.checked os 6 .any (Rows.fnMarksAgreeTurnedSpec.pre6 enc Try.prog Try.f6 Rows.fnMarksAgreeTurnedRow.domain false) (Rows.fnMarksAgreeTurnedSpec.post enc Try.prog Try.f6 false true false false) := by
  refine returnsInHanded_of_change (C := Try.checked) own started (by kernel_rfl) Try.func6
    (ChangeSpec.witness6 (enc := enc) (C := Try.checked) false ⟨#[], #[.slice none 0 0], []⟩ 8 (by kernel_rfl) (by kernel_rfl) (by kernel_rfl) (by kernel_rfl)) ?_
  intro W base args ds gs before hval0 hW hcnd _
  have hval : ∀ (j : Nat) t v, Try.f6.params[j]? = some t → args[j]? = some v → Value.okWide Try.prog W .any base t v := hval0
  have hW' := hW
  obtain ⟨p, q, hA0, hV, rfl, hfz, hnd⟩ := hW
  have hA : DataW.TrodAll enc Try.prog W 0 (fun _ => true) true Try.f6.params.toList args.toList ds p := hA0
  rw [Try.params6] at hA hval
  obtain ⟨v0, vs0, d0, ds0, p0, q0, hargs, rfl, rfl, h0, r0⟩ := trodAll_cons hA
  obtain ⟨rfl, rfl, rfl⟩ := trodAll_nil r0
  obtain rfl : args = #[v0] := by cases args; simp_all
  obtain ⟨rfl, rfl⟩ := trodVars_none hV
  have k0 := h0
  have lt0 : ∀ x ∈ p0, x.block < W.heap.size := by obtain ⟨m, hm⟩ := k0; exact DataW.trod_lt m _ _ _ hm
  obtain ⟨a0, len0, cap0, rfl⟩ := okWide_slice Try.underlying32 (hval 0 32 v0 rfl rfl)
  obtain ⟨z0, w0⟩ : ∃ zs, IsRow .u8 W a0 len0 cap0 zs := by
    obtain ⟨fuel, hf⟩ := h0
    rcases open_ints Try.underlying32 Try.underlying5 (by kernel_rfl) hf with ⟨hcs, _⟩ | ⟨x, l, c, zs, hcs, _, hl, hm, hz, _, hcell, hwz⟩
    · simp [Value.cells] at hcs
      obtain ⟨rfl, rfl, rfl⟩ := hcs
      exact ⟨[], .inl ⟨rfl, rfl, rfl, rfl⟩⟩
    · simp [Value.cells] at hcs
      obtain ⟨rfl, rfl, rfl⟩ := hcs
      exact ⟨zs, .inr ⟨_, rfl, hl, hm, by simpa using hz, hcell, hwz⟩⟩
  clear hA0 hval0
  refine (walk W a0 len0 cap0 z0 w0).mono fun e W' ⟨he, bel⟩ => ?_
  subst he
  exact ⟨_, rfl, _, _, _, [], _, [], hW', trodAll_mk1 (shut_bool Try.underlying4 _), (trodAll_cons_mk (Below.trod laidOut (by kernel_rfl) (of_decide_eq_true (by kernel_rfl)) k0 bel lt0) trodAll_mk0), rfl, bel.frame _, fun h => by cases h⟩

theorem over : Rows.fnMarksAgreeTurnedRow.holds Try.pinned (OpenSpec.ofChange Rows.fnMarksAgreeTurnedSpec) :=
  OpenClaim.holds_of_wide 6 Try.f6 rfl rfl rfl rfl rfl rfl rfl ⟨rfl, rfl, rfl, rfl, rfl⟩ rfl rfl rfl rfl rfl (by kernel_rfl) Try.func6 (by kernel_rfl)
    (of_decide_eq_true (by kernel_rfl)) (by unfold Func.isWrapper; first | (rw [if_pos (by decide +kernel)]; kernel_rfl) | (rw [if_neg (by decide +kernel)]; exact ⟨rfl, rfl⟩))
    (fun os started H enc _ => lifted os started H enc)

/-- the statement -/
theorem proved : Rows.FnMarksAgreeTurnedSaid := over
#print axioms proved
end Go.Proofs.Ytnolnlhoedafcaa.fnMarksAgreeTurned
