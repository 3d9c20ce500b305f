/- FnPilesAddTwo: whatever its arguments are, the law FnPilesAddTwo of the given program returns true, and leaves all memory as it was. -/
import Derived.Test.YtlfgmljgoolbeaaKit
import Derived.Test.YtlfgmljgoolbeaaPiLaws
import Derived.Test.YtlfgmljgoolbeaaPiTotal
import Derived.Test.YtlfgmljgoolbeaaPiCopy
import Derived.Test.YtlfgmljgoolbeaaLawKit
namespace Go.Proofs.Ytlfgmljgoolbeaa.fnPilesAddTwo
open Go.ChangeShapes Go.WideShapes Go.ChangeAt Go.RowKit Go.Joins
open Go.ChangeMaps (open_string shut_string)
set_option linter.unusedVariables false

set_option maxHeartbeats 1600000 in
/-- the walk -/
theorem walk (w : World) (a0 : Option Addr) (len0 cap0 : Nat) (z0 : List Int) (w0 : IsRow .u8 w a0 len0 cap0 z0) (a1 : Option Addr) (len1 cap1 : Nat) (z1 : List Int) (w1 : IsRow .u8 w a1 len1 cap1 z1) :
    Calls Try.prog 12 #[.slice a0 len0 cap0, .slice a1 len1 cap1] w fun e w' => e = .returned (.bool true) ∧ Below w.heap.size w w' := by
  by_cases hl0 : (1048576 : Int) < (len0 : Int)
  · go_enter Try.func12, Try.ntmps12
    go_wp2_with fail
    go_ret
    exact ⟨rfl, Below.refl _ _⟩
  ·
    by_cases hl1 : (1048576 : Int) < (len1 : Int)
    · go_enter Try.func12, Try.ntmps12
      go_wp2_with fail
      go_ret
      exact ⟨rfl, Below.refl _ _⟩
    ·
      have hs1_ : len1 ≤ 1048576 := by omega
      go_enter Try.func12, Try.ntmps12
      have hBw : w.heap.size ≤ w.heap.size := Nat.le_refl _
      go_wp2_with fail
      refine (drawPilesAdd_any a0 len0 cap0 z0 w w0).mono ?_
      rintro e u1 ⟨gg, nn, cc, ps, t, m, rfl, ho, hn, hsz, ht, hm, hb1⟩
      have hs1 := hb1.size
      have bw1 : Below w.heap.size w u1 := hb1.mono (by omega)
      obtain ⟨hc1, hc2⟩ := ho.cap
      have HL := Lib.hid ho.len
      have o_b_1 := ho
      clear ho
      have HZ := Lib.hid (fun (p : Pil.Pl) (hp : p ∈ ps) => Nat.le_trans (hsz p hp) (show 5 ≤ 4194304 by omega))
      clear hsz
      have HI := Lib.hid (fun u (h : RdP u u.heap.size (some ⟨gg, 0, none⟩) nn ps) => iPilesAdd_any _ nn cc ps t m u h (by omega) HZ.out (by omega))
      have HS := Lib.hid (fun u (h : RdP u u.heap.size (some ⟨gg, 0, none⟩) nn ps) => sPilesAdd_any gg 0 nn cc ps t m u h hc1 (by omega) hc2 HZ.out (by omega))
      cases hok : paddOk ps t m with
      | false =>
        have he := padd_f hok
        have hi := HI.out; rw [hok, he] at hi; have HI2 := Lib.hid hi
        have hs := HS.out; rw [hok, he] at hs; have HS2 := Lib.hid hs
        clear hi hs he HI HS hok
        go_wp2_with fail
        refine (HI2.out u1 o_b_1.rd).mono ?_
        rintro e u2 ⟨A_p, n_p, c_p, rfl, ho, hb2⟩
        have hs2 := hb2.size
        have bw2 : Below w.heap.size w u2 := bw1.trans (hb2.mono (by omega))
        have o_b_2 := o_b_1.below hb2
        clear o_b_1 bw1
        have o_p_2 := ho
        have HN_p := Lib.hid ho.len
        clear ho
        go_wp2_with fail
        refine (HS2.out u2 o_b_2.rd).mono ?_
        rintro e u3 ⟨g_q, n_q, c_q, rfl, ho, hb3⟩
        have hs3 := hb3.size
        have bw3 : Below w.heap.size w u3 := bw2.trans (hb3.mono (by omega))
        have o_b_3 := o_b_2.below hb3
        have o_p_3 := o_p_2.below hb3
        clear o_b_2 o_p_2 bw2
        have o_q_3 := ho
        have HN_q := Lib.hid ho.len
        clear ho
        have hl_p : n_p ≤ 4194303 := by have h1 := HN_p.out; simp at h1; omega
        go_wp2_with fail
        refine (samePiles_same _ _ _ _ _ _ _ u3 o_p_3.rd o_q_3.rd (by omega)).mono ?_
        rintro e u4 ⟨rfl, hb4⟩
        have hs4 := hb4.size
        have bw4 : Below w.heap.size w u4 := bw3.trans (hb4.mono (by omega))
        have o_b_4 := o_b_3.below hb4
        have o_p_4 := o_p_3.below hb4
        have o_q_4 := o_q_3.below hb4
        clear o_b_3 o_p_3 o_q_3 bw3
        go_wp2_with fail
        refine (samePiles_same _ _ _ _ _ _ _ u4 o_p_4.rd o_q_4.rd (by omega)).mono ?_
        rintro e u5 ⟨rfl, hb5⟩
        have hs5 := hb5.size
        have bw5 : Below w.heap.size w u5 := bw4.trans (hb5.mono (by omega))
        have o_b_5 := o_b_4.below hb5
        have o_p_5 := o_p_4.below hb5
        have o_q_5 := o_q_4.below hb5
        clear o_b_4 o_p_4 o_q_4 bw4
        go_wp2_with fail
        go_ret
        exact ⟨rfl, bw5⟩
      | true =>
        have he := (padd_t hok).1
        obtain ⟨rs, hrs⟩ : ∃ rs, rs = Pil.put ps t m := ⟨_, rfl⟩
        rw [← hrs] at he
        have hi := HI.out; rw [hok, he] at hi; have HI2 := Lib.hid hi
        have hs := HS.out; rw [hok, he] at hs; have HS2 := Lib.hid hs
        have HOK := Lib.hid hok
        have HRS := Lib.hid hrs
        have hrv : Pil.plv rs = true := by rw [hrs]; exact (padd_parts hok).2.2
        have hpv : Pil.plv ps = true := (padd_parts hok).1
        have HRL := Lib.hid (plv_short hrv)
        have HRZ := Lib.hid (plv_sz hrv)
        have HRV := Lib.hid hrv
        have HPV := Lib.hid hpv
        clear hi hs he HI HS hok hrs hrv hpv
        go_wp2_with fail
        refine (HI2.out u1 o_b_1.rd).mono ?_
        rintro e u2 ⟨A_p, n_p, c_p, rfl, ho, hb2⟩
        have hs2 := hb2.size
        have bw2 : Below w.heap.size w u2 := bw1.trans (hb2.mono (by omega))
        have o_b_2 := o_b_1.below hb2
        clear o_b_1 bw1
        have o_p_2 := ho
        have HN_p := Lib.hid ho.len
        clear ho
        go_wp2_with fail
        refine (HS2.out u2 o_b_2.rd).mono ?_
        rintro e u3 ⟨g_q, n_q, c_q, rfl, ho, hb3⟩
        have hs3 := hb3.size
        have bw3 : Below w.heap.size w u3 := bw2.trans (hb3.mono (by omega))
        have o_b_3 := o_b_2.below hb3
        have o_p_3 := o_p_2.below hb3
        clear o_b_2 o_p_2 bw2
        have o_q_3 := ho
        have HN_q := Lib.hid ho.len
        clear ho
        have hl_p : n_p ≤ 4194303 := by have h1 := HN_p.out; have := HRL.out; omega
        by_cases hm2 : m < 2
        ·
          go_wp2_with fail
          refine (samePiles_same _ _ _ _ _ _ _ u3 o_p_3.rd o_q_3.rd (by omega)).mono ?_
          rintro e u4 ⟨rfl, hb4⟩
          have hs4 := hb4.size
          have bw4 : Below w.heap.size w u4 := bw3.trans (hb4.mono (by omega))
          have o_b_4 := o_b_3.below hb4
          have o_p_4 := o_p_3.below hb4
          have o_q_4 := o_q_3.below hb4
          clear o_b_3 o_p_3 o_q_3 bw3
          go_wp2_with fail
          refine (samePiles_same _ _ _ _ _ _ _ u4 o_p_4.rd o_q_4.rd (by omega)).mono ?_
          rintro e u5 ⟨rfl, hb5⟩
          have hs5 := hb5.size
          have bw5 : Below w.heap.size w u5 := bw4.trans (hb5.mono (by omega))
          have o_b_5 := o_b_4.below hb5
          have o_p_5 := o_p_4.below hb5
          have o_q_5 := o_q_4.below hb5
          clear o_b_4 o_p_4 o_q_4 bw4
          go_wp2_with fail
          go_ret
          exact ⟨rfl, bw5⟩
        ·
          obtain ⟨r, hr⟩ : ∃ r : Int, r = (len1 : Int) % (m - 1) := ⟨_, rfl⟩
          have hr0 : 0 ≤ r := by rw [hr]; exact Int.emod_nonneg _ (by omega)
          have hr1 : r < m - 1 := by rw [hr]; exact Int.emod_lt_of_pos _ (by omega)
          have e1 : (len1 : Int) % (m - 1) = r := hr.symm
          have e2 : Int.tmod (len1 : Int) (m - 1) = r := by rw [Int.tmod_eq_emod_of_nonneg (by omega)]; exact e1
          have hnz : ((m - 1 : Int) == 0) = false := by simp; omega
          have hnz2 : ¬ (m - 1 : Int) = 0 := by omega
          clear hr
          go_wp2_with fail
          refine (samePiles_same _ _ _ _ _ _ _ u3 o_p_3.rd o_q_3.rd (by omega)).mono ?_
          rintro e u4 ⟨rfl, hb4⟩
          have hs4 := hb4.size
          have bw4 : Below w.heap.size w u4 := bw3.trans (hb4.mono (by omega))
          have o_b_4 := o_b_3.below hb4
          have o_p_4 := o_p_3.below hb4
          have o_q_4 := o_q_3.below hb4
          clear o_b_3 o_p_3 o_q_3 bw3
          obtain ⟨k1, k2, k3⟩ := padd_two HOK.out (show 1 ≤ 1 + r by omega) (show 1 + r < m by omega)
          have HXV := Lib.hid (padd_parts k1).2.2
          have hx := fun u (h : RdP u u.heap.size (some ⟨gg, 0, none⟩) nn ps) => iPilesAdd_any _ nn cc ps t (1 + r) u h (by omega) HZ.out (by omega)
          rw [k1, (padd_t k1).1] at hx
          have HX := Lib.hid hx
          obtain ⟨xs, hxs⟩ : ∃ xs, xs = Pil.put ps t (1 + r) := ⟨_, rfl⟩
          have hy := fun A n c (hn : n ≤ 4194303) u (h : RdP u u.heap.size A n xs) => iPilesAdd_any A n c xs t (m - (1 + r)) u h hn (by rw [hxs]; exact plv_sz HXV.out) (by omega)
          rw [hxs] at hy
          rw [k2, (padd_t k2).1, k3, ← HRS.out] at hy
          have hx := HX.out; rw [← hxs] at hx hy
          have HX2 := Lib.hid hx
          have HY := Lib.hid hy
          have hxl := plv_short HXV.out
          rw [← hxs] at hxl
          clear k1 k2 k3 hx hy HX hxs HXV e2
          go_wp2_with fail
          refine (HX2.out u4 o_b_4.rd).mono ?_
          rintro e u5 ⟨A_x, n_x, c_x, rfl, ho, hb5⟩
          have hs5 := hb5.size
          have bw5 : Below w.heap.size w u5 := bw4.trans (hb5.mono (by omega))
          have o_b_5 := o_b_4.below hb5
          have o_p_5 := o_p_4.below hb5
          have o_q_5 := o_q_4.below hb5
          clear o_b_4 o_p_4 o_q_4 bw4
          have o_x_5 := ho
          have HN_x := Lib.hid ho.len
          clear ho
          have hl_x : n_x ≤ 4194303 := by have h1 := HN_x.out; omega
          go_wp2_with fail
          refine (HY.out A_x n_x c_x hl_x u5 o_x_5.rd).mono ?_
          rintro e u6 ⟨A_y, n_y, c_y, rfl, ho, hb6⟩
          have hs6 := hb6.size
          have bw6 : Below w.heap.size w u6 := bw5.trans (hb6.mono (by omega))
          have o_b_6 := o_b_5.below hb6
          have o_p_6 := o_p_5.below hb6
          have o_q_6 := o_q_5.below hb6
          have o_x_6 := o_x_5.below hb6
          clear o_b_5 o_p_5 o_q_5 o_x_5 bw5
          have o_y_6 := ho
          have HN_y := Lib.hid ho.len
          clear ho
          have hl_y : n_y ≤ 4194303 := by have h1 := HN_y.out; have := HRL.out; omega
          go_wp2_with fail
          refine (samePiles_same _ _ _ _ _ _ _ u6 o_y_6.rd o_p_6.rd (by omega)).mono ?_
          rintro e u7 ⟨rfl, hb7⟩
          have hs7 := hb7.size
          have bw7 : Below w.heap.size w u7 := bw6.trans (hb7.mono (by omega))
          have o_b_7 := o_b_6.below hb7
          have o_p_7 := o_p_6.below hb7
          have o_q_7 := o_q_6.below hb7
          have o_x_7 := o_x_6.below hb7
          have o_y_7 := o_y_6.below hb7
          clear o_b_6 o_p_6 o_q_6 o_x_6 o_y_6 bw6
          go_wp2_with fail
          go_ret
          exact ⟨rfl, bw7⟩

set_option maxRecDepth 100000 in
theorem lifted (os : Os) (started : os.Started) (H : Type) (enc : TypeId × Value → H) :
    ReturnsInHanded {} Try.checked os 12 .any (Rows.fnPilesAddTwoSpec.pre6 enc Try.prog Try.f12 Rows.fnPilesAddTwoRow.domain false) (Rows.fnPilesAddTwoSpec.post enc Try.prog Try.f12 false true false false) := by
  refine returnsInHanded_of_change (C := Try.checked) own started (by kernel_rfl) Try.func12
    (ChangeSpec.witness6 (enc := enc) (C := Try.checked) false ⟨#[], #[.slice none 0 0, .slice none 0 0], []⟩ 8 (by kernel_rfl) (by kernel_rfl) (by kernel_rfl) (by kernel_rfl)) ?_
  intro W base args ds gs before hval0 hW hcnd _
  have hval : ∀ (j : Nat) t v, Try.f12.params[j]? = some t → args[j]? = some v → Value.okWide Try.prog W .any base t v := hval0
  have hW' := hW
  obtain ⟨p, q, hA0, hV, rfl, hfz, hnd⟩ := hW
  have hA : DataW.TrodAll enc Try.prog W 0 (fun _ => true) true Try.f12.params.toList args.toList ds p := hA0
  rw [Try.params12] at hA hval
  obtain ⟨v0, vs0, d0, ds0, p0, q0, hargs, rfl, rfl, h0, r0⟩ := trodAll_cons hA
  obtain ⟨v1, vs1, d1, ds1, p1, q1, rfl, rfl, rfl, h1, r1⟩ := trodAll_cons r0
  obtain ⟨rfl, rfl, rfl⟩ := trodAll_nil r1
  obtain rfl : args = #[v0, v1] := by cases args; simp_all
  obtain ⟨rfl, rfl⟩ := trodVars_none hV
  have k0 := h0
  have lt0 : ∀ x ∈ p0, x.block < W.heap.size := by obtain ⟨m, hm⟩ := k0; exact DataW.trod_lt m _ _ _ hm
  obtain ⟨a0, len0, cap0, rfl⟩ := okWide_slice Try.underlying22 (hval 0 22 v0 rfl rfl)
  obtain ⟨z0, w0⟩ : ∃ zs, IsRow .u8 W a0 len0 cap0 zs := by
    obtain ⟨fuel, hf⟩ := h0
    rcases open_ints Try.underlying22 Try.underlying5 (by kernel_rfl) hf with ⟨hcs, _⟩ | ⟨x, l, c, zs, hcs, _, hl, hm, hz, _, hcell, hwz⟩
    · simp [Value.cells] at hcs
      obtain ⟨rfl, rfl, rfl⟩ := hcs
      exact ⟨[], .inl ⟨rfl, rfl, rfl, rfl⟩⟩
    · simp [Value.cells] at hcs
      obtain ⟨rfl, rfl, rfl⟩ := hcs
      exact ⟨zs, .inr ⟨_, rfl, hl, hm, by simpa using hz, hcell, hwz⟩⟩
  have k1 := h1
  have lt1 : ∀ x ∈ p1, x.block < W.heap.size := by obtain ⟨m, hm⟩ := k1; exact DataW.trod_lt m _ _ _ hm
  obtain ⟨a1, len1, cap1, rfl⟩ := okWide_slice Try.underlying22 (hval 1 22 v1 rfl rfl)
  obtain ⟨z1, w1⟩ : ∃ zs, IsRow .u8 W a1 len1 cap1 zs := by
    obtain ⟨fuel, hf⟩ := h1
    rcases open_ints Try.underlying22 Try.underlying5 (by kernel_rfl) hf with ⟨hcs, _⟩ | ⟨x, l, c, zs, hcs, _, hl, hm, hz, _, hcell, hwz⟩
    · simp [Value.cells] at hcs
      obtain ⟨rfl, rfl, rfl⟩ := hcs
      exact ⟨[], .inl ⟨rfl, rfl, rfl, rfl⟩⟩
    · simp [Value.cells] at hcs
      obtain ⟨rfl, rfl, rfl⟩ := hcs
      exact ⟨zs, .inr ⟨_, rfl, hl, hm, by simpa using hz, hcell, hwz⟩⟩
  clear hA0 hval0
  refine (walk W a0 len0 cap0 z0 w0 a1 len1 cap1 z1 w1).mono fun e W' ⟨he, bel⟩ => ?_
  subst he
  exact ⟨_, rfl, _, _, _, [], _, [], hW', trodAll_mk1 (shut_bool Try.underlying4 _), (trodAll_cons_mk (Below.trod laidOut (by kernel_rfl) (of_decide_eq_true (by kernel_rfl)) k0 bel lt0) (trodAll_cons_mk (Below.trod laidOut (by kernel_rfl) (of_decide_eq_true (by kernel_rfl)) k1 bel lt1) trodAll_mk0)), rfl, bel.frame _, fun h => by cases h⟩

theorem over : Rows.fnPilesAddTwoRow.holds Try.pinned (OpenSpec.ofChange Rows.fnPilesAddTwoSpec) :=
  OpenClaim.holds_of_wide 12 Try.f12 rfl rfl rfl rfl rfl rfl rfl ⟨rfl, rfl, rfl, rfl, rfl⟩ rfl rfl rfl rfl rfl (by kernel_rfl) Try.func12 (by kernel_rfl)
    (of_decide_eq_true (by kernel_rfl)) (by unfold Func.isWrapper; first | (rw [if_pos (by decide +kernel)]; kernel_rfl) | (rw [if_neg (by decide +kernel)]; exact ⟨rfl, rfl⟩))
    (fun os started H enc _ => lifted os started H enc)

/-- the statement -/
theorem proved : Rows.FnPilesAddTwoSaid := over
#print axioms proved
end Go.Proofs.Ytlfgmljgoolbeaa.fnPilesAddTwo
