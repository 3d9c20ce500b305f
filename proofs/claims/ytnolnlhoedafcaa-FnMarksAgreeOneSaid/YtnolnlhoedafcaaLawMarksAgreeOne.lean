/- FnMarksAgreeOne: whatever its arguments are, the law FnMarksAgreeOne of the given program returns true, and leaves all memory as it was. -/
import Derived.Test.YtnolnlhoedafcaaKit
import Derived.Test.YtnolnlhoedafcaaRwBox
namespace Go.Proofs.Ytnolnlhoedafcaa.fnMarksAgreeOne
open Go.ChangeShapes Go.WideShapes Go.ChangeAt Go.RowKit Go.Joins
open Go.ChangeMaps (open_string shut_string)
set_option linter.unusedVariables false

set_option maxHeartbeats 1600000 in
/-- the walk -/
theorem walk (w : World) (a0 : Option Addr) (len0 cap0 : Nat) (z0 : List Int) (w0 : IsRow .u8 w a0 len0 cap0 z0) :
    Calls Try.prog 5 #[.slice a0 len0 cap0] w fun e w' => e = .returned (.bool true) ∧ Below w.heap.size w w' := by
  by_cases hl0 : (1048576 : Int) < (len0 : Int)
  · go_enter Try.func5, Try.ntmps5
    go_wp2_with fail
    go_ret
    exact ⟨rfl, Below.refl _ _⟩
  ·
    go_enter Try.func5, Try.ntmps5
    have hBw : w.heap.size ≤ w.heap.size := Nat.le_refl _
    go_wp2_with fail
    refine (drawMarksAgree_any a0 len0 cap0 z0 w w0).mono ?_
    rintro e u1 ⟨G, n, c, Xs, rfl, ho, hn8, hx8, hb1⟩
    have hs1 := hb1.size
    have bw1 : Below w.heap.size w u1 := hb1.mono (by omega)
    have HL := Lib.hid ho.len
    have o_b_1 := ho
    have HZ := Lib.hid (fun (x : Rw) (hx : x ∈ Xs) => Nat.le_trans (hx8 x hx) (show 8 ≤ 4194304 by omega))
    clear ho hx8
    have HI := Lib.hid (fun u (h : RdR u u.heap.size (some ⟨G, 0, none⟩) n Xs) => iMarksAgree_any _ n c Xs u h (by omega) HZ.out)
    have HS := Lib.hid (fun u (h : RdR u u.heap.size (some ⟨G, 0, none⟩) n Xs) => sMarksAgree_any _ n c Xs u h (by omega) HZ.out)
    cases hok : Rw2.agOk Xs with
    | false =>
      obtain ⟨rs, hrs⟩ : ∃ rs : List Int, rs = [] := ⟨_, rfl⟩
      have he := Rw2.agL_f hok
      rw [← hrs] at he
      have hi := HI.out; rw [hok, he] at hi; have HI2 := Lib.hid hi
      have hs := HS.out; rw [hok, he] at hs; have HS2 := Lib.hid hs
      have hrl : rs.length = 0 := by rw [hrs]; rfl
      have HRL := Lib.hid hrl
      clear hi hs he HI HS hok hrs hrl
      go_wp2_with fail
      refine (HI2.out u1 o_b_1.rd).mono ?_
      rintro e u2 ⟨A_p, n_p, c_p, rfl, ho, hb2⟩
      have hs2 := hb2.size
      have bw2 : Below w.heap.size w u2 := bw1.trans (hb2.mono (by omega))
      have o_b_2 := o_b_1.below hb2
      clear o_b_1 bw1
      have o_p_2 := ho
      have HN_p := Lib.hid ho.len
      clear ho
      go_wp2_with fail
      refine (HS2.out u2 o_b_2.rd).mono ?_
      rintro e u3 ⟨A_q, n_q, c_q, rfl, ho, hb3⟩
      have hs3 := hb3.size
      have bw3 : Below w.heap.size w u3 := bw2.trans (hb3.mono (by omega))
      have o_b_3 := o_b_2.below hb3
      have o_p_3 := o_p_2.below hb3
      clear o_b_2 o_p_2 bw2
      have o_q_3 := ho
      have HN_q := Lib.hid ho.len
      clear ho
      have hl_p : n_p ≤ 4194304 := by have h1 := HN_p.out; have h2 := HRL.out; omega
      have hl_q : n_q ≤ 4194304 := by have h1 := HN_q.out; have h2 := HRL.out; omega
      go_wp2_with fail
      refine (quiet_below (sameInts_any A_p A_q n_p n_q c_p c_q rs rs u3 _ _ o_p_3.rd o_q_3.rd (by omega) (by omega))).mono ?_
      rintro e u4 ⟨rfl, hb4⟩
      have hs4 := hb4.size
      have bw4 : Below w.heap.size w u4 := bw3.trans (hb4.mono (by omega))
      have o_b_4 := o_b_3.below hb4
      have o_p_4 := o_p_3.below hb4
      have o_q_4 := o_q_3.below hb4
      clear o_b_3 o_p_3 o_q_3 bw3
      go_wp2_with fail
      refine (quiet_below (sameInts_any A_p A_q n_p n_q c_p c_q rs rs u4 _ _ o_p_4.rd o_q_4.rd (by omega) (by omega))).mono ?_
      rintro e u5 ⟨rfl, hb5⟩
      have hs5 := hb5.size
      have bw5 : Below w.heap.size w u5 := bw4.trans (hb5.mono (by omega))
      have o_b_5 := o_b_4.below hb5
      have o_p_5 := o_p_4.below hb5
      have o_q_5 := o_q_4.below hb5
      clear o_b_4 o_p_4 o_q_4 bw4
      go_wp2_with fail
      go_ret
      exact ⟨rfl, bw5⟩
    | true =>
      obtain ⟨k1, k2⟩ := Rw2.ag_same (Ys := [Rw2.agL Xs]) hok (by simp) (by simp)
      obtain ⟨k3, k4⟩ := Rw2.ag_same (Ys := [Rw2.agL Xs, Rw2.agL Xs, Rw2.agL Xs]) hok (by simp) (by simp)
      have hol := (Rw2.ag_out hok).2.1
      have hw5 := wide_le (Rw2.agOk_iff.1 hok).1
      obtain ⟨rs, hrs⟩ : ∃ rs, rs = Rw2.agL Xs := ⟨_, rfl⟩
      rw [← hrs] at k1 k2 k3 k4 hol
      have hi := HI.out; rw [hok, ← hrs] at hi; have HI2 := Lib.hid hi
      have hs := HS.out; rw [hok, ← hrs] at hs; have HS2 := Lib.hid hs
      have HRL := Lib.hid (show rs.length ≤ 5 by omega)
      have h1 := fun b c u (h : RdR u u.heap.size (some ⟨b, 0, none⟩) 1 [rs]) => iMarksAgree_any (some ⟨b, 0, none⟩) 1 c [rs] u h (by omega) (by intro x hx; rw [List.mem_singleton.1 hx]; have := HRL.out; omega)
      rw [k1, k2] at h1
      have H1 := Lib.hid h1
      have h3 := fun b c u (h : RdR u u.heap.size (some ⟨b, 0, none⟩) 3 [rs, rs, rs]) => iMarksAgree_any (some ⟨b, 0, none⟩) 3 c [rs, rs, rs] u h (by omega) (by intro x hx; have hxe : x = rs := (by simpa using hx); rw [hxe]; have := HRL.out; omega)
      rw [k3, k4] at h3
      have H3 := Lib.hid h3
      clear hi hs HI HS hok hrs hol hw5 k1 k2 k3 k4 h1 h3
      go_wp2_with fail
      refine (HI2.out u1 o_b_1.rd).mono ?_
      rintro e u2 ⟨A_p, n_p, c_p, rfl, ho, hb2⟩
      have hs2 := hb2.size
      have bw2 : Below w.heap.size w u2 := bw1.trans (hb2.mono (by omega))
      have o_b_2 := o_b_1.below hb2
      clear o_b_1 bw1
      have o_p_2 := ho
      have HN_p := Lib.hid ho.len
      clear ho
      go_wp2_with fail
      refine (HS2.out u2 o_b_2.rd).mono ?_
      rintro e u3 ⟨A_q, n_q, c_q, rfl, ho, hb3⟩
      have hs3 := hb3.size
      have bw3 : Below w.heap.size w u3 := bw2.trans (hb3.mono (by omega))
      have o_b_3 := o_b_2.below hb3
      have o_p_3 := o_p_2.below hb3
      clear o_b_2 o_p_2 bw2
      have o_q_3 := ho
      have HN_q := Lib.hid ho.len
      clear ho
      have hl_p : n_p ≤ 4194304 := by have h1 := HN_p.out; have h2 := HRL.out; omega
      have hl_q : n_q ≤ 4194304 := by have h1 := HN_q.out; have h2 := HRL.out; omega
      go_wp2_with fail
      refine (quiet_below (sameInts_any A_p A_q n_p n_q c_p c_q rs rs u3 _ _ o_p_3.rd o_q_3.rd (by omega) (by omega))).mono ?_
      rintro e u4 ⟨rfl, hb4⟩
      have hs4 := hb4.size
      have bw4 : Below w.heap.size w u4 := bw3.trans (hb4.mono (by omega))
      have o_b_4 := o_b_3.below hb4
      have o_p_4 := o_p_3.below hb4
      have o_q_4 := o_q_3.below hb4
      clear o_b_3 o_p_3 o_q_3 bw3
      have HB_x := Lib.hid (rd_box1 o_p_4 24)
      have HC_x := Lib.hid (H1.out _ 1 _ HB_x.out)
      go_wp2_with fail
      refine HC_x.out.mono ?_
      rintro e u5 ⟨A_x, n_x, c_x, rfl, ho, hbx5⟩
      have hb5 := Reg.unalloc hbx5
      have ho2 := ho.base (B' := u4.heap.size) (by simp)
      have hs5 := hb5.size
      have bw5 : Below w.heap.size w u5 := bw4.trans (hb5.mono (by omega))
      have o_b_5 := o_b_4.below hb5
      have o_p_5 := o_p_4.below hb5
      have o_q_5 := o_q_4.below hb5
      clear o_b_4 o_p_4 o_q_4 bw4
      have o_x_5 := ho2
      have HN_x := Lib.hid ho2.len
      clear ho ho2 hbx5
      have hl_x : n_x ≤ 4194304 := by have h1 := HN_x.out; have h2 := HRL.out; omega
      have HB_y := Lib.hid (rd_box3 o_p_5 24)
      have HC_y := Lib.hid (H3.out _ 3 _ HB_y.out)
      go_wp2_with fail
      refine HC_y.out.mono ?_
      rintro e u6 ⟨A_y, n_y, c_y, rfl, ho, hbx6⟩
      have hb6 := Reg.unalloc hbx6
      have ho2 := ho.base (B' := u5.heap.size) (by simp)
      have hs6 := hb6.size
      have bw6 : Below w.heap.size w u6 := bw5.trans (hb6.mono (by omega))
      have o_b_6 := o_b_5.below hb6
      have o_p_6 := o_p_5.below hb6
      have o_q_6 := o_q_5.below hb6
      have o_x_6 := o_x_5.below hb6
      clear o_b_5 o_p_5 o_q_5 o_x_5 bw5
      have o_y_6 := ho2
      have HN_y := Lib.hid ho2.len
      clear ho ho2 hbx6
      have hl_y : n_y ≤ 4194304 := by have h1 := HN_y.out; have h2 := HRL.out; omega
      go_wp2_with fail
      refine (quiet_below (sameInts_any A_x A_p n_x n_p c_x c_p rs rs u6 _ _ o_x_6.rd o_p_6.rd (by omega) (by omega))).mono ?_
      rintro e u7 ⟨rfl, hb7⟩
      have hs7 := hb7.size
      have bw7 : Below w.heap.size w u7 := bw6.trans (hb7.mono (by omega))
      have o_b_7 := o_b_6.below hb7
      have o_p_7 := o_p_6.below hb7
      have o_q_7 := o_q_6.below hb7
      have o_x_7 := o_x_6.below hb7
      have o_y_7 := o_y_6.below hb7
      clear o_b_6 o_p_6 o_q_6 o_x_6 o_y_6 bw6
      go_wp2_with fail
      refine (quiet_below (sameInts_any A_y A_p n_y n_p c_y c_p rs rs u7 _ _ o_y_7.rd o_p_7.rd (by omega) (by omega))).mono ?_
      rintro e u8 ⟨rfl, hb8⟩
      have hs8 := hb8.size
      have bw8 : Below w.heap.size w u8 := bw7.trans (hb8.mono (by omega))
      have o_b_8 := o_b_7.below hb8
      have o_p_8 := o_p_7.below hb8
      have o_q_8 := o_q_7.below hb8
      have o_x_8 := o_x_7.below hb8
      have o_y_8 := o_y_7.below hb8
      clear o_b_7 o_p_7 o_q_7 o_x_7 o_y_7 bw7
      go_wp2_with fail
      go_ret
      exact ⟨rfl, bw8⟩

set_option maxRecDepth 100000 in
theorem lifted (os : Os) (started : os.Started) (H : Type) (enc : TypeId × Value → H) :
    ReturnsInHanded {} Try.checked os 5 .any (Rows.fnMarksAgreeOneSpec.pre6 enc Try.prog Try.f5 Rows.fnMarksAgreeOneRow.domain false) (Rows.fnMarksAgreeOneSpec.post enc Try.prog Try.f5 false true false false) := by
  refine returnsInHanded_of_change (C := Try.checked) own started (by kernel_rfl) Try.func5
    (ChangeSpec.witness6 (enc := enc) (C := Try.checked) false ⟨#[], #[.slice none 0 0], []⟩ 8 (by kernel_rfl) (by kernel_rfl) (by kernel_rfl) (by kernel_rfl)) ?_
  intro W base args ds gs before hval0 hW hcnd _
  have hval : ∀ (j : Nat) t v, Try.f5.params[j]? = some t → args[j]? = some v → Value.okWide Try.prog W .any base t v := hval0
  have hW' := hW
  obtain ⟨p, q, hA0, hV, rfl, hfz, hnd⟩ := hW
  have hA : DataW.TrodAll enc Try.prog W 0 (fun _ => true) true Try.f5.params.toList args.toList ds p := hA0
  rw [Try.params5] at hA hval
  obtain ⟨v0, vs0, d0, ds0, p0, q0, hargs, rfl, rfl, h0, r0⟩ := trodAll_cons hA
  obtain ⟨rfl, rfl, rfl⟩ := trodAll_nil r0
  obtain rfl : args = #[v0] := by cases args; simp_all
  obtain ⟨rfl, rfl⟩ := trodVars_none hV
  have k0 := h0
  have lt0 : ∀ x ∈ p0, x.block < W.heap.size := by obtain ⟨m, hm⟩ := k0; exact DataW.trod_lt m _ _ _ hm
  obtain ⟨a0, len0, cap0, rfl⟩ := okWide_slice Try.underlying32 (hval 0 32 v0 rfl rfl)
  obtain ⟨z0, w0⟩ : ∃ zs, IsRow .u8 W a0 len0 cap0 zs := by
    obtain ⟨fuel, hf⟩ := h0
    rcases open_ints Try.underlying32 Try.underlying5 (by kernel_rfl) hf with ⟨hcs, _⟩ | ⟨x, l, c, zs, hcs, _, hl, hm, hz, _, hcell, hwz⟩
    · simp [Value.cells] at hcs
      obtain ⟨rfl, rfl, rfl⟩ := hcs
      exact ⟨[], .inl ⟨rfl, rfl, rfl, rfl⟩⟩
    · simp [Value.cells] at hcs
      obtain ⟨rfl, rfl, rfl⟩ := hcs
      exact ⟨zs, .inr ⟨_, rfl, hl, hm, by simpa using hz, hcell, hwz⟩⟩
  clear hA0 hval0
  refine (walk W a0 len0 cap0 z0 w0).mono fun e W' ⟨he, bel⟩ => ?_
  subst he
  exact ⟨_, rfl, _, _, _, [], _, [], hW', trodAll_mk1 (shut_bool Try.underlying4 _), (trodAll_cons_mk (Below.trod laidOut (by kernel_rfl) (of_decide_eq_true (by kernel_rfl)) k0 bel lt0) trodAll_mk0), rfl, bel.frame _, fun h => by cases h⟩

theorem over : Rows.fnMarksAgreeOneRow.holds Try.pinned (OpenSpec.ofChange Rows.fnMarksAgreeOneSpec) :=
  OpenClaim.holds_of_wide 5 Try.f5 rfl rfl rfl rfl rfl rfl rfl ⟨rfl, rfl, rfl, rfl, rfl⟩ rfl rfl rfl rfl rfl (by kernel_rfl) Try.func5 (by kernel_rfl)
    (of_decide_eq_true (by kernel_rfl)) (by unfold Func.isWrapper; first | (rw [if_pos (by decide +kernel)]; kernel_rfl) | (rw [if_neg (by decide +kernel)]; exact ⟨rfl, rfl⟩))
    (fun os started H enc _ => lifted os started H enc)

/-- the statement -/
theorem proved : Rows.FnMarksAgreeOneSaid := over
#print axioms proved
end Go.Proofs.Ytnolnlhoedafcaa.fnMarksAgreeOne
