/- FnExactMarksAgree: whatever its arguments are, the law FnExactMarksAgree of the given program returns true, and leaves all memory as it was. -/
import Derived.Test.YtnolnlhoedafcaaKit
import Derived.Test.YtnolnlhoedafcaaRwLaws
namespace Go.Proofs.Ytnolnlhoedafcaa.fnExactMarksAgree
open Go.ChangeShapes Go.WideShapes Go.ChangeAt Go.RowKit Go.Joins
open Go.ChangeMaps (open_string shut_string)
set_option linter.unusedVariables false

set_option maxHeartbeats 3200000 in
/-- the walk -/
theorem walk (w : World) (a0 : Option Addr) (len0 cap0 : Nat) (z0 : List Rw) (w0 : IsRowR w a0 len0 cap0 z0) :
    Calls Try.prog 3 #[.slice a0 len0 cap0] w fun e w' => e = .returned (.bool true) ∧ Below w.heap.size w w' := by
  obtain ⟨hr0, hlc0, hcm0⟩ := w0
  have HX0 := Lib.hid hr0.len
  have s0_ : w.heap.size ≤ w.heap.size := Nat.le_refl _
  go_enter Try.func3, Try.ntmps3
  go_wp2_with fail
  refine (same_below ((szIntSS_any a0 len0 cap0 z0 w hr0 (by omega)).mono (R' := fun e w' => (∃ v : Int, e = .returned (.int .i64 v) ∧ (v = -1 ∨ (0 ≤ v ∧ v ≤ 1048576 ∧ len0 ≤ 1048576 ∧ tot z0 ≤ 1048576))) ∧ w = w') (fun _ _ ⟨v, h1, h2, h3⟩ => ⟨⟨v, h1, h2⟩, h3⟩))).mono ?_
  rintro e u1 ⟨⟨v0, rfl, hv0⟩, hb1⟩
  have hs1 := hb1.size
  have bw1 : Below w.heap.size w u1 := hb1.mono (by omega)
  have r_a_1 := hr0.below (hb1.mono (by omega))
  clear hr0
  rcases hv0 with rfl | ⟨hv00, hv01, hl0, ht0⟩
  ·
    go_wp2_with fail
    go_ret
    exact ⟨rfl, bw1⟩
  ·
    have HZ := Lib.hid (fun x (hx : x ∈ z0) => (show x.length ≤ 4194304 by have := tot_mem hx; omega))
    obtain ⟨rs, hrs⟩ : ∃ rs, rs = Rw2.agL z0 := ⟨_, rfl⟩
    obtain ⟨ok, hok⟩ : ∃ ok, ok = Rw2.agOk z0 := ⟨_, rfl⟩
    have HLN := Lib.hid (show rs.length ≤ 1048576 by rw [hrs]; exact agL_small ht0)
    have HS := fun b u (h : RdR u u.heap.size (some ⟨b, 0, none⟩) len0 z0) => sMarksAgree_any (some ⟨b, 0, none⟩) len0 len0 z0 u h (by omega) HZ.out
    have HI := fun b u (h : RdR u u.heap.size (some ⟨b, 0, none⟩) len0 z0) => iMarksAgree_any (some ⟨b, 0, none⟩) len0 len0 z0 u h (by omega) HZ.out
    rw [← hrs, ← hok] at HS HI
    have HSH := Lib.hid HS
    have HIH := Lib.hid HI
    clear HS HI hrs hok
    go_wp2_with fail
    refine (toIntSS_any a0 len0 cap0 z0 u1 (r_a_1.more (by omega)) (by omega) HZ.out).mono ?_
    rintro e u2 ⟨gs_c, rfl, ho, hb2⟩
    have hs2 := hb2.size
    have bw2 : Below w.heap.size w u2 := bw1.trans (hb2.mono (by omega))
    have r_a_2 := r_a_1.below (hb2.mono (by omega))
    clear r_a_1 bw1
    have z_c_2 := ho
    have hlt_c : u1.heap.size < u2.heap.size := ho.1
    clear ho
    go_wp2_with fail
    refine (HSH.out _ u2 (z_c_2.rd (by omega) HX0.out HZ.out)).mono ?_
    rintro e u3 ⟨A_w, n_w, c_w, rfl, ho, hb3⟩
    have hs3 := hb3.size
    have bw3 : Below w.heap.size w u3 := bw2.trans (hb3.mono (by omega))
    have r_a_3 := r_a_2.below (hb3.mono (by omega))
    have z_c_3 := z_c_2.belowC hb3 (by omega)
    clear r_a_2 z_c_2 bw2
    clear z_c_3
    have r_w_3 := ho.rd
    have hl_w : n_w ≤ 4194304 := by have := ho.len; have := HLN.out; omega
    clear ho
    go_wp2_with fail
    refine (toIntSS_any a0 len0 cap0 z0 u3 (r_a_3.more (by omega)) (by omega) HZ.out).mono ?_
    rintro e u4 ⟨gs_x, rfl, ho, hb4⟩
    have hs4 := hb4.size
    have bw4 : Below w.heap.size w u4 := bw3.trans (hb4.mono (by omega))
    have r_a_4 := r_a_3.below (hb4.mono (by omega))
    have r_w_4 := r_w_3.below (hb4.mono (by omega))
    clear r_a_3 r_w_3 bw3
    have z_x_4 := ho
    have hlt_x : u3.heap.size < u4.heap.size := ho.1
    clear ho
    go_wp2_with fail
    refine (HIH.out _ u4 (z_x_4.rd (by omega) HX0.out HZ.out)).mono ?_
    rintro e u5 ⟨A_g, n_g, c_g, rfl, ho, hb5⟩
    have hs5 := hb5.size
    have bw5 : Below w.heap.size w u5 := bw4.trans (hb5.mono (by omega))
    have r_a_5 := r_a_4.below (hb5.mono (by omega))
    have r_w_5 := r_w_4.below (hb5.mono (by omega))
    have z_x_5 := z_x_4.belowC hb5 (by omega)
    clear r_a_4 r_w_4 z_x_4 bw4
    have o_g_5 := ho
    have hl_g : n_g ≤ 4194304 := by have := ho.len; have := HLN.out; omega
    clear ho
    go_wp2_with fail
    refine (quiet_below (eqIntS_t A_g A_w n_g n_w c_g c_w rs u5 _ _ o_g_5.rd r_w_5 (by omega) (by omega))).mono ?_
    rintro e u6 ⟨rfl, hb6⟩
    have hs6 := hb6.size
    have bw6 : Below w.heap.size w u6 := bw5.trans (hb6.mono (by omega))
    have r_a_6 := r_a_5.below (hb6.mono (by omega))
    have r_w_6 := r_w_5.below (hb6.mono (by omega))
    have z_x_6 := z_x_5.belowC hb6 (by omega)
    have o_g_6 := o_g_5.below hb6
    clear r_a_5 r_w_5 z_x_5 o_g_5 bw5
    go_wp2_with fail
    refine (toIntSS_any a0 len0 cap0 z0 u6 (r_a_6.more (by omega)) (by omega) HZ.out).mono ?_
    rintro e u7 ⟨gs_y, rfl, ho, hb7⟩
    have hs7 := hb7.size
    have bw7 : Below w.heap.size w u7 := bw6.trans (hb7.mono (by omega))
    have r_a_7 := r_a_6.below (hb7.mono (by omega))
    have r_w_7 := r_w_6.below (hb7.mono (by omega))
    have z_x_7 := z_x_6.belowC hb7 (by omega)
    have o_g_7 := o_g_6.below hb7
    clear r_a_6 r_w_6 z_x_6 o_g_6 bw6
    have z_y_7 := ho
    have hlt_y : u6.heap.size < u7.heap.size := ho.1
    clear ho
    go_wp2_with fail
    refine (eqIntSS_same _ _ len0 len0 len0 len0 z0 u7 (z_x_7.rd (by omega) HX0.out HZ.out) (z_y_7.rd (by omega) HX0.out HZ.out) (by omega) HZ.out).mono ?_
    rintro e u8 ⟨rfl, hb8⟩
    have hs8 := hb8.size
    have bw8 : Below w.heap.size w u8 := bw7.trans (hb8.mono (by omega))
    have r_a_8 := r_a_7.below (hb8.mono (by omega))
    have r_w_8 := r_w_7.below (hb8.mono (by omega))
    have z_x_8 := z_x_7.belowC hb8 (by omega)
    have o_g_8 := o_g_7.below hb8
    have z_y_8 := z_y_7.belowC hb8 (by omega)
    clear r_a_7 r_w_7 z_x_7 o_g_7 z_y_7 bw7
    clear z_y_8
    go_wp2_with fail
    refine (markIntSS_any u3.heap.size u4.heap.size len0 len0 z0 gs_x u8 z_x_8 HX0.out (by omega) ht0).mono ?_
    rintro e u9 ⟨mm, rfl, hmm, hR⟩
    have hs9 : u8.heap.size ≤ u9.heap.size := hR.below.size
    have bw9 : Below w.heap.size w u9 := bw8.trans (hR.below.mono (by omega))
    have r_a_9 := r_a_8.below (hR.below.mono (by omega))
    have o_g_9 := o_g_8.rng hR (by omega)
    have r_w_9 := r_w_8.below (hR.below.mono (by omega))
    clear hR r_a_8 r_w_8 z_x_8 o_g_8
    go_wp2_with fail
    refine (quiet_below (eqIntS_t A_g A_w n_g n_w c_g c_w rs u9 _ _ o_g_9.rd r_w_9 (by omega) (by omega))).mono ?_
    rintro e u10 ⟨rfl, hb10⟩
    have hs10 := hb10.size
    have bw10 : Below w.heap.size w u10 := bw9.trans (hb10.mono (by omega))
    have r_a_10 := r_a_9.below (hb10.mono (by omega))
    have o_g_10 := o_g_9.below hb10
    have r_w_10 := r_w_9.below (hb10.mono (by omega))
    clear r_a_9 o_g_9 r_w_9 bw9
    go_wp2_with fail
    refine (markIntS_any A_g n_g c_g rs 1 u10 u4.heap.size o_g_10 (by omega) (by omega) (by omega)).mono ?_
    rintro e u11 ⟨rfl, ho11, hg11, hz11⟩
    have hb11 := o_g_10.belowB (by omega) hg11
    have hs11 := hg11.size
    have bw11 : Below w.heap.size w u11 := bw10.trans (hb11.mono (by omega))
    have r_a_11 := r_a_10.below (hb11.mono (by omega))
    have r_w_11 := r_w_10.below (hb11.mono (by omega))
    clear hg11 hz11 r_a_10 o_g_10 r_w_10
    have o_g_11 := ho11
    clear ho11
    go_wp2_with fail
    refine (quiet_below (heldIntS_any A_g n_g c_g 1 u11 _ o_g_11.rd (by omega) (by omega) (by omega))).mono ?_
    rintro e u12 ⟨rfl, hb12⟩
    have hs12 := hb12.size
    have bw12 : Below w.heap.size w u12 := bw11.trans (hb12.mono (by omega))
    have r_a_12 := r_a_11.below (hb12.mono (by omega))
    have r_w_12 := r_w_11.below (hb12.mono (by omega))
    have o_g_12 := o_g_11.below hb12
    clear r_a_11 r_w_11 o_g_11 bw11
    go_wp2_with fail
    refine (toIntSS_any a0 len0 cap0 z0 u12 (r_a_12.more (by omega)) (by omega) HZ.out).mono ?_
    rintro e u13 ⟨gs_t, rfl, ho, hb13⟩
    have hs13 := hb13.size
    have bw13 : Below w.heap.size w u13 := bw12.trans (hb13.mono (by omega))
    have r_a_13 := r_a_12.below (hb13.mono (by omega))
    have r_w_13 := r_w_12.below (hb13.mono (by omega))
    have o_g_13 := o_g_12.below hb13
    clear r_a_12 r_w_12 o_g_12 bw12
    have z_t_13 := ho
    have hlt_t : u12.heap.size < u13.heap.size := ho.1
    clear ho
    go_wp2_with fail
    refine (HIH.out _ u13 (z_t_13.rd (by omega) HX0.out HZ.out)).mono ?_
    rintro e u14 ⟨A_h, n_h, c_h, rfl, ho, hb14⟩
    have hs14 := hb14.size
    have bw14 : Below w.heap.size w u14 := bw13.trans (hb14.mono (by omega))
    have r_a_14 := r_a_13.below (hb14.mono (by omega))
    have r_w_14 := r_w_13.below (hb14.mono (by omega))
    have o_g_14 := o_g_13.below hb14
    have z_t_14 := z_t_13.belowC hb14 (by omega)
    clear r_a_13 r_w_13 o_g_13 z_t_13 bw13
    have o_h_14 := ho
    have hl_h : n_h ≤ 4194304 := by have := ho.len; have := HLN.out; omega
    clear ho
    clear z_t_14
    go_wp2_with fail
    refine (quiet_below (eqIntS_t A_h A_w n_h n_w c_h c_w rs u14 _ _ o_h_14.rd r_w_14 (by omega) (by omega))).mono ?_
    rintro e u15 ⟨rfl, hb15⟩
    have hs15 := hb15.size
    have bw15 : Below w.heap.size w u15 := bw14.trans (hb15.mono (by omega))
    have r_a_15 := r_a_14.below (hb15.mono (by omega))
    have r_w_15 := r_w_14.below (hb15.mono (by omega))
    have o_g_15 := o_g_14.below hb15
    have o_h_15 := o_h_14.below hb15
    clear r_a_14 r_w_14 o_g_14 o_h_14 bw14
    go_wp2_with fail
    refine (quiet_below (heldIntS_any A_g n_g c_g 1 u15 _ o_g_15.rd (by omega) (by omega) (by omega))).mono ?_
    rintro e u16 ⟨rfl, hb16⟩
    have hs16 := hb16.size
    have bw16 : Below w.heap.size w u16 := bw15.trans (hb16.mono (by omega))
    have r_a_16 := r_a_15.below (hb16.mono (by omega))
    have r_w_16 := r_w_15.below (hb16.mono (by omega))
    have o_g_16 := o_g_15.below hb16
    have o_h_16 := o_h_15.below hb16
    clear r_a_15 r_w_15 o_g_15 o_h_15 bw15
    go_wp2_with fail
    go_ret
    exact ⟨rfl, bw16⟩

set_option maxRecDepth 100000 in
theorem lifted (os : Os) (started : os.Started) (H : Type) (enc : TypeId × Value → H) :
    ReturnsInHanded {} Try.checked os 3 .any (Rows.fnExactMarksAgreeSpec.pre6 enc Try.prog Try.f3 Rows.fnExactMarksAgreeRow.domain false) (Rows.fnExactMarksAgreeSpec.post enc Try.prog Try.f3 false true false false) := by
  refine returnsInHanded_of_change (C := Try.checked) own started (by kernel_rfl) Try.func3
    (ChangeSpec.witness6 (enc := enc) (C := Try.checked) false ⟨#[], #[.slice none 0 0], []⟩ 8 (by kernel_rfl) (by kernel_rfl) (by kernel_rfl) (by kernel_rfl)) ?_
  intro W base args ds gs before hval0 hW hcnd _
  have hval : ∀ (j : Nat) t v, Try.f3.params[j]? = some t → args[j]? = some v → Value.okWide Try.prog W .any base t v := hval0
  have hW' := hW
  obtain ⟨p, q, hA0, hV, rfl, hfz, hnd⟩ := hW
  have hA : DataW.TrodAll enc Try.prog W 0 (fun _ => true) true Try.f3.params.toList args.toList ds p := hA0
  rw [Try.params3] at hA hval
  obtain ⟨v0, vs0, d0, ds0, p0, q0, hargs, rfl, rfl, h0, r0⟩ := trodAll_cons hA
  obtain ⟨rfl, rfl, rfl⟩ := trodAll_nil r0
  obtain rfl : args = #[v0] := by cases args; simp_all
  obtain ⟨rfl, rfl⟩ := trodVars_none hV
  have k0 := h0
  have lt0 : ∀ x ∈ p0, x.block < W.heap.size := by obtain ⟨m, hm⟩ := k0; exact DataW.trod_lt m _ _ _ hm
  obtain ⟨a0, len0, cap0, rfl⟩ := okWide_slice Try.underlying22 (hval 0 22 v0 rfl rfl)
  obtain ⟨z0, w0⟩ : ∃ zs, IsRowR W a0 len0 cap0 zs := by
    obtain ⟨fuel, hf⟩ := h0
    exact isRowR_of_trod (by simpa [Value.cells] using hf)
  clear hA0 hval0
  refine (walk W a0 len0 cap0 z0 w0).mono fun e W' ⟨he, bel⟩ => ?_
  subst he
  exact ⟨_, rfl, _, _, _, [], _, [], hW', trodAll_mk1 (shut_bool Try.underlying4 _), (trodAll_cons_mk (Below.trod laidOut (by kernel_rfl) (of_decide_eq_true (by kernel_rfl)) k0 bel lt0) trodAll_mk0), rfl, bel.frame _, fun h => by cases h⟩

theorem over : Rows.fnExactMarksAgreeRow.holds Try.pinned (OpenSpec.ofChange Rows.fnExactMarksAgreeSpec) :=
  OpenClaim.holds_of_wide 3 Try.f3 rfl rfl rfl rfl rfl rfl rfl ⟨rfl, rfl, rfl, rfl, rfl⟩ rfl rfl rfl rfl rfl (by kernel_rfl) Try.func3 (by kernel_rfl)
    (of_decide_eq_true (by kernel_rfl)) (by unfold Func.isWrapper; first | (rw [if_pos (by decide +kernel)]; kernel_rfl) | (rw [if_neg (by decide +kernel)]; exact ⟨rfl, rfl⟩))
    (fun os started H enc _ => lifted os started H enc)

/-- the statement -/
theorem proved : Rows.FnExactMarksAgreeSaid := over
#print axioms proved
end Go.Proofs.Ytnolnlhoedafcaa.fnExactMarksAgree
