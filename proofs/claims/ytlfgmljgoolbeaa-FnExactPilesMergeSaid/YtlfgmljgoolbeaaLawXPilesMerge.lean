/- FnExactPilesMerge: whatever its arguments are, the law FnExactPilesMerge of the given program returns true, and leaves all memory as it was. -/
import Derived.Test.YtlfgmljgoolbeaaKit
import Derived.Test.YtlfgmljgoolbeaaPiRows
import Derived.Test.YtlfgmljgoolbeaaPiAddI
import Derived.Test.YtlfgmljgoolbeaaPiMark
namespace Go.Proofs.Ytlfgmljgoolbeaa.fnExactPilesMerge
open Go.ChangeShapes Go.WideShapes Go.ChangeAt Go.RowKit Go.Joins
open Go.ChangeMaps (open_string shut_string)
set_option linter.unusedVariables false

set_option maxHeartbeats 6400000 in
/-- the walk -/
theorem walk (w : World) (a0 : Option Addr) (len0 cap0 : Nat) (z0 : List Pil.Pl) (w0 : IsRowP w a0 len0 cap0 z0) (a1 : Option Addr) (len1 cap1 : Nat) (z1 : List Pil.Pl) (w1 : IsRowP w a1 len1 cap1 z1) :
    Calls Try.prog 11 #[.slice a0 len0 cap0, .slice a1 len1 cap1] w fun e w' => e = .returned (.bool true) ∧ Below w.heap.size w w' := by
  obtain ⟨hr0, hlc0, hcm0, hS0⟩ := rdP_of_row w0
  clear w0
  generalize z0.take len0 = ps at hr0 hS0
  obtain ⟨hr1, hlc1, hcm1, hS1⟩ := rdP_of_row w1
  clear w1
  generalize z1.take len1 = qs at hr1 hS1
  have s0_ : w.heap.size ≤ w.heap.size := Nat.le_refl _
  have HX0 := Lib.hid hr0.len
  have HX1 := Lib.hid hr1.len
  go_enter Try.func11, Try.ntmps11
  go_wp2_with fail
  refine (szPileS_any a0 len0 cap0 ps 1048576 w (hr0.more (by omega)) (by omega) hS0 (by omega) (by omega)).mono ?_
  rintro e u1 ⟨v0, rfl, hv0, hb1⟩
  have hs1 := hb1.size
  have bw1 : Below w.heap.size w u1 := hb1.mono (by omega)
  have r_a0_1 := hr0.below (hb1.mono (by omega))
  have r_a1_1 := hr1.below (hb1.mono (by omega))
  clear hr0 hr1
  rcases hv0 with rfl | ⟨hv00, hv01, hl0, hz0⟩
  ·
    go_wp2_with fail
    go_ret
    exact ⟨rfl, bw1⟩
  ·
    have HZ0 := Lib.hid (fun (p : Pil.Pl) (hp : p ∈ ps) => Nat.le_trans (hz0 p hp) (show 1048576 ≤ 4194304 by omega))
    clear hz0 hS0
    go_wp2_with fail
    refine (szPileS_any a1 len1 cap1 qs v0 u1 (r_a1_1.more (by omega)) (by omega) hS1 (by omega) (by omega)).mono ?_
    rintro e u2 ⟨v1, rfl, hv1, hb2⟩
    have hs2 := hb2.size
    have bw2 : Below w.heap.size w u2 := bw1.trans (hb2.mono (by omega))
    have r_a0_2 := r_a0_1.below (hb2.mono (by omega))
    have r_a1_2 := r_a1_1.below (hb2.mono (by omega))
    clear r_a0_1 r_a1_1 bw1
    rcases hv1 with rfl | ⟨hv10, hv11, hl1, hz1⟩
    ·
      go_wp2_with fail
      go_ret
      exact ⟨rfl, bw2⟩
    ·
      have HZ1 := Lib.hid (fun (p : Pil.Pl) (hp : p ∈ qs) => Nat.le_trans (hz1 p hp) (show 1048576 ≤ 4194304 by omega))
      clear hz1 hS1
      obtain ⟨rs, hrs⟩ : ∃ rs, rs = pmergeL ps qs := ⟨_, rfl⟩
      obtain ⟨ok, hok⟩ : ∃ ok, ok = pmergeOk ps qs := ⟨_, rfl⟩
      have HLN := Lib.hid (show rs.length ≤ 4194304 by rw [hrs]; have h1 := pmergeL_len ps qs; have h2 := HX0.out; have h3 := HX1.out; omega)
      have HS := fun b0 b1 u (h0 : RdP u u.heap.size (some ⟨b0, 0, none⟩) len0 ps) (h1 : RdP u u.heap.size (some ⟨b1, 0, none⟩) len1 qs) => sPilesMerge_any b0 0 len0 len0 (some ⟨b1, 0, none⟩) len1 len1 ps qs u h0 h1 (by omega) (by omega) HZ0.out HZ1.out
      have HI := fun b0 b1 u (h0 : RdP u u.heap.size (some ⟨b0, 0, none⟩) len0 ps) (h1 : RdP u u.heap.size (some ⟨b1, 0, none⟩) len1 qs) => iPilesMerge_any (some ⟨b0, 0, none⟩) len0 len0 (some ⟨b1, 0, none⟩) len1 len1 ps qs u h0 h1 (by omega) (by omega) HZ0.out HZ1.out
      rw [← hrs, ← hok] at HS HI
      have HSH := Lib.hid HS
      have HIH := Lib.hid HI
      clear HS HI hrs hok
      go_wp2_with fail
      refine (toPileS_any a0 len0 cap0 ps u2 (r_a0_2.more (by omega)) (by omega)).mono ?_
      rintro e u3 ⟨rfl, ho, hb3⟩
      have hs3 := hb3.size
      have bw3 : Below w.heap.size w u3 := bw2.trans (hb3.mono (by omega))
      have r_a0_3 := r_a0_2.below (hb3.mono (by omega))
      have r_a1_3 := r_a1_2.below (hb3.mono (by omega))
      clear r_a0_2 r_a1_2 bw2
      have hlt_c0 : u2.heap.size < u3.heap.size := ho.lt rfl
      have o_c0_3 := ho
      clear ho
      go_wp2_with fail
      refine (toPileS_any a1 len1 cap1 qs u3 (r_a1_3.more (by omega)) (by omega)).mono ?_
      rintro e u4 ⟨rfl, ho, hb4⟩
      have hs4 := hb4.size
      have bw4 : Below w.heap.size w u4 := bw3.trans (hb4.mono (by omega))
      have r_a0_4 := r_a0_3.below (hb4.mono (by omega))
      have r_a1_4 := r_a1_3.below (hb4.mono (by omega))
      have o_c0_4 := o_c0_3.below hb4
      clear r_a0_3 r_a1_3 o_c0_3 bw3
      have hlt_c1 : u3.heap.size < u4.heap.size := ho.lt rfl
      have o_c1_4 := ho
      clear ho
      go_wp2_with fail
      refine (HSH.out _ _ u4 (o_c0_4.rd.more (by omega)) (o_c1_4.rd.more (by omega))).mono ?_
      rintro e u5 ⟨g_w, n_w, c_w, rfl, ho, hb5⟩
      have hs5 := hb5.size
      have bw5 : Below w.heap.size w u5 := bw4.trans (hb5.mono (by omega))
      have r_a0_5 := r_a0_4.below (hb5.mono (by omega))
      have r_a1_5 := r_a1_4.below (hb5.mono (by omega))
      have o_c0_5 := o_c0_4.below hb5
      have o_c1_5 := o_c1_4.below hb5
      clear r_a0_4 r_a1_4 o_c0_4 o_c1_4 bw4
      have l_w : n_w ≤ 4194304 := by have := ho.len; have := HLN.out; omega
      have r_w_5 := ho.rd
      clear ho
      clear o_c0_5
      clear o_c1_5
      go_wp2_with fail
      refine (toPileS_any a0 len0 cap0 ps u5 (r_a0_5.more (by omega)) (by omega)).mono ?_
      rintro e u6 ⟨rfl, ho, hb6⟩
      have hs6 := hb6.size
      have bw6 : Below w.heap.size w u6 := bw5.trans (hb6.mono (by omega))
      have r_a0_6 := r_a0_5.below (hb6.mono (by omega))
      have r_a1_6 := r_a1_5.below (hb6.mono (by omega))
      have r_w_6 := r_w_5.below (hb6.mono (by omega))
      clear r_a0_5 r_a1_5 r_w_5 bw5
      have hlt_x0 : u5.heap.size < u6.heap.size := ho.lt rfl
      have o_x0_6 := ho
      clear ho
      go_wp2_with fail
      refine (toPileS_any a1 len1 cap1 qs u6 (r_a1_6.more (by omega)) (by omega)).mono ?_
      rintro e u7 ⟨rfl, ho, hb7⟩
      have hs7 := hb7.size
      have bw7 : Below w.heap.size w u7 := bw6.trans (hb7.mono (by omega))
      have r_a0_7 := r_a0_6.below (hb7.mono (by omega))
      have r_a1_7 := r_a1_6.below (hb7.mono (by omega))
      have r_w_7 := r_w_6.below (hb7.mono (by omega))
      have o_x0_7 := o_x0_6.below hb7
      clear r_a0_6 r_a1_6 r_w_6 o_x0_6 bw6
      have hlt_x1 : u6.heap.size < u7.heap.size := ho.lt rfl
      have o_x1_7 := ho
      clear ho
      go_wp2_with fail
      refine (HIH.out _ _ u7 (o_x0_7.rd.more (by omega)) (o_x1_7.rd.more (by omega))).mono ?_
      rintro e u8 ⟨A_g, n_g, c_g, rfl, ho, hb8⟩
      have hs8 := hb8.size
      have bw8 : Below w.heap.size w u8 := bw7.trans (hb8.mono (by omega))
      have r_a0_8 := r_a0_7.below (hb8.mono (by omega))
      have r_a1_8 := r_a1_7.below (hb8.mono (by omega))
      have r_w_8 := r_w_7.below (hb8.mono (by omega))
      have o_x0_8 := o_x0_7.below hb8
      have o_x1_8 := o_x1_7.below hb8
      clear r_a0_7 r_a1_7 r_w_7 o_x0_7 o_x1_7 bw7
      have o_g_8 := ho
      have l_g : n_g ≤ 4194304 := by have := ho.len; have := HLN.out; omega
      clear ho
      go_wp2_with fail
      refine (eqPileS_same _ _ _ _ _ _ rs u8 (o_g_8.rd.more (by omega)) (r_w_8.more (by omega)) (by omega)).mono ?_
      rintro e u9 ⟨rfl, hb9⟩
      have hs9 := hb9.size
      have bw9 : Below w.heap.size w u9 := bw8.trans (hb9.mono (by omega))
      have r_a0_9 := r_a0_8.below (hb9.mono (by omega))
      have r_a1_9 := r_a1_8.below (hb9.mono (by omega))
      have r_w_9 := r_w_8.below (hb9.mono (by omega))
      have o_x0_9 := o_x0_8.below hb9
      have o_x1_9 := o_x1_8.below hb9
      have o_g_9 := o_g_8.below hb9
      clear r_a0_8 r_a1_8 r_w_8 o_x0_8 o_x1_8 o_g_8 bw8
      go_wp2_with fail
      refine (toPileS_any a0 len0 cap0 ps u9 (r_a0_9.more (by omega)) (by omega)).mono ?_
      rintro e u10 ⟨rfl, ho, hb10⟩
      have hs10 := hb10.size
      have bw10 : Below w.heap.size w u10 := bw9.trans (hb10.mono (by omega))
      have r_a0_10 := r_a0_9.below (hb10.mono (by omega))
      have r_a1_10 := r_a1_9.below (hb10.mono (by omega))
      have r_w_10 := r_w_9.below (hb10.mono (by omega))
      have o_x0_10 := o_x0_9.below hb10
      have o_x1_10 := o_x1_9.below hb10
      have o_g_10 := o_g_9.below hb10
      clear r_a0_9 r_a1_9 r_w_9 o_x0_9 o_x1_9 o_g_9 bw9
      have hlt_y : u9.heap.size < u10.heap.size := ho.lt rfl
      have o_y_10 := ho
      clear ho
      go_wp2_with fail
      refine (eqPileS_same _ _ len0 len0 len0 len0 ps u10 (o_x0_10.rd.more (by omega)) (o_y_10.rd.more (by omega)) (by omega)).mono ?_
      rintro e u11 ⟨rfl, hb11⟩
      have hs11 := hb11.size
      have bw11 : Below w.heap.size w u11 := bw10.trans (hb11.mono (by omega))
      have r_a0_11 := r_a0_10.below (hb11.mono (by omega))
      have r_a1_11 := r_a1_10.below (hb11.mono (by omega))
      have r_w_11 := r_w_10.below (hb11.mono (by omega))
      have o_x0_11 := o_x0_10.below hb11
      have o_x1_11 := o_x1_10.below hb11
      have o_g_11 := o_g_10.below hb11
      have o_y_11 := o_y_10.below hb11
      clear r_a0_10 r_a1_10 r_w_10 o_x0_10 o_x1_10 o_g_10 o_y_10 bw10
      clear o_y_11
      go_wp2_with fail
      refine (toPileS_any a1 len1 cap1 qs u11 (r_a1_11.more (by omega)) (by omega)).mono ?_
      rintro e u12 ⟨rfl, ho, hb12⟩
      have hs12 := hb12.size
      have bw12 : Below w.heap.size w u12 := bw11.trans (hb12.mono (by omega))
      have r_a0_12 := r_a0_11.below (hb12.mono (by omega))
      have r_a1_12 := r_a1_11.below (hb12.mono (by omega))
      have r_w_12 := r_w_11.below (hb12.mono (by omega))
      have o_x0_12 := o_x0_11.below hb12
      have o_x1_12 := o_x1_11.below hb12
      have o_g_12 := o_g_11.below hb12
      clear r_a0_11 r_a1_11 r_w_11 o_x0_11 o_x1_11 o_g_11 bw11
      have hlt_y : u11.heap.size < u12.heap.size := ho.lt rfl
      have o_y_12 := ho
      clear ho
      go_wp2_with fail
      refine (eqPileS_same _ _ len1 len1 len1 len1 qs u12 (o_x1_12.rd.more (by omega)) (o_y_12.rd.more (by omega)) (by omega)).mono ?_
      rintro e u13 ⟨rfl, hb13⟩
      have hs13 := hb13.size
      have bw13 : Below w.heap.size w u13 := bw12.trans (hb13.mono (by omega))
      have r_a0_13 := r_a0_12.below (hb13.mono (by omega))
      have r_a1_13 := r_a1_12.below (hb13.mono (by omega))
      have r_w_13 := r_w_12.below (hb13.mono (by omega))
      have o_x0_13 := o_x0_12.below hb13
      have o_x1_13 := o_x1_12.below hb13
      have o_g_13 := o_g_12.below hb13
      have o_y_13 := o_y_12.below hb13
      clear r_a0_12 r_a1_12 r_w_12 o_x0_12 o_x1_12 o_g_12 o_y_12 bw12
      clear o_y_13
      go_wp2_with fail
      refine (markPileS_one _ len0 len0 _ u13 u5.heap.size o_x0_13 (by omega)).mono ?_
      rintro e u14 ⟨rfl, ho14, hg14⟩
      have hb14 := o_x0_13.belowB (by omega) hg14
      have hs14 := hg14.size
      have bw14 : Below w.heap.size w u14 := bw13.trans (hb14.mono (by omega))
      have r_a0_14 := r_a0_13.below (hb14.mono (by omega))
      have r_a1_14 := r_a1_13.below (hb14.mono (by omega))
      have r_w_14 := r_w_13.below (hb14.mono (by omega))
      have o_g_14 := o_g_13.above (g := u5.heap.size) hg14 (by omega)
      have o_x1_14 := o_x1_13.above (g := u5.heap.size) hg14 (by omega)
      clear hg14 bw13 o_x0_13 r_a0_13 r_a1_13 r_w_13 o_x1_13 o_g_13
      have o_x0_14 := ho14
      clear ho14
      have hv_x0 := mkV_nn len0
      clear o_x0_14
      go_wp2_with fail
      refine (markPileS_two _ len0 len1 len1 _ u14 u6.heap.size o_x1_14 (by omega) (by omega)).mono ?_
      rintro e u15 ⟨rfl, ho15, hg15⟩
      have hb15 := o_x1_14.belowB (by omega) hg15
      have hs15 := hg15.size
      have bw15 : Below w.heap.size w u15 := bw14.trans (hb15.mono (by omega))
      have r_a0_15 := r_a0_14.below (hb15.mono (by omega))
      have r_a1_15 := r_a1_14.below (hb15.mono (by omega))
      have r_w_15 := r_w_14.below (hb15.mono (by omega))
      have o_g_15 := o_g_14.above (g := u6.heap.size) hg15 (by omega)
      clear hg15 bw14 o_x1_14 r_a0_14 r_a1_14 r_w_14 o_g_14
      have o_x1_15 := ho15
      clear ho15
      have hv_x1 := mkW_nn len0 len1
      clear o_x1_15
      go_wp2_with fail
      refine (eqPileS_same _ _ _ _ _ _ rs u15 (o_g_15.rd.more (by omega)) (r_w_15.more (by omega)) (by omega)).mono ?_
      rintro e u16 ⟨rfl, hb16⟩
      have hs16 := hb16.size
      have bw16 : Below w.heap.size w u16 := bw15.trans (hb16.mono (by omega))
      have r_a0_16 := r_a0_15.below (hb16.mono (by omega))
      have r_a1_16 := r_a1_15.below (hb16.mono (by omega))
      have r_w_16 := r_w_15.below (hb16.mono (by omega))
      have o_g_16 := o_g_15.below hb16
      clear r_a0_15 r_a1_15 r_w_15 o_g_15 bw15
      go_wp2_with fail
      refine (markPileS_one A_g n_g c_g _ u16 u7.heap.size o_g_16 (by omega)).mono ?_
      rintro e u17 ⟨rfl, ho17, hg17⟩
      have hb17 := o_g_16.belowB (by omega) hg17
      have hs17 := hg17.size
      have bw17 : Below w.heap.size w u17 := bw16.trans (hb17.mono (by omega))
      have r_a0_17 := r_a0_16.below (hb17.mono (by omega))
      have r_a1_17 := r_a1_16.below (hb17.mono (by omega))
      have r_w_17 := r_w_16.below (hb17.mono (by omega))
      clear hg17 bw16 o_g_16 r_a0_16 r_a1_16 r_w_16
      have o_g_17 := ho17
      clear ho17
      have hv_g := mkV_nn n_g
      go_wp2_with fail
      refine (heldPileS_one A_g n_g c_g u17 o_g_17.rd (by omega)).mono ?_
      rintro e u18 ⟨rfl, hb18⟩
      have hs18 := hb18.size
      have bw18 : Below w.heap.size w u18 := bw17.trans (hb18.mono (by omega))
      have r_a0_18 := r_a0_17.below (hb18.mono (by omega))
      have r_a1_18 := r_a1_17.below (hb18.mono (by omega))
      have r_w_18 := r_w_17.below (hb18.mono (by omega))
      have o_g_18 := o_g_17.below hb18
      clear r_a0_17 r_a1_17 r_w_17 o_g_17 bw17
      go_wp2_with fail
      refine (toPileS_any a0 len0 cap0 ps u18 (r_a0_18.more (by omega)) (by omega)).mono ?_
      rintro e u19 ⟨rfl, ho, hb19⟩
      have hs19 := hb19.size
      have bw19 : Below w.heap.size w u19 := bw18.trans (hb19.mono (by omega))
      have r_a0_19 := r_a0_18.below (hb19.mono (by omega))
      have r_a1_19 := r_a1_18.below (hb19.mono (by omega))
      have r_w_19 := r_w_18.below (hb19.mono (by omega))
      have o_g_19 := o_g_18.below hb19
      clear r_a0_18 r_a1_18 r_w_18 o_g_18 bw18
      have hlt_z0 : u18.heap.size < u19.heap.size := ho.lt rfl
      have o_z0_19 := ho
      clear ho
      go_wp2_with fail
      refine (toPileS_any a1 len1 cap1 qs u19 (r_a1_19.more (by omega)) (by omega)).mono ?_
      rintro e u20 ⟨rfl, ho, hb20⟩
      have hs20 := hb20.size
      have bw20 : Below w.heap.size w u20 := bw19.trans (hb20.mono (by omega))
      have r_a0_20 := r_a0_19.below (hb20.mono (by omega))
      have r_a1_20 := r_a1_19.below (hb20.mono (by omega))
      have r_w_20 := r_w_19.below (hb20.mono (by omega))
      have o_g_20 := o_g_19.below hb20
      have o_z0_20 := o_z0_19.below hb20
      clear r_a0_19 r_a1_19 r_w_19 o_g_19 o_z0_19 bw19
      have hlt_z1 : u19.heap.size < u20.heap.size := ho.lt rfl
      have o_z1_20 := ho
      clear ho
      go_wp2_with fail
      refine (HIH.out _ _ u20 (o_z0_20.rd.more (by omega)) (o_z1_20.rd.more (by omega))).mono ?_
      rintro e u21 ⟨A_h, n_h, c_h, rfl, ho, hb21⟩
      have hs21 := hb21.size
      have bw21 : Below w.heap.size w u21 := bw20.trans (hb21.mono (by omega))
      have r_a0_21 := r_a0_20.below (hb21.mono (by omega))
      have r_a1_21 := r_a1_20.below (hb21.mono (by omega))
      have r_w_21 := r_w_20.below (hb21.mono (by omega))
      have o_g_21 := o_g_20.below hb21
      have o_z0_21 := o_z0_20.below hb21
      have o_z1_21 := o_z1_20.below hb21
      clear r_a0_20 r_a1_20 r_w_20 o_g_20 o_z0_20 o_z1_20 bw20
      have o_h_21 := ho
      have l_h : n_h ≤ 4194304 := by have := ho.len; have := HLN.out; omega
      clear ho
      clear o_z0_21
      clear o_z1_21
      go_wp2_with fail
      refine (eqPileS_same _ _ _ _ _ _ rs u21 (o_h_21.rd.more (by omega)) (r_w_21.more (by omega)) (by omega)).mono ?_
      rintro e u22 ⟨rfl, hb22⟩
      have hs22 := hb22.size
      have bw22 : Below w.heap.size w u22 := bw21.trans (hb22.mono (by omega))
      have r_a0_22 := r_a0_21.below (hb22.mono (by omega))
      have r_a1_22 := r_a1_21.below (hb22.mono (by omega))
      have r_w_22 := r_w_21.below (hb22.mono (by omega))
      have o_g_22 := o_g_21.below hb22
      have o_h_22 := o_h_21.below hb22
      clear r_a0_21 r_a1_21 r_w_21 o_g_21 o_h_21 bw21
      go_wp2_with fail
      refine (heldPileS_one A_g n_g c_g u22 o_g_22.rd (by omega)).mono ?_
      rintro e u23 ⟨rfl, hb23⟩
      have hs23 := hb23.size
      have bw23 : Below w.heap.size w u23 := bw22.trans (hb23.mono (by omega))
      have r_a0_23 := r_a0_22.below (hb23.mono (by omega))
      have r_a1_23 := r_a1_22.below (hb23.mono (by omega))
      have r_w_23 := r_w_22.below (hb23.mono (by omega))
      have o_g_23 := o_g_22.below hb23
      have o_h_23 := o_h_22.below hb23
      clear r_a0_22 r_a1_22 r_w_22 o_g_22 o_h_22 bw22
      go_wp2_with fail
      go_ret
      exact ⟨rfl, bw23⟩

set_option maxRecDepth 100000 in
theorem lifted (os : Os) (started : os.Started) (H : Type) (enc : TypeId × Value → H) :
    ReturnsInHanded {} Try.checked os 11 .any (Rows.fnExactPilesMergeSpec.pre6 enc Try.prog Try.f11 Rows.fnExactPilesMergeRow.domain false) (Rows.fnExactPilesMergeSpec.post enc Try.prog Try.f11 false true false false) := by
  refine returnsInHanded_of_change (C := Try.checked) own started (by kernel_rfl) Try.func11
    (ChangeSpec.witness6 (enc := enc) (C := Try.checked) false ⟨#[], #[.slice none 0 0, .slice none 0 0], []⟩ 8 (by kernel_rfl) (by kernel_rfl) (by kernel_rfl) (by kernel_rfl)) ?_
  intro W base args ds gs before hval0 hW hcnd _
  have hval : ∀ (j : Nat) t v, Try.f11.params[j]? = some t → args[j]? = some v → Value.okWide Try.prog W .any base t v := hval0
  have hW' := hW
  obtain ⟨p, q, hA0, hV, rfl, hfz, hnd⟩ := hW
  have hA : DataW.TrodAll enc Try.prog W 0 (fun _ => true) true Try.f11.params.toList args.toList ds p := hA0
  rw [Try.params11] at hA hval
  obtain ⟨v0, vs0, d0, ds0, p0, q0, hargs, rfl, rfl, h0, r0⟩ := trodAll_cons hA
  obtain ⟨v1, vs1, d1, ds1, p1, q1, rfl, rfl, rfl, h1, r1⟩ := trodAll_cons r0
  obtain ⟨rfl, rfl, rfl⟩ := trodAll_nil r1
  obtain rfl : args = #[v0, v1] := by cases args; simp_all
  obtain ⟨rfl, rfl⟩ := trodVars_none hV
  have k0 := h0
  have lt0 : ∀ x ∈ p0, x.block < W.heap.size := by obtain ⟨m, hm⟩ := k0; exact DataW.trod_lt m _ _ _ hm
  obtain ⟨a0, len0, cap0, rfl⟩ := okWide_slice Try.underlying32 (hval 0 32 v0 rfl rfl)
  obtain ⟨z0, w0⟩ : ∃ zs, IsRowP W a0 len0 cap0 zs := by
    obtain ⟨fuel, hf⟩ := h0
    exact isRowP_of_trod (by simpa [Value.cells] using hf)
  have k1 := h1
  have lt1 : ∀ x ∈ p1, x.block < W.heap.size := by obtain ⟨m, hm⟩ := k1; exact DataW.trod_lt m _ _ _ hm
  obtain ⟨a1, len1, cap1, rfl⟩ := okWide_slice Try.underlying32 (hval 1 32 v1 rfl rfl)
  obtain ⟨z1, w1⟩ : ∃ zs, IsRowP W a1 len1 cap1 zs := by
    obtain ⟨fuel, hf⟩ := h1
    exact isRowP_of_trod (by simpa [Value.cells] using hf)
  clear hA0 hval0
  refine (walk W a0 len0 cap0 z0 w0 a1 len1 cap1 z1 w1).mono fun e W' ⟨he, bel⟩ => ?_
  subst he
  exact ⟨_, rfl, _, _, _, [], _, [], hW', trodAll_mk1 (shut_bool Try.underlying4 _), (trodAll_cons_mk (Below.trod laidOut (by kernel_rfl) (of_decide_eq_true (by kernel_rfl)) k0 bel lt0) (trodAll_cons_mk (Below.trod laidOut (by kernel_rfl) (of_decide_eq_true (by kernel_rfl)) k1 bel lt1) trodAll_mk0)), rfl, bel.frame _, fun h => by cases h⟩

theorem over : Rows.fnExactPilesMergeRow.holds Try.pinned (OpenSpec.ofChange Rows.fnExactPilesMergeSpec) :=
  OpenClaim.holds_of_wide 11 Try.f11 rfl rfl rfl rfl rfl rfl rfl ⟨rfl, rfl, rfl, rfl, rfl⟩ rfl rfl rfl rfl rfl (by kernel_rfl) Try.func11 (by kernel_rfl)
    (of_decide_eq_true (by kernel_rfl)) (by unfold Func.isWrapper; first | (rw [if_pos (by decide +kernel)]; kernel_rfl) | (rw [if_neg (by decide +kernel)]; exact ⟨rfl, rfl⟩))
    (fun os started H enc _ => lifted os started H enc)

/-- the statement -/
theorem proved : Rows.FnExactPilesMergeSaid := over
#print axioms proved
end Go.Proofs.Ytlfgmljgoolbeaa.fnExactPilesMerge
