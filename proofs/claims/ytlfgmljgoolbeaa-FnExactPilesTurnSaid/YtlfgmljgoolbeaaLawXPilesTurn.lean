/- FnExactPilesTurn: whatever its arguments are, the law FnExactPilesTurn of the given program returns true, and leaves all memory as it was. -/
import Derived.Test.YtlfgmljgoolbeaaKit
import Derived.Test.YtlfgmljgoolbeaaPiRows
import Derived.Test.YtlfgmljgoolbeaaPiAddI
import Derived.Test.YtlfgmljgoolbeaaPiMark
import Derived.Test.YtlfgmljgoolbeaaTuS
import Derived.Test.YtlfgmljgoolbeaaTuI
import Derived.Test.YtlfgmljgoolbeaaPiCopy
namespace Go.Proofs.Ytlfgmljgoolbeaa.fnExactPilesTurn
open Go.ChangeShapes Go.WideShapes Go.ChangeAt Go.RowKit Go.Joins
open Go.ChangeMaps (open_string shut_string)
set_option linter.unusedVariables false

set_option maxHeartbeats 6400000 in
/-- the walk -/
theorem walk (w : World) (a0 : Option Addr) (len0 cap0 : Nat) (z0 : List Pil.Pl) (w0 : IsRowP w a0 len0 cap0 z0) (a1 : Int) (w1 : (Lit.int .i64 a1).wf = true) (a2 : Int) (w2 : (Lit.int .i64 a2).wf = true) :
    Calls Try.prog 4 #[.slice a0 len0 cap0, .int .i64 a1, .int .i64 a2] w fun e w' => e = .returned (.bool true) ∧ Below w.heap.size w w' := by
  obtain ⟨hr0, hlc0, hcm0, hS0⟩ := rdP_of_row w0
  clear w0
  generalize z0.take len0 = ps at hr0 hS0
  have s0_ : w.heap.size ≤ w.heap.size := Nat.le_refl _
  have HX0 := Lib.hid hr0.len
  go_enter Try.func4, Try.ntmps4
  go_wp2_with fail
  refine (szPileS_any a0 len0 cap0 ps 1048576 w (hr0.more (by omega)) (by omega) hS0 (by omega) (by omega)).mono ?_
  rintro e u1 ⟨v0, rfl, hv0, hb1⟩
  have hs1 := hb1.size
  have bw1 : Below w.heap.size w u1 := hb1.mono (by omega)
  have r_a0_1 := hr0.below (hb1.mono (by omega))
  clear hr0
  rcases hv0 with rfl | ⟨hv00, hv01, hl0, hz0⟩
  ·
    go_wp2_with fail
    go_ret
    exact ⟨rfl, bw1⟩
  ·
    have HZ0 := Lib.hid (fun (p : Pil.Pl) (hp : p ∈ ps) => Nat.le_trans (hz0 p hp) (show 1048576 ≤ 4194304 by omega))
    clear hz0 hS0
    obtain ⟨rs, hrs⟩ : ∃ rs, rs = turnL ps a1 a2 := ⟨_, rfl⟩
    obtain ⟨ok, hok⟩ : ∃ ok, ok = turnOk ps a1 a2 := ⟨_, rfl⟩
    have HLN := Lib.hid (show rs.length ≤ 4194304 by rw [hrs]; have h1 := turnL_len ps a1 a2; have h2 := HX0.out; omega)
    have HS := fun b0 u (h0 : RdP u u.heap.size (some ⟨b0, 0, none⟩) len0 ps) => sPilesTurn_any (some ⟨b0, 0, none⟩) len0 len0 ps a1 a2 u h0 (by omega) HZ0.out
    have HI := fun b0 u (h0 : RdP u u.heap.size (some ⟨b0, 0, none⟩) len0 ps) => iPilesTurn_any (some ⟨b0, 0, none⟩) len0 len0 ps a1 a2 u h0 (by omega) HZ0.out
    rw [← hrs, ← hok] at HS HI
    have HSH := Lib.hid HS
    have HIH := Lib.hid HI
    clear HS HI hrs hok
    go_wp2_with fail
    refine (toPileS_any a0 len0 cap0 ps u1 (r_a0_1.more (by omega)) (by omega)).mono ?_
    rintro e u2 ⟨rfl, ho, hb2⟩
    have hs2 := hb2.size
    have bw2 : Below w.heap.size w u2 := bw1.trans (hb2.mono (by omega))
    have r_a0_2 := r_a0_1.below (hb2.mono (by omega))
    clear r_a0_1 bw1
    have hlt_c0 : u1.heap.size < u2.heap.size := ho.lt rfl
    have o_c0_2 := ho
    clear ho
    go_wp2_with fail
    refine (HSH.out _ u2 (o_c0_2.rd.more (by omega))).mono ?_
    rintro e u3 ⟨g_w, n_w, c_w, rfl, ho, hb3⟩
    have hs3 := hb3.size
    have bw3 : Below w.heap.size w u3 := bw2.trans (hb3.mono (by omega))
    have r_a0_3 := r_a0_2.below (hb3.mono (by omega))
    have o_c0_3 := o_c0_2.below hb3
    clear r_a0_2 o_c0_2 bw2
    have l_w : n_w ≤ 4194304 := by have := ho.len; have := HLN.out; omega
    have r_w_3 := ho.rd
    clear ho
    clear o_c0_3
    go_wp2_with fail
    refine (toPileS_any a0 len0 cap0 ps u3 (r_a0_3.more (by omega)) (by omega)).mono ?_
    rintro e u4 ⟨rfl, ho, hb4⟩
    have hs4 := hb4.size
    have bw4 : Below w.heap.size w u4 := bw3.trans (hb4.mono (by omega))
    have r_a0_4 := r_a0_3.below (hb4.mono (by omega))
    have r_w_4 := r_w_3.below (hb4.mono (by omega))
    clear r_a0_3 r_w_3 bw3
    have hlt_x0 : u3.heap.size < u4.heap.size := ho.lt rfl
    have o_x0_4 := ho
    clear ho
    go_wp2_with fail
    refine (HIH.out _ u4 (o_x0_4.rd.more (by omega))).mono ?_
    rintro e u5 ⟨A_g, n_g, c_g, rfl, ho, hb5⟩
    have hs5 := hb5.size
    have bw5 : Below w.heap.size w u5 := bw4.trans (hb5.mono (by omega))
    have r_a0_5 := r_a0_4.below (hb5.mono (by omega))
    have r_w_5 := r_w_4.below (hb5.mono (by omega))
    have o_x0_5 := o_x0_4.below hb5
    clear r_a0_4 r_w_4 o_x0_4 bw4
    have o_g_5 := ho
    have l_g : n_g ≤ 4194304 := by have := ho.len; have := HLN.out; omega
    clear ho
    go_wp2_with fail
    refine (eqPileS_same _ _ _ _ _ _ rs u5 (o_g_5.rd.more (by omega)) (r_w_5.more (by omega)) (by omega)).mono ?_
    rintro e u6 ⟨rfl, hb6⟩
    have hs6 := hb6.size
    have bw6 : Below w.heap.size w u6 := bw5.trans (hb6.mono (by omega))
    have r_a0_6 := r_a0_5.below (hb6.mono (by omega))
    have r_w_6 := r_w_5.below (hb6.mono (by omega))
    have o_x0_6 := o_x0_5.below hb6
    have o_g_6 := o_g_5.below hb6
    clear r_a0_5 r_w_5 o_x0_5 o_g_5 bw5
    go_wp2_with fail
    refine (toPileS_any a0 len0 cap0 ps u6 (r_a0_6.more (by omega)) (by omega)).mono ?_
    rintro e u7 ⟨rfl, ho, hb7⟩
    have hs7 := hb7.size
    have bw7 : Below w.heap.size w u7 := bw6.trans (hb7.mono (by omega))
    have r_a0_7 := r_a0_6.below (hb7.mono (by omega))
    have r_w_7 := r_w_6.below (hb7.mono (by omega))
    have o_x0_7 := o_x0_6.below hb7
    have o_g_7 := o_g_6.below hb7
    clear r_a0_6 r_w_6 o_x0_6 o_g_6 bw6
    have hlt_y : u6.heap.size < u7.heap.size := ho.lt rfl
    have o_y_7 := ho
    clear ho
    go_wp2_with fail
    refine (eqPileS_same _ _ len0 len0 len0 len0 ps u7 (o_x0_7.rd.more (by omega)) (o_y_7.rd.more (by omega)) (by omega)).mono ?_
    rintro e u8 ⟨rfl, hb8⟩
    have hs8 := hb8.size
    have bw8 : Below w.heap.size w u8 := bw7.trans (hb8.mono (by omega))
    have r_a0_8 := r_a0_7.below (hb8.mono (by omega))
    have r_w_8 := r_w_7.below (hb8.mono (by omega))
    have o_x0_8 := o_x0_7.below hb8
    have o_g_8 := o_g_7.below hb8
    have o_y_8 := o_y_7.below hb8
    clear r_a0_7 r_w_7 o_x0_7 o_g_7 o_y_7 bw7
    clear o_y_8
    go_wp2_with fail
    refine (markPileS_one _ len0 len0 _ u8 u3.heap.size o_x0_8 (by omega)).mono ?_
    rintro e u9 ⟨rfl, ho9, hg9⟩
    have hb9 := o_x0_8.belowB (by omega) hg9
    have hs9 := hg9.size
    have bw9 : Below w.heap.size w u9 := bw8.trans (hb9.mono (by omega))
    have r_a0_9 := r_a0_8.below (hb9.mono (by omega))
    have r_w_9 := r_w_8.below (hb9.mono (by omega))
    have o_g_9 := o_g_8.above (g := u3.heap.size) hg9 (by omega)
    clear hg9 bw8 o_x0_8 r_a0_8 r_w_8 o_g_8
    have o_x0_9 := ho9
    clear ho9
    have hv_x0 := mkV_nn len0
    clear o_x0_9
    go_wp2_with fail
    refine (eqPileS_same _ _ _ _ _ _ rs u9 (o_g_9.rd.more (by omega)) (r_w_9.more (by omega)) (by omega)).mono ?_
    rintro e u10 ⟨rfl, hb10⟩
    have hs10 := hb10.size
    have bw10 : Below w.heap.size w u10 := bw9.trans (hb10.mono (by omega))
    have r_a0_10 := r_a0_9.below (hb10.mono (by omega))
    have r_w_10 := r_w_9.below (hb10.mono (by omega))
    have o_g_10 := o_g_9.below hb10
    clear r_a0_9 r_w_9 o_g_9 bw9
    go_wp2_with fail
    refine (markPileS_one A_g n_g c_g _ u10 u4.heap.size o_g_10 (by omega)).mono ?_
    rintro e u11 ⟨rfl, ho11, hg11⟩
    have hb11 := o_g_10.belowB (by omega) hg11
    have hs11 := hg11.size
    have bw11 : Below w.heap.size w u11 := bw10.trans (hb11.mono (by omega))
    have r_a0_11 := r_a0_10.below (hb11.mono (by omega))
    have r_w_11 := r_w_10.below (hb11.mono (by omega))
    clear hg11 bw10 o_g_10 r_a0_10 r_w_10
    have o_g_11 := ho11
    clear ho11
    have hv_g := mkV_nn n_g
    go_wp2_with fail
    refine (heldPileS_one A_g n_g c_g u11 o_g_11.rd (by omega)).mono ?_
    rintro e u12 ⟨rfl, hb12⟩
    have hs12 := hb12.size
    have bw12 : Below w.heap.size w u12 := bw11.trans (hb12.mono (by omega))
    have r_a0_12 := r_a0_11.below (hb12.mono (by omega))
    have r_w_12 := r_w_11.below (hb12.mono (by omega))
    have o_g_12 := o_g_11.below hb12
    clear r_a0_11 r_w_11 o_g_11 bw11
    go_wp2_with fail
    refine (toPileS_any a0 len0 cap0 ps u12 (r_a0_12.more (by omega)) (by omega)).mono ?_
    rintro e u13 ⟨rfl, ho, hb13⟩
    have hs13 := hb13.size
    have bw13 : Below w.heap.size w u13 := bw12.trans (hb13.mono (by omega))
    have r_a0_13 := r_a0_12.below (hb13.mono (by omega))
    have r_w_13 := r_w_12.below (hb13.mono (by omega))
    have o_g_13 := o_g_12.below hb13
    clear r_a0_12 r_w_12 o_g_12 bw12
    have hlt_z0 : u12.heap.size < u13.heap.size := ho.lt rfl
    have o_z0_13 := ho
    clear ho
    go_wp2_with fail
    refine (HIH.out _ u13 (o_z0_13.rd.more (by omega))).mono ?_
    rintro e u14 ⟨A_h, n_h, c_h, rfl, ho, hb14⟩
    have hs14 := hb14.size
    have bw14 : Below w.heap.size w u14 := bw13.trans (hb14.mono (by omega))
    have r_a0_14 := r_a0_13.below (hb14.mono (by omega))
    have r_w_14 := r_w_13.below (hb14.mono (by omega))
    have o_g_14 := o_g_13.below hb14
    have o_z0_14 := o_z0_13.below hb14
    clear r_a0_13 r_w_13 o_g_13 o_z0_13 bw13
    have o_h_14 := ho
    have l_h : n_h ≤ 4194304 := by have := ho.len; have := HLN.out; omega
    clear ho
    clear o_z0_14
    go_wp2_with fail
    refine (eqPileS_same _ _ _ _ _ _ rs u14 (o_h_14.rd.more (by omega)) (r_w_14.more (by omega)) (by omega)).mono ?_
    rintro e u15 ⟨rfl, hb15⟩
    have hs15 := hb15.size
    have bw15 : Below w.heap.size w u15 := bw14.trans (hb15.mono (by omega))
    have r_a0_15 := r_a0_14.below (hb15.mono (by omega))
    have r_w_15 := r_w_14.below (hb15.mono (by omega))
    have o_g_15 := o_g_14.below hb15
    have o_h_15 := o_h_14.below hb15
    clear r_a0_14 r_w_14 o_g_14 o_h_14 bw14
    go_wp2_with fail
    refine (heldPileS_one A_g n_g c_g u15 o_g_15.rd (by omega)).mono ?_
    rintro e u16 ⟨rfl, hb16⟩
    have hs16 := hb16.size
    have bw16 : Below w.heap.size w u16 := bw15.trans (hb16.mono (by omega))
    have r_a0_16 := r_a0_15.below (hb16.mono (by omega))
    have r_w_16 := r_w_15.below (hb16.mono (by omega))
    have o_g_16 := o_g_15.below hb16
    have o_h_16 := o_h_15.below hb16
    clear r_a0_15 r_w_15 o_g_15 o_h_15 bw15
    go_wp2_with fail
    go_ret
    exact ⟨rfl, bw16⟩

set_option maxRecDepth 100000 in
theorem lifted (os : Os) (started : os.Started) (H : Type) (enc : TypeId × Value → H) :
    ReturnsInHanded {} Try.checked os 4 .any (Rows.fnExactPilesTurnSpec.pre6 enc Try.prog Try.f4 Rows.fnExactPilesTurnRow.domain false) (Rows.fnExactPilesTurnSpec.post enc Try.prog Try.f4 false true false false) := by
  refine returnsInHanded_of_change (C := Try.checked) own started (by kernel_rfl) Try.func4
    (ChangeSpec.witness6 (enc := enc) (C := Try.checked) false ⟨#[], #[.slice none 0 0, .int .i64 0, .int .i64 0], []⟩ 8 (by kernel_rfl) (by kernel_rfl) (by kernel_rfl) (by kernel_rfl)) ?_
  intro W base args ds gs before hval0 hW hcnd _
  have hval : ∀ (j : Nat) t v, Try.f4.params[j]? = some t → args[j]? = some v → Value.okWide Try.prog W .any base t v := hval0
  have hW' := hW
  obtain ⟨p, q, hA0, hV, rfl, hfz, hnd⟩ := hW
  have hA : DataW.TrodAll enc Try.prog W 0 (fun _ => true) true Try.f4.params.toList args.toList ds p := hA0
  rw [Try.params4] at hA hval
  obtain ⟨v0, vs0, d0, ds0, p0, q0, hargs, rfl, rfl, h0, r0⟩ := trodAll_cons hA
  obtain ⟨v1, vs1, d1, ds1, p1, q1, rfl, rfl, rfl, h1, r1⟩ := trodAll_cons r0
  obtain ⟨v2, vs2, d2, ds2, p2, q2, rfl, rfl, rfl, h2, r2⟩ := trodAll_cons r1
  obtain ⟨rfl, rfl, rfl⟩ := trodAll_nil r2
  obtain rfl : args = #[v0, v1, v2] := by cases args; simp_all
  obtain ⟨rfl, rfl⟩ := trodVars_none hV
  have k0 := h0
  have lt0 : ∀ x ∈ p0, x.block < W.heap.size := by obtain ⟨m, hm⟩ := k0; exact DataW.trod_lt m _ _ _ hm
  obtain ⟨a0, len0, cap0, rfl⟩ := okWide_slice Try.underlying32 (hval 0 32 v0 rfl rfl)
  obtain ⟨z0, w0⟩ : ∃ zs, IsRowP W a0 len0 cap0 zs := by
    obtain ⟨fuel, hf⟩ := h0
    exact isRowP_of_trod (by simpa [Value.cells] using hf)
  have k1 := h1
  have lt1 : ∀ x ∈ p1, x.block < W.heap.size := by obtain ⟨m, hm⟩ := k1; exact DataW.trod_lt m _ _ _ hm
  obtain ⟨a1, rfl, rfl, rfl, w1⟩ := open_int Try.underlying3 (hval 1 3 v1 rfl rfl) h1
  have k2 := h2
  have lt2 : ∀ x ∈ p2, x.block < W.heap.size := by obtain ⟨m, hm⟩ := k2; exact DataW.trod_lt m _ _ _ hm
  obtain ⟨a2, rfl, rfl, rfl, w2⟩ := open_int Try.underlying3 (hval 2 3 v2 rfl rfl) h2
  clear hA0 hval0
  refine (walk W a0 len0 cap0 z0 w0 a1 w1 a2 w2).mono fun e W' ⟨he, bel⟩ => ?_
  subst he
  exact ⟨_, rfl, _, _, _, [], _, [], hW', trodAll_mk1 (shut_bool Try.underlying4 _), (trodAll_cons_mk (Below.trod laidOut (by kernel_rfl) (of_decide_eq_true (by kernel_rfl)) k0 bel lt0) (trodAll_cons_mk (Below.trod laidOut (by kernel_rfl) (of_decide_eq_true (by kernel_rfl)) k1 bel lt1) (trodAll_cons_mk (Below.trod laidOut (by kernel_rfl) (of_decide_eq_true (by kernel_rfl)) k2 bel lt2) trodAll_mk0))), rfl, bel.frame _, fun h => by cases h⟩

theorem over : Rows.fnExactPilesTurnRow.holds Try.pinned (OpenSpec.ofChange Rows.fnExactPilesTurnSpec) :=
  OpenClaim.holds_of_wide 4 Try.f4 rfl rfl rfl rfl rfl rfl rfl ⟨rfl, rfl, rfl, rfl, rfl⟩ rfl rfl rfl rfl rfl (by kernel_rfl) Try.func4 (by kernel_rfl)
    (of_decide_eq_true (by kernel_rfl)) (by unfold Func.isWrapper; first | (rw [if_pos (by decide +kernel)]; kernel_rfl) | (rw [if_neg (by decide +kernel)]; exact ⟨rfl, rfl⟩))
    (fun os started H enc _ => lifted os started H enc)

/-- the statement -/
theorem proved : Rows.FnExactPilesTurnSaid := over
#print axioms proved
end Go.Proofs.Ytlfgmljgoolbeaa.fnExactPilesTurn
