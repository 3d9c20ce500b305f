/- FnExactMarksOf: whatever its arguments are, the law FnExactMarksOf of the given program returns true, and leaves all memory as it was. -/
import Derived.Test.YtcaiddggokpmoaaKit
import Derived.Test.YtcaiddggokpmoaaLawKit
import Derived.Test.YtcaiddggokpmoaaMaWalk
namespace Go.Proofs.Ytcaiddggokpmoaa.fnExactMarksOf
open Go.ChangeShapes Go.WideShapes Go.ChangeAt Go.RowKit Go.Joins
open Go.ChangeMaps (open_string shut_string)
set_option linter.unusedVariables false

set_option maxHeartbeats 800000 in
/-- the walk -/
theorem walk (w : World) (a0 : Option Addr) (len0 cap0 : Nat) (z0 : List Int) (w0 : IsRow .i64 w a0 len0 cap0 z0) (a1 : Int) (w1 : (Lit.int .i64 a1).wf = true) :
    Calls Try.prog 3 #[.slice a0 len0 cap0, .int .i64 a1] w fun e w' => e = .returned (.bool true) ∧ Below w.heap.size w w' := by
  obtain ⟨hr0, hlc0, hcm0⟩ := rd_of_row w0
  clear w0
  generalize z0.take len0 = xs at hr0
  by_cases hl0 : (1048576 : Int) < (len0 : Int)
  · go_enter Try.func3, Try.ntmps3
    go_wp2_with fail
    go_ret
    exact ⟨rfl, Below.refl _ _⟩
  · have hs0_ : len0 ≤ 1048576 := by omega
    have HX0 := Lib.hid hr0.len
    have s0_ : w.heap.size ≤ w.heap.size := Nat.le_refl _
    obtain ⟨ps, hps⟩ : ∃ ps, ps = Ma.marksOf xs a1 := ⟨_, rfl⟩
    obtain ⟨ok, hok⟩ : ∃ ok, ok = Bal.bv xs a1 := ⟨_, rfl⟩
    have h5 : ps.length ≤ 4194303 := by rw [hps]; have := Ma.marksOf_len xs a1; omega
    have HS := fun A u (h : RdI u u.heap.size A len0 xs) => sMarksOf_any A len0 len0 xs a1 u h (Nat.le_refl _) (by omega) (by unfold maxLen; omega)
    have HI := fun A u (h : RdI u u.heap.size A len0 xs) => iMarksOf_any A len0 len0 xs a1 u h (Nat.le_refl _) (by omega) (by unfold maxLen; omega)
    rw [← hps, ← hok] at HS HI
    have HSH := Lib.hid HS
    have HIH := Lib.hid HI
    clear HS HI hps hok
    go_enter Try.func3, Try.ntmps3
    go_wp2_with fail
    refine (toIntS_any a0 len0 cap0 xs w (hr0.more (by omega)) (by omega)).mono ?_
    rintro e u1 ⟨rfl, ho, hb1⟩
    have hs1 := hb1.size
    have bw1 : Below w.heap.size w u1 := hb1.mono (by omega)
    have r_a0_1 := hr0.below (hb1.mono (by omega))
    clear hr0
    have o_c_1 := ho.own w.heap.size (Nat.le_refl _) len0 HX0.out (by omega)
    have hlt_c : w.heap.size < u1.heap.size := o_c_1.lt rfl
    clear ho
    go_wp2_with fail
    refine (HSH.out _ u1 o_c_1.rd).mono ?_
    rintro e u2 ⟨A_w, n_w, c_w, rfl, ho, hb2⟩
    have hs2 := hb2.size
    have bw2 : Below w.heap.size w u2 := bw1.trans (hb2.mono (by omega))
    have r_a0_2 := r_a0_1.below (hb2.mono (by omega))
    have o_c_2 := o_c_1.below hb2
    clear r_a0_1 o_c_1 bw1
    have o_w_2 := ho
    have l_w : n_w ≤ 4194303 := by have := ho.len; omega
    have HN_w := Lib.hid ho.len
    clear ho
    have r_w_2 := o_w_2.rd
    go_wp2_with fail
    refine (toIntS_any a0 len0 cap0 xs u2 (r_a0_2.more (by omega)) (by omega)).mono ?_
    rintro e u3 ⟨rfl, ho, hb3⟩
    have hs3 := hb3.size
    have bw3 : Below w.heap.size w u3 := bw2.trans (hb3.mono (by omega))
    have r_a0_3 := r_a0_2.below (hb3.mono (by omega))
    have r_w_3 := r_w_2.below (hb3.mono (by omega))
    clear r_a0_2 r_w_2 bw2
    have o_x_3 := ho.own u2.heap.size (Nat.le_refl _) len0 HX0.out (by omega)
    have hlt_x : u2.heap.size < u3.heap.size := o_x_3.lt rfl
    clear ho
    go_wp2_with fail
    refine (HIH.out _ u3 o_x_3.rd).mono ?_
    rintro e u4 ⟨A_g, n_g, c_g, rfl, ho, hb4⟩
    have hs4 := hb4.size
    have bw4 : Below w.heap.size w u4 := bw3.trans (hb4.mono (by omega))
    have r_a0_4 := r_a0_3.below (hb4.mono (by omega))
    have r_w_4 := r_w_3.below (hb4.mono (by omega))
    have o_x_4 := o_x_3.below hb4
    clear r_a0_3 r_w_3 o_x_3 bw3
    have o_g_4 := ho
    have l_g : n_g ≤ 4194303 := by have := ho.len; omega
    have HN_g := Lib.hid ho.len
    clear ho
    go_wp2_with fail
    refine (quiet_below (eqIntS_any _ _ _ _ _ _ ps ps u4 _ _ o_g_4.rd r_w_4 (by omega) (by omega))).mono ?_
    rintro e u5 ⟨rfl, hb5⟩
    have hs5 := hb5.size
    have bw5 : Below w.heap.size w u5 := bw4.trans (hb5.mono (by omega))
    have r_a0_5 := r_a0_4.below (hb5.mono (by omega))
    have r_w_5 := r_w_4.below (hb5.mono (by omega))
    have o_x_5 := o_x_4.below hb5
    have o_g_5 := o_g_4.below hb5
    clear r_a0_4 r_w_4 o_x_4 o_g_4 bw4
    go_wp2_with fail
    refine (toIntS_any a0 len0 cap0 xs u5 (r_a0_5.more (by omega)) (by omega)).mono ?_
    rintro e u6 ⟨rfl, ho, hb6⟩
    have hs6 := hb6.size
    have bw6 : Below w.heap.size w u6 := bw5.trans (hb6.mono (by omega))
    have r_a0_6 := r_a0_5.below (hb6.mono (by omega))
    have r_w_6 := r_w_5.below (hb6.mono (by omega))
    have o_x_6 := o_x_5.below hb6
    have o_g_6 := o_g_5.below hb6
    clear r_a0_5 r_w_5 o_x_5 o_g_5 bw5
    have o_y_6 := ho.own u5.heap.size (Nat.le_refl _) len0 HX0.out (by omega)
    have hlt_y : u5.heap.size < u6.heap.size := o_y_6.lt rfl
    clear ho
    go_wp2_with fail
    refine (quiet_below (eqIntS_any _ _ len0 len0 len0 len0 xs xs u6 _ _ o_x_6.rd o_y_6.rd (by omega) (by omega))).mono ?_
    rintro e u7 ⟨rfl, hb7⟩
    have hs7 := hb7.size
    have bw7 : Below w.heap.size w u7 := bw6.trans (hb7.mono (by omega))
    have r_a0_7 := r_a0_6.below (hb7.mono (by omega))
    have r_w_7 := r_w_6.below (hb7.mono (by omega))
    have o_x_7 := o_x_6.below hb7
    have o_g_7 := o_g_6.below hb7
    have o_y_7 := o_y_6.below hb7
    clear r_a0_6 r_w_6 o_x_6 o_g_6 o_y_6 bw6
    go_wp2_with fail
    refine (markIntS_any _ len0 len0 _ 1 u7 u2.heap.size o_x_7 (by omega) (by omega) (by omega)).mono ?_
    rintro e u8 ⟨rfl, ho8, hg8, hz8⟩
    have hb8 := o_x_7.belowB (by omega) hg8
    have hs8 : u7.heap.size ≤ u8.heap.size := by have := Lib.hid hz8; exact Nat.le_of_eq this.out.symm
    have bw8 : Below w.heap.size w u8 := bw7.trans (hb8.mono (by omega))
    have r_a0_8 := r_a0_7.below (hb8.mono (by omega))
    have r_w_8 := r_w_7.below (hb8.mono (by omega))
    have o_g_8 := o_g_7.above (g := u2.heap.size) hg8 (by omega)
    clear hz8 hg8 bw7 o_x_7
    have o_x_8 := ho8
    clear ho8
    go_wp2_with fail
    refine (quiet_below (eqIntS_any _ _ _ _ _ _ ps ps u8 _ _ o_g_8.rd r_w_8 (by omega) (by omega))).mono ?_
    rintro e u9 ⟨rfl, hb9⟩
    have hs9 := hb9.size
    have bw9 : Below w.heap.size w u9 := bw8.trans (hb9.mono (by omega))
    have r_a0_9 := r_a0_8.below (hb9.mono (by omega))
    have r_w_9 := r_w_8.below (hb9.mono (by omega))
    have o_g_9 := o_g_8.below hb9
    clear r_a0_8 r_w_8 o_g_8 bw8
    go_wp2_with fail
    refine (markIntS_any A_g n_g c_g _ 1 u9 u3.heap.size o_g_9 (by omega) (by omega) (by omega)).mono ?_
    rintro e u10 ⟨rfl, ho10, hg10, hz10⟩
    have hb10 := o_g_9.belowB (by omega) hg10
    have hs10 : u9.heap.size ≤ u10.heap.size := by have := Lib.hid hz10; exact Nat.le_of_eq this.out.symm
    have bw10 : Below w.heap.size w u10 := bw9.trans (hb10.mono (by omega))
    have r_a0_10 := r_a0_9.below (hb10.mono (by omega))
    have r_w_10 := r_w_9.below (hb10.mono (by omega))
    clear hz10 hg10 bw9 o_g_9
    have o_g_10 := ho10
    clear ho10
    go_wp2_with fail
    refine (quiet_below (heldIntS_any A_g n_g c_g 1 u10 _ o_g_10.rd (by omega) (by omega) (by omega))).mono ?_
    rintro e u11 ⟨rfl, hb11⟩
    have hs11 := hb11.size
    have bw11 : Below w.heap.size w u11 := bw10.trans (hb11.mono (by omega))
    have r_a0_11 := r_a0_10.below (hb11.mono (by omega))
    have r_w_11 := r_w_10.below (hb11.mono (by omega))
    have o_g_11 := o_g_10.below hb11
    clear r_a0_10 r_w_10 o_g_10 bw10
    go_wp2_with fail
    refine (toIntS_any a0 len0 cap0 xs u11 (r_a0_11.more (by omega)) (by omega)).mono ?_
    rintro e u12 ⟨rfl, ho, hb12⟩
    have hs12 := hb12.size
    have bw12 : Below w.heap.size w u12 := bw11.trans (hb12.mono (by omega))
    have r_a0_12 := r_a0_11.below (hb12.mono (by omega))
    have r_w_12 := r_w_11.below (hb12.mono (by omega))
    have o_g_12 := o_g_11.below hb12
    clear r_a0_11 r_w_11 o_g_11 bw11
    have o_z_12 := ho.own u11.heap.size (Nat.le_refl _) len0 HX0.out (by omega)
    have hlt_z : u11.heap.size < u12.heap.size := o_z_12.lt rfl
    clear ho
    go_wp2_with fail
    refine (HIH.out _ u12 o_z_12.rd).mono ?_
    rintro e u13 ⟨A_h, n_h, c_h, rfl, ho, hb13⟩
    have hs13 := hb13.size
    have bw13 : Below w.heap.size w u13 := bw12.trans (hb13.mono (by omega))
    have r_a0_13 := r_a0_12.below (hb13.mono (by omega))
    have r_w_13 := r_w_12.below (hb13.mono (by omega))
    have o_g_13 := o_g_12.below hb13
    have o_z_13 := o_z_12.below hb13
    clear r_a0_12 r_w_12 o_g_12 o_z_12 bw12
    have o_h_13 := ho
    have l_h : n_h ≤ 4194303 := by have := ho.len; omega
    have HN_h := Lib.hid ho.len
    clear ho
    go_wp2_with fail
    refine (quiet_below (eqIntS_any _ _ _ _ _ _ ps ps u13 _ _ o_h_13.rd r_w_13 (by omega) (by omega))).mono ?_
    rintro e u14 ⟨rfl, hb14⟩
    have hs14 := hb14.size
    have bw14 : Below w.heap.size w u14 := bw13.trans (hb14.mono (by omega))
    have r_a0_14 := r_a0_13.below (hb14.mono (by omega))
    have r_w_14 := r_w_13.below (hb14.mono (by omega))
    have o_g_14 := o_g_13.below hb14
    have o_h_14 := o_h_13.below hb14
    clear r_a0_13 r_w_13 o_g_13 o_h_13 bw13
    go_wp2_with fail
    refine (quiet_below (heldIntS_any A_g n_g c_g 1 u14 _ o_g_14.rd (by omega) (by omega) (by omega))).mono ?_
    rintro e u15 ⟨rfl, hb15⟩
    have hs15 := hb15.size
    have bw15 : Below w.heap.size w u15 := bw14.trans (hb15.mono (by omega))
    have r_a0_15 := r_a0_14.below (hb15.mono (by omega))
    have r_w_15 := r_w_14.below (hb15.mono (by omega))
    have o_g_15 := o_g_14.below hb15
    have o_h_15 := o_h_14.below hb15
    clear r_a0_14 r_w_14 o_g_14 o_h_14 bw14
    go_wp2_with fail
    go_ret
    exact ⟨rfl, bw15⟩

set_option maxRecDepth 100000 in
theorem lifted (os : Os) (started : os.Started) (H : Type) (enc : TypeId × Value → H) :
    ReturnsInHanded {} Try.checked os 3 .any (Rows.fnExactMarksOfSpec.pre6 enc Try.prog Try.f3 Rows.fnExactMarksOfRow.domain false) (Rows.fnExactMarksOfSpec.post enc Try.prog Try.f3 false true false false) := by
  refine returnsInHanded_of_change (C := Try.checked) own started (by kernel_rfl) Try.func3
    (ChangeSpec.witness6 (enc := enc) (C := Try.checked) false ⟨#[], #[.slice none 0 0, .int .i64 0], []⟩ 8 (by kernel_rfl) (by kernel_rfl) (by kernel_rfl) (by kernel_rfl)) ?_
  intro W base args ds gs before hval0 hW hcnd _
  have hval : ∀ (j : Nat) t v, Try.f3.params[j]? = some t → args[j]? = some v → Value.okWide Try.prog W .any base t v := hval0
  have hW' := hW
  obtain ⟨p, q, hA0, hV, rfl, hfz, hnd⟩ := hW
  have hA : DataW.TrodAll enc Try.prog W 0 (fun _ => true) true Try.f3.params.toList args.toList ds p := hA0
  rw [Try.params3] at hA hval
  obtain ⟨v0, vs0, d0, ds0, p0, q0, hargs, rfl, rfl, h0, r0⟩ := trodAll_cons hA
  obtain ⟨v1, vs1, d1, ds1, p1, q1, rfl, rfl, rfl, h1, r1⟩ := trodAll_cons r0
  obtain ⟨rfl, rfl, rfl⟩ := trodAll_nil r1
  obtain rfl : args = #[v0, v1] := by cases args; simp_all
  obtain ⟨rfl, rfl⟩ := trodVars_none hV
  have k0 := h0
  have lt0 : ∀ x ∈ p0, x.block < W.heap.size := by obtain ⟨m, hm⟩ := k0; exact DataW.trod_lt m _ _ _ hm
  obtain ⟨a0, len0, cap0, rfl⟩ := okWide_slice Try.underlying22 (hval 0 22 v0 rfl rfl)
  obtain ⟨z0, w0⟩ : ∃ zs, IsRow .i64 W a0 len0 cap0 zs := by
    obtain ⟨fuel, hf⟩ := h0
    rcases open_ints Try.underlying22 Try.underlying3 (by kernel_rfl) hf with ⟨hcs, _⟩ | ⟨x, l, c, zs, hcs, _, hl, hm, hz, _, hcell, hwz⟩
    · simp [Value.cells] at hcs
      obtain ⟨rfl, rfl, rfl⟩ := hcs
      exact ⟨[], .inl ⟨rfl, rfl, rfl, rfl⟩⟩
    · simp [Value.cells] at hcs
      obtain ⟨rfl, rfl, rfl⟩ := hcs
      exact ⟨zs, .inr ⟨_, rfl, hl, hm, by simpa using hz, hcell, hwz⟩⟩
  have k1 := h1
  have lt1 : ∀ x ∈ p1, x.block < W.heap.size := by obtain ⟨m, hm⟩ := k1; exact DataW.trod_lt m _ _ _ hm
  obtain ⟨a1, rfl, rfl, rfl, w1⟩ := open_int Try.underlying3 (hval 1 3 v1 rfl rfl) h1
  clear hA0 hval0
  refine (walk W a0 len0 cap0 z0 w0 a1 w1).mono fun e W' ⟨he, bel⟩ => ?_
  subst he
  exact ⟨_, rfl, _, _, _, [], _, [], hW', trodAll_mk1 (shut_bool Try.underlying4 _), (trodAll_cons_mk (Below.trod laidOut (by kernel_rfl) (of_decide_eq_true (by kernel_rfl)) k0 bel lt0) (trodAll_cons_mk (Below.trod laidOut (by kernel_rfl) (of_decide_eq_true (by kernel_rfl)) k1 bel lt1) trodAll_mk0)), rfl, bel.frame _, fun h => by cases h⟩

theorem over : Rows.fnExactMarksOfRow.holds Try.pinned (OpenSpec.ofChange Rows.fnExactMarksOfSpec) :=
  OpenClaim.holds_of_wide 3 Try.f3 rfl rfl rfl rfl rfl rfl rfl ⟨rfl, rfl, rfl, rfl, rfl⟩ rfl rfl rfl rfl rfl (by kernel_rfl) Try.func3 (by kernel_rfl)
    (of_decide_eq_true (by kernel_rfl)) (by unfold Func.isWrapper; first | (rw [if_pos (by decide +kernel)]; kernel_rfl) | (rw [if_neg (by decide +kernel)]; exact ⟨rfl, rfl⟩))
    (fun os started H enc _ => lifted os started H enc)

/-- the statement -/
theorem proved : Rows.FnExactMarksOfSaid := over
#print axioms proved
end Go.Proofs.Ytcaiddggokpmoaa.fnExactMarksOf
