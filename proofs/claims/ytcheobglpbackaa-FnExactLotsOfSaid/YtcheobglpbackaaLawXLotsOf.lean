/- FnExactLotsOf: whatever its arguments are, the law FnExactLotsOf of the given program returns true, and leaves all memory as it was. -/
import Derived.Test.YtcheobglpbackaaKit
import Derived.Test.YtcheobglpbackaaLawKit
import Derived.Test.YtcheobglpbackaaLotsS
namespace Go.Proofs.Ytcheobglpbackaa.fnExactLotsOf
open Go.ChangeShapes Go.WideShapes Go.ChangeAt Go.RowKit Go.Joins
open Go.ChangeMaps (open_string shut_string)
set_option linter.unusedVariables false

set_option maxHeartbeats 800000 in
/-- the walk -/
theorem walk (w : World) (a0 : Int) (w0 : (Lit.int .i64 a0).wf = true) (a1 : Int) (w1 : (Lit.int .i64 a1).wf = true) :
    Calls Try.prog 5 #[.int .i64 a0, .int .i64 a1] w fun e w' => e = .returned (.bool true) ∧ Below w.heap.size w w' := by
  have s0_ : w.heap.size ≤ w.heap.size := Nat.le_refl _
  obtain ⟨ps, hps⟩ : ∃ ps, ps = Bal.lots a0 a1 := ⟨_, rfl⟩
  obtain ⟨ok, hok⟩ : ∃ ok, ok = Bal.lotsOk a0 a1 := ⟨_, rfl⟩
  have h5 : ps.length ≤ 5 := by rw [hps]; exact Bal.lots_len _ _
  have HS := fun u => sLotsOf_any a0 a1 u
  have HI := fun u => iLotsOf_any a0 a1 u
  rw [← hps, ← hok] at HS HI
  have HSH := Lib.hid HS
  have HIH := Lib.hid HI
  clear HS HI hps hok
  go_enter Try.func5, Try.ntmps5
  go_wp2_with fail
  refine (HSH.out w).mono ?_
  rintro e u1 ⟨A_w, n_w, c_w, rfl, ho, hb1⟩
  have hs1 := hb1.size
  have bw1 : Below w.heap.size w u1 := hb1.mono (by omega)
  have o_w_1 := ho
  have r_w_1 := ho.rd
  have l_w : n_w ≤ 4194304 := by have := ho.len; have := h5; omega
  have HN_w := Lib.hid ho.len
  clear ho
  go_wp2_with fail
  refine (HIH.out u1).mono ?_
  rintro e u2 ⟨A_g, n_g, c_g, rfl, ho, hb2⟩
  have hs2 := hb2.size
  have bw2 : Below w.heap.size w u2 := bw1.trans (hb2.mono (by omega))
  have r_w_2 := r_w_1.below (hb2.mono (by omega))
  clear r_w_1 bw1
  have o_g_2 := ho
  have r_g_2 := ho.rd
  have l_g : n_g ≤ 4194304 := by have := ho.len; have := h5; omega
  have HN_g := Lib.hid ho.len
  clear ho
  go_wp2_with fail
  refine (quiet_below (eqIntS_any _ _ _ _ _ _ ps ps u2 _ _ r_g_2 r_w_2 l_g l_w)).mono ?_
  rintro e u3 ⟨rfl, hb3⟩
  have hs3 := hb3.size
  have bw3 : Below w.heap.size w u3 := bw2.trans (hb3.mono (by omega))
  have r_w_3 := r_w_2.below (hb3.mono (by omega))
  have o_g_3 := o_g_2.below hb3
  have r_g_3 := r_g_2.below (hb3.mono (by omega))
  clear r_w_2 o_g_2 r_g_2 bw2
  go_wp2_with fail
  refine (markIntS_any A_g n_g c_g _ 1 u3 u1.heap.size o_g_3 l_g (by omega) (by omega)).mono ?_
  rintro e u4 ⟨rfl, ho4, hg4, hz4⟩
  have hb4 := o_g_3.belowB (by omega) hg4
  have hs4 : u3.heap.size ≤ u4.heap.size := by have := Lib.hid hz4; exact Nat.le_of_eq this.out.symm
  have bw4 : Below w.heap.size w u4 := bw3.trans (hb4.mono (by omega))
  clear hz4 hg4
  have r_w_4 := r_w_3.below (hb4.mono (by omega))
  clear bw3 o_g_3
  have o_g_4 := ho4
  have r_g_4 := ho4.rd
  clear ho4
  go_wp2_with fail
  refine (quiet_below (heldIntS_any A_g n_g c_g 1 u4 _ r_g_4 l_g (by omega) (by omega))).mono ?_
  rintro e u5 ⟨rfl, hb5⟩
  have hs5 := hb5.size
  have bw5 : Below w.heap.size w u5 := bw4.trans (hb5.mono (by omega))
  have r_w_5 := r_w_4.below (hb5.mono (by omega))
  have o_g_5 := o_g_4.below hb5
  have r_g_5 := r_g_4.below (hb5.mono (by omega))
  clear r_w_4 o_g_4 r_g_4 bw4
  go_wp2_with fail
  refine (HIH.out u5).mono ?_
  rintro e u6 ⟨A_h, n_h, c_h, rfl, ho, hb6⟩
  have hs6 := hb6.size
  have bw6 : Below w.heap.size w u6 := bw5.trans (hb6.mono (by omega))
  have r_w_6 := r_w_5.below (hb6.mono (by omega))
  have o_g_6 := o_g_5.below hb6
  have r_g_6 := r_g_5.below (hb6.mono (by omega))
  clear r_w_5 o_g_5 r_g_5 bw5
  have o_h_6 := ho
  have r_h_6 := ho.rd
  have l_h : n_h ≤ 4194304 := by have := ho.len; have := h5; omega
  have HN_h := Lib.hid ho.len
  clear ho
  go_wp2_with fail
  refine (quiet_below (eqIntS_any _ _ _ _ _ _ ps ps u6 _ _ r_h_6 r_w_6 l_h l_w)).mono ?_
  rintro e u7 ⟨rfl, hb7⟩
  have hs7 := hb7.size
  have bw7 : Below w.heap.size w u7 := bw6.trans (hb7.mono (by omega))
  have r_w_7 := r_w_6.below (hb7.mono (by omega))
  have o_g_7 := o_g_6.below hb7
  have r_g_7 := r_g_6.below (hb7.mono (by omega))
  have o_h_7 := o_h_6.below hb7
  have r_h_7 := r_h_6.below (hb7.mono (by omega))
  clear r_w_6 o_g_6 r_g_6 o_h_6 r_h_6 bw6
  go_wp2_with fail
  refine (quiet_below (heldIntS_any A_g n_g c_g 1 u7 _ r_g_7 l_g (by omega) (by omega))).mono ?_
  rintro e u8 ⟨rfl, hb8⟩
  have hs8 := hb8.size
  have bw8 : Below w.heap.size w u8 := bw7.trans (hb8.mono (by omega))
  have r_w_8 := r_w_7.below (hb8.mono (by omega))
  have o_g_8 := o_g_7.below hb8
  have r_g_8 := r_g_7.below (hb8.mono (by omega))
  have o_h_8 := o_h_7.below hb8
  have r_h_8 := r_h_7.below (hb8.mono (by omega))
  clear r_w_7 o_g_7 r_g_7 o_h_7 r_h_7 bw7
  go_wp2_with fail
  go_ret
  exact ⟨rfl, bw8⟩

set_option maxRecDepth 100000 in
theorem lifted (os : Os) (started : os.Started) (H : Type) (enc : TypeId × Value → H) :
    ReturnsInHanded {} Try.checked os 5 .any (Rows.fnExactLotsOfSpec.pre6 enc Try.prog Try.f5 Rows.fnExactLotsOfRow.domain false) (Rows.fnExactLotsOfSpec.post enc Try.prog Try.f5 false true false false) := by
  refine returnsInHanded_of_change (C := Try.checked) own started (by kernel_rfl) Try.func5
    (ChangeSpec.witness6 (enc := enc) (C := Try.checked) false ⟨#[], #[.int .i64 0, .int .i64 0], []⟩ 8 (by kernel_rfl) (by kernel_rfl) (by kernel_rfl) (by kernel_rfl)) ?_
  intro W base args ds gs before hval0 hW hcnd _
  have hval : ∀ (j : Nat) t v, Try.f5.params[j]? = some t → args[j]? = some v → Value.okWide Try.prog W .any base t v := hval0
  have hW' := hW
  obtain ⟨p, q, hA0, hV, rfl, hfz, hnd⟩ := hW
  have hA : DataW.TrodAll enc Try.prog W 0 (fun _ => true) true Try.f5.params.toList args.toList ds p := hA0
  rw [Try.params5] at hA hval
  obtain ⟨v0, vs0, d0, ds0, p0, q0, hargs, rfl, rfl, h0, r0⟩ := trodAll_cons hA
  obtain ⟨v1, vs1, d1, ds1, p1, q1, rfl, rfl, rfl, h1, r1⟩ := trodAll_cons r0
  obtain ⟨rfl, rfl, rfl⟩ := trodAll_nil r1
  obtain rfl : args = #[v0, v1] := by cases args; simp_all
  obtain ⟨rfl, rfl⟩ := trodVars_none hV
  have k0 := h0
  have lt0 : ∀ x ∈ p0, x.block < W.heap.size := by obtain ⟨m, hm⟩ := k0; exact DataW.trod_lt m _ _ _ hm
  obtain ⟨a0, rfl, rfl, rfl, w0⟩ := open_int Try.underlying3 (hval 0 3 v0 rfl rfl) h0
  have k1 := h1
  have lt1 : ∀ x ∈ p1, x.block < W.heap.size := by obtain ⟨m, hm⟩ := k1; exact DataW.trod_lt m _ _ _ hm
  obtain ⟨a1, rfl, rfl, rfl, w1⟩ := open_int Try.underlying3 (hval 1 3 v1 rfl rfl) h1
  clear hA0 hval0
  refine (walk W a0 w0 a1 w1).mono fun e W' ⟨he, bel⟩ => ?_
  subst he
  exact ⟨_, rfl, _, _, _, [], _, [], hW', trodAll_mk1 (shut_bool Try.underlying4 _), (trodAll_cons_mk (Below.trod laidOut (by kernel_rfl) (of_decide_eq_true (by kernel_rfl)) k0 bel lt0) (trodAll_cons_mk (Below.trod laidOut (by kernel_rfl) (of_decide_eq_true (by kernel_rfl)) k1 bel lt1) trodAll_mk0)), rfl, bel.frame _, fun h => by cases h⟩

theorem over : Rows.fnExactLotsOfRow.holds Try.pinned (OpenSpec.ofChange Rows.fnExactLotsOfSpec) :=
  OpenClaim.holds_of_wide 5 Try.f5 rfl rfl rfl rfl rfl rfl rfl ⟨rfl, rfl, rfl, rfl, rfl⟩ rfl rfl rfl rfl rfl (by kernel_rfl) Try.func5 (by kernel_rfl)
    (of_decide_eq_true (by kernel_rfl)) (by unfold Func.isWrapper; first | (rw [if_pos (by decide +kernel)]; kernel_rfl) | (rw [if_neg (by decide +kernel)]; exact ⟨rfl, rfl⟩))
    (fun os started H enc _ => lifted os started H enc)

/-- the statement -/
theorem proved : Rows.FnExactLotsOfSaid := over
#print axioms proved
end Go.Proofs.Ytcheobglpbackaa.fnExactLotsOf
