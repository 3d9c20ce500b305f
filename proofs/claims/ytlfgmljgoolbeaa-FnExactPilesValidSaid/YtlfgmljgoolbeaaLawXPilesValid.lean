/- FnExactPilesValid: whatever its arguments are, the law FnExactPilesValid of the given program returns true, and leaves all memory as it was. -/
import Derived.Test.YtlfgmljgoolbeaaKit
import Derived.Test.YtlfgmljgoolbeaaPiRows
import Derived.Test.YtlfgmljgoolbeaaPiValid
import Derived.Test.YtlfgmljgoolbeaaPiCopy
namespace Go.Proofs.Ytlfgmljgoolbeaa.fnExactPilesValid
open Go.ChangeShapes Go.WideShapes Go.ChangeAt Go.RowKit Go.Joins
open Go.ChangeMaps (open_string shut_string)
set_option linter.unusedVariables false

set_option maxHeartbeats 1600000 in
/-- the walk -/
theorem walk (w : World) (a0 : Option Addr) (len0 cap0 : Nat) (z0 : List Pil.Pl) (w0 : IsRowP w a0 len0 cap0 z0) :
    Calls Try.prog 6 #[.slice a0 len0 cap0] w fun e w' => e = .returned (.bool true) ∧ Below w.heap.size w w' := by
  obtain ⟨hr0, hlc0, hcm0, hS0⟩ := rdP_of_row w0
  clear w0
  generalize z0.take len0 = ps at hr0 hS0
  have s0_ : w.heap.size ≤ w.heap.size := Nat.le_refl _
  obtain ⟨ok, hok⟩ : ∃ ok, ok = Pil.plv ps := ⟨_, rfl⟩
  have HS := fun A u (h : RdP u u.heap.size A len0 ps) hl hz => sPilesValid_any A len0 len0 ps u h hl hz
  have HI := fun A u (h : RdP u u.heap.size A len0 ps) hl hz => iPilesValid_any A len0 len0 ps u h hl hz
  rw [← hok] at HS HI
  have HSH := Lib.hid HS
  have HIH := Lib.hid HI
  clear HS HI hok
  go_enter Try.func6, Try.ntmps6
  have HX0 := Lib.hid hr0.len
  go_wp2_with fail
  refine (szPileS_any a0 len0 cap0 ps 1048576 w (hr0.more (by omega)) (by omega) hS0 (by omega) (by omega)).mono ?_
  rintro e u1 ⟨v0, rfl, hv0, hb1⟩
  have hs1 := hb1.size
  have bw1 : Below w.heap.size w u1 := hb1.mono (by omega)
  have r_a0_1 := hr0.below (hb1.mono (by omega))
  clear hr0
  rcases hv0 with rfl | ⟨hv00, hv01, hl0, hz0⟩
  ·
    go_wp2_with fail
    go_ret
    exact ⟨rfl, bw1⟩
  ·
    have HZ0 := Lib.hid (fun (p : Pil.Pl) (hp : p ∈ ps) => Nat.le_trans (hz0 p hp) (show 1048576 ≤ 4194304 by omega))
    clear hz0 hS0
    go_wp2_with fail
    refine (toPileS_any a0 len0 cap0 ps u1 (r_a0_1.more (by omega)) (by omega)).mono ?_
    rintro e u2 ⟨rfl, ho, hb2⟩
    have hs2 := hb2.size
    have bw2 : Below w.heap.size w u2 := bw1.trans (hb2.mono (by omega))
    have r_a0_2 := r_a0_1.below (hb2.mono (by omega))
    clear r_a0_1 bw1
    have o_c_2 := ho
    clear ho
    go_wp2_with fail
    refine (HSH.out _ u2 o_c_2.rd (by omega) HZ0.out).mono ?_
    rintro e u3 ⟨rfl, hb3⟩
    have hs3 := hb3.size
    have bw3 : Below w.heap.size w u3 := bw2.trans (hb3.mono (by omega))
    have r_a0_3 := r_a0_2.below (hb3.mono (by omega))
    have o_c_3 := o_c_2.below hb3
    clear r_a0_2 o_c_2 bw2
    go_wp2_with fail
    refine (toPileS_any a0 len0 cap0 ps u3 (r_a0_3.more (by omega)) (by omega)).mono ?_
    rintro e u4 ⟨rfl, ho, hb4⟩
    have hs4 := hb4.size
    have bw4 : Below w.heap.size w u4 := bw3.trans (hb4.mono (by omega))
    have r_a0_4 := r_a0_3.below (hb4.mono (by omega))
    clear r_a0_3 bw3
    have o_x_4 := ho
    clear ho
    go_wp2_with fail
    refine (HIH.out _ u4 o_x_4.rd (by omega) HZ0.out).mono ?_
    rintro e u5 ⟨rfl, hb5⟩
    have hs5 := hb5.size
    have bw5 : Below w.heap.size w u5 := bw4.trans (hb5.mono (by omega))
    have r_a0_5 := r_a0_4.below (hb5.mono (by omega))
    have o_x_5 := o_x_4.below hb5
    clear r_a0_4 o_x_4 bw4
    go_wp2_with fail
    refine (toPileS_any a0 len0 cap0 ps u5 (r_a0_5.more (by omega)) (by omega)).mono ?_
    rintro e u6 ⟨rfl, ho, hb6⟩
    have hs6 := hb6.size
    have bw6 : Below w.heap.size w u6 := bw5.trans (hb6.mono (by omega))
    have r_a0_6 := r_a0_5.below (hb6.mono (by omega))
    have o_x_6 := o_x_5.below hb6
    clear r_a0_5 o_x_5 bw5
    have o_y_6 := ho
    clear ho
    go_wp2_with fail
    refine (eqPileS_same _ _ len0 len0 len0 len0 ps u6 o_x_6.rd o_y_6.rd (by omega)).mono ?_
    rintro e u7 ⟨rfl, hb7⟩
    have hs7 := hb7.size
    have bw7 : Below w.heap.size w u7 := bw6.trans (hb7.mono (by omega))
    have r_a0_7 := r_a0_6.below (hb7.mono (by omega))
    have o_x_7 := o_x_6.below hb7
    have o_y_7 := o_y_6.below hb7
    clear r_a0_6 o_x_6 o_y_6 bw6
    go_wp2_with fail
    go_ret
    exact ⟨rfl, bw7⟩

set_option maxRecDepth 100000 in
theorem lifted (os : Os) (started : os.Started) (H : Type) (enc : TypeId × Value → H) :
    ReturnsInHanded {} Try.checked os 6 .any (Rows.fnExactPilesValidSpec.pre6 enc Try.prog Try.f6 Rows.fnExactPilesValidRow.domain false) (Rows.fnExactPilesValidSpec.post enc Try.prog Try.f6 false true false false) := by
  refine returnsInHanded_of_change (C := Try.checked) own started (by kernel_rfl) Try.func6
    (ChangeSpec.witness6 (enc := enc) (C := Try.checked) false ⟨#[], #[.slice none 0 0], []⟩ 8 (by kernel_rfl) (by kernel_rfl) (by kernel_rfl) (by kernel_rfl)) ?_
  intro W base args ds gs before hval0 hW hcnd _
  have hval : ∀ (j : Nat) t v, Try.f6.params[j]? = some t → args[j]? = some v → Value.okWide Try.prog W .any base t v := hval0
  have hW' := hW
  obtain ⟨p, q, hA0, hV, rfl, hfz, hnd⟩ := hW
  have hA : DataW.TrodAll enc Try.prog W 0 (fun _ => true) true Try.f6.params.toList args.toList ds p := hA0
  rw [Try.params6] at hA hval
  obtain ⟨v0, vs0, d0, ds0, p0, q0, hargs, rfl, rfl, h0, r0⟩ := trodAll_cons hA
  obtain ⟨rfl, rfl, rfl⟩ := trodAll_nil r0
  obtain rfl : args = #[v0] := by cases args; simp_all
  obtain ⟨rfl, rfl⟩ := trodVars_none hV
  have k0 := h0
  have lt0 : ∀ x ∈ p0, x.block < W.heap.size := by obtain ⟨m, hm⟩ := k0; exact DataW.trod_lt m _ _ _ hm
  obtain ⟨a0, len0, cap0, rfl⟩ := okWide_slice Try.underlying32 (hval 0 32 v0 rfl rfl)
  obtain ⟨z0, w0⟩ : ∃ zs, IsRowP W a0 len0 cap0 zs := by
    obtain ⟨fuel, hf⟩ := h0
    exact isRowP_of_trod (by simpa [Value.cells] using hf)
  clear hA0 hval0
  refine (walk W a0 len0 cap0 z0 w0).mono fun e W' ⟨he, bel⟩ => ?_
  subst he
  exact ⟨_, rfl, _, _, _, [], _, [], hW', trodAll_mk1 (shut_bool Try.underlying4 _), (trodAll_cons_mk (Below.trod laidOut (by kernel_rfl) (of_decide_eq_true (by kernel_rfl)) k0 bel lt0) trodAll_mk0), rfl, bel.frame _, fun h => by cases h⟩

theorem over : Rows.fnExactPilesValidRow.holds Try.pinned (OpenSpec.ofChange Rows.fnExactPilesValidSpec) :=
  OpenClaim.holds_of_wide 6 Try.f6 rfl rfl rfl rfl rfl rfl rfl ⟨rfl, rfl, rfl, rfl, rfl⟩ rfl rfl rfl rfl rfl (by kernel_rfl) Try.func6 (by kernel_rfl)
    (of_decide_eq_true (by kernel_rfl)) (by unfold Func.isWrapper; first | (rw [if_pos (by decide +kernel)]; kernel_rfl) | (rw [if_neg (by decide +kernel)]; exact ⟨rfl, rfl⟩))
    (fun os started H enc _ => lifted os started H enc)

/-- the statement -/
theorem proved : Rows.FnExactPilesValidSaid := over
#print axioms proved
end Go.Proofs.Ytlfgmljgoolbeaa.fnExactPilesValid
