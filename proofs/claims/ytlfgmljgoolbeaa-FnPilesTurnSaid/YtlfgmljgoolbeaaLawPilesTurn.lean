/- FnPilesTurn: whatever its arguments are, the law FnPilesTurn of the given program returns true, and leaves all memory as it was. -/
import Derived.Test.YtlfgmljgoolbeaaKit
import Derived.Test.YtlfgmljgoolbeaaPiLaws
import Derived.Test.YtlfgmljgoolbeaaPiTotal
import Derived.Test.YtlfgmljgoolbeaaPiCopy
import Derived.Test.YtlfgmljgoolbeaaLawKit
import Derived.Test.YtlfgmljgoolbeaaTuS
import Derived.Test.YtlfgmljgoolbeaaTuI
namespace Go.Proofs.Ytlfgmljgoolbeaa.fnPilesTurn
open Go.ChangeShapes Go.WideShapes Go.ChangeAt Go.RowKit Go.Joins
open Go.ChangeMaps (open_string shut_string)
set_option linter.unusedVariables false

set_option maxHeartbeats 1600000 in
/-- the walk -/
theorem walk (w : World) (a0 : Option Addr) (len0 cap0 : Nat) (z0 : List Int) (w0 : IsRow .u8 w a0 len0 cap0 z0) :
    Calls Try.prog 5 #[.slice a0 len0 cap0] w fun e w' => e = .returned (.bool true) ∧ Below w.heap.size w w' := by
  by_cases hl0 : (1048576 : Int) < (len0 : Int)
  · go_enter Try.func5, Try.ntmps5
    go_wp2_with fail
    go_ret
    exact ⟨rfl, Below.refl _ _⟩
  ·
    go_enter Try.func5, Try.ntmps5
    have hBw : w.heap.size ≤ w.heap.size := Nat.le_refl _
    go_wp2_with fail
    refine (drawPilesTurn_any a0 len0 cap0 z0 w w0).mono ?_
    rintro e u1 ⟨gg, nn, cc, ps, x, y, rfl, ho, hn, hsz, hxy, hb1⟩
    have hs1 := hb1.size
    have bw1 : Below w.heap.size w u1 := hb1.mono (by omega)
    have HL := Lib.hid ho.len
    have o_b_1 := ho
    clear ho
    have HZ := Lib.hid (fun (p : Pil.Pl) (hp : p ∈ ps) => Nat.le_trans (hsz p hp) (show 5 ≤ 4194304 by omega))
    clear hsz
    have HI := Lib.hid (fun u (h : RdP u u.heap.size (some ⟨gg, 0, none⟩) nn ps) => iPilesTurn_any _ nn cc ps x y u h (by omega) HZ.out)
    have HS := Lib.hid (fun u (h : RdP u u.heap.size (some ⟨gg, 0, none⟩) nn ps) => sPilesTurn_any _ nn cc ps x y u h (by omega) HZ.out)
    have HLN := Lib.hid (turnL_len ps x y)
    cases hok : turnOk ps x y with
    | false =>
      have he : turnL ps x y = [] := by simp [turnL, hok]
      have hi := HI.out; rw [hok, he] at hi; have HI2 := Lib.hid hi
      have hs := HS.out; rw [hok, he] at hs; have HS2 := Lib.hid hs
      clear hi hs he HI HS hok HLN
      go_wp2_with fail
      refine (HI2.out u1 o_b_1.rd).mono ?_
      rintro e u2 ⟨A_p, n_p, c_p, rfl, ho, hb2⟩
      have hs2 := hb2.size
      have bw2 : Below w.heap.size w u2 := bw1.trans (hb2.mono (by omega))
      have o_b_2 := o_b_1.below hb2
      clear o_b_1 bw1
      have o_p_2 := ho
      have HN_p := Lib.hid ho.len
      clear ho
      go_wp2_with fail
      refine (HS2.out u2 o_b_2.rd).mono ?_
      rintro e u3 ⟨g_q, n_q, c_q, rfl, ho, hb3⟩
      have hs3 := hb3.size
      have bw3 : Below w.heap.size w u3 := bw2.trans (hb3.mono (by omega))
      have o_b_3 := o_b_2.below hb3
      have o_p_3 := o_p_2.below hb3
      clear o_b_2 o_p_2 bw2
      have o_q_3 := ho
      have HN_q := Lib.hid ho.len
      clear ho
      have hl_p : n_p ≤ 4194303 := by have h1 := HN_p.out; simp at h1; omega
      go_wp2_with fail
      refine (samePiles_same _ _ _ _ _ _ _ u3 o_p_3.rd o_q_3.rd (by omega)).mono ?_
      rintro e u4 ⟨rfl, hb4⟩
      have hs4 := hb4.size
      have bw4 : Below w.heap.size w u4 := bw3.trans (hb4.mono (by omega))
      have o_b_4 := o_b_3.below hb4
      have o_p_4 := o_p_3.below hb4
      have o_q_4 := o_q_3.below hb4
      clear o_b_3 o_p_3 o_q_3 bw3
      go_wp2_with fail
      refine (samePiles_same _ _ _ _ _ _ _ u4 o_p_4.rd o_q_4.rd (by omega)).mono ?_
      rintro e u5 ⟨rfl, hb5⟩
      have hs5 := hb5.size
      have bw5 : Below w.heap.size w u5 := bw4.trans (hb5.mono (by omega))
      have o_b_5 := o_b_4.below hb5
      have o_p_5 := o_p_4.below hb5
      have o_q_5 := o_q_4.below hb5
      clear o_b_4 o_p_4 o_q_4 bw4
      go_wp2_with fail
      go_ret
      exact ⟨rfl, bw5⟩
    | true =>
      obtain ⟨hpv, hx, hy⟩ := turnOk_parts hok
      have he : turnL ps x y = Tu.turned x y ps := by simp [turnL, hok]
      have hrv := Tu.turned_ok hx hy hpv
      have hr2 := turnOk_t hrv hx hy
      have htw := Tu.turned_twice hx hy hpv
      have hto := Tu.turned_ptot hx hy hpv
      have hle := Tu.turned_len hx hy hpv
      obtain ⟨rs, hrs⟩ : ∃ rs, rs = Tu.turned x y ps := ⟨_, rfl⟩
      rw [← hrs] at he hrv hr2 htw hto hle
      rw [htw] at hr2
      have hi := HI.out; rw [hok, he] at hi; have HI2 := Lib.hid hi
      have hs := HS.out; rw [hok, he] at hs; have HS2 := Lib.hid hs
      have HRZ := Lib.hid (plv_sz hrv)
      obtain ⟨T, hT⟩ : ∃ T, T = Pil.ptot ps := ⟨_, rfl⟩
      have hb2 := fun A n c u (h : RdP u u.heap.size A n rs) (hn : n ≤ 4194304) => iPilesTurn_any A n c rs x y u h hn HRZ.out
      rw [hr2.1, hr2.2] at hb2
      have HB2 := Lib.hid hb2
      have ht1 := fun A n c u (h : RdP u u.heap.size A n rs) (hn : n ≤ 4194304) => iPilesTotal_any A n c rs u h hn HRZ.out
      rw [hto, ← hT] at ht1
      have HT1 := Lib.hid ht1
      have ht2 := fun u (h : RdP u u.heap.size (some ⟨gg, 0, none⟩) nn ps) => iPilesTotal_any _ nn cc ps u h (by omega) HZ.out
      rw [← hT] at ht2
      have HT2 := Lib.hid ht2
      have HLE := Lib.hid hle
      clear hi hs he HI HS hok hrs hrv hr2 htw hto hle hT hb2 ht1 ht2 hpv
      go_wp2_with fail
      refine (HI2.out u1 o_b_1.rd).mono ?_
      rintro e u2 ⟨A_p, n_p, c_p, rfl, ho, hb2⟩
      have hs2 := hb2.size
      have bw2 : Below w.heap.size w u2 := bw1.trans (hb2.mono (by omega))
      have o_b_2 := o_b_1.below hb2
      clear o_b_1 bw1
      have o_p_2 := ho
      have HN_p := Lib.hid ho.len
      clear ho
      go_wp2_with fail
      refine (HS2.out u2 o_b_2.rd).mono ?_
      rintro e u3 ⟨g_q, n_q, c_q, rfl, ho, hb3⟩
      have hs3 := hb3.size
      have bw3 : Below w.heap.size w u3 := bw2.trans (hb3.mono (by omega))
      have o_b_3 := o_b_2.below hb3
      have o_p_3 := o_p_2.below hb3
      clear o_b_2 o_p_2 bw2
      have o_q_3 := ho
      have HN_q := Lib.hid ho.len
      clear ho
      obtain rfl : n_p = nn := by have h1 := HN_p.out; have h2 := HLE.out; have h3 := HL.out; omega
      go_wp2_with fail
      refine (samePiles_same _ _ _ _ _ _ _ u3 o_p_3.rd o_q_3.rd (by omega)).mono ?_
      rintro e u4 ⟨rfl, hb4⟩
      have hs4 := hb4.size
      have bw4 : Below w.heap.size w u4 := bw3.trans (hb4.mono (by omega))
      have o_b_4 := o_b_3.below hb4
      have o_p_4 := o_p_3.below hb4
      have o_q_4 := o_q_3.below hb4
      clear o_b_3 o_p_3 o_q_3 bw3
      go_wp2_with fail
      refine (HB2.out A_p n_p c_p u4 o_p_4.rd (by omega)).mono ?_
      rintro e u5 ⟨A_x, n_x, c_x, rfl, ho, hb5⟩
      have hs5 := hb5.size
      have bw5 : Below w.heap.size w u5 := bw4.trans (hb5.mono (by omega))
      have o_b_5 := o_b_4.below hb5
      have o_p_5 := o_p_4.below hb5
      have o_q_5 := o_q_4.below hb5
      clear o_b_4 o_p_4 o_q_4 bw4
      have o_x_5 := ho
      have HN_x := Lib.hid ho.len
      clear ho
      obtain rfl : n_x = n_p := by have h1 := HN_x.out; have h3 := HL.out; omega
      go_wp2_with fail
      refine (samePiles_same _ _ _ _ _ _ _ u5 o_x_5.rd o_b_5.rd (by omega)).mono ?_
      rintro e u6 ⟨rfl, hb6⟩
      have hs6 := hb6.size
      have bw6 : Below w.heap.size w u6 := bw5.trans (hb6.mono (by omega))
      have o_b_6 := o_b_5.below hb6
      have o_p_6 := o_p_5.below hb6
      have o_q_6 := o_q_5.below hb6
      have o_x_6 := o_x_5.below hb6
      clear o_b_5 o_p_5 o_q_5 o_x_5 bw5
      go_wp2_with fail
      refine (HT1.out A_p n_x c_p u6 o_p_6.rd (by omega)).mono ?_
      rintro e u7 ⟨rfl, hb7⟩
      have hs7 := hb7.size
      have bw7 : Below w.heap.size w u7 := bw6.trans (hb7.mono (by omega))
      have o_b_7 := o_b_6.below hb7
      have o_p_7 := o_p_6.below hb7
      have o_q_7 := o_q_6.below hb7
      have o_x_7 := o_x_6.below hb7
      clear o_b_6 o_p_6 o_q_6 o_x_6 bw6
      go_wp2_with fail
      refine (HT2.out u7 o_b_7.rd).mono ?_
      rintro e u8 ⟨rfl, hb8⟩
      have hs8 := hb8.size
      have bw8 : Below w.heap.size w u8 := bw7.trans (hb8.mono (by omega))
      have o_b_8 := o_b_7.below hb8
      have o_p_8 := o_p_7.below hb8
      have o_q_8 := o_q_7.below hb8
      have o_x_8 := o_x_7.below hb8
      clear o_b_7 o_p_7 o_q_7 o_x_7 bw7
      go_wp2_with fail
      go_ret
      exact ⟨rfl, bw8⟩

set_option maxRecDepth 100000 in
theorem lifted (os : Os) (started : os.Started) (H : Type) (enc : TypeId × Value → H) :
    ReturnsInHanded {} Try.checked os 5 .any (Rows.fnPilesTurnSpec.pre6 enc Try.prog Try.f5 Rows.fnPilesTurnRow.domain false) (Rows.fnPilesTurnSpec.post enc Try.prog Try.f5 false true false false) := by
  refine returnsInHanded_of_change (C := Try.checked) own started (by kernel_rfl) Try.func5
    (ChangeSpec.witness6 (enc := enc) (C := Try.checked) false ⟨#[], #[.slice none 0 0], []⟩ 8 (by kernel_rfl) (by kernel_rfl) (by kernel_rfl) (by kernel_rfl)) ?_
  intro W base args ds gs before hval0 hW hcnd _
  have hval : ∀ (j : Nat) t v, Try.f5.params[j]? = some t → args[j]? = some v → Value.okWide Try.prog W .any base t v := hval0
  have hW' := hW
  obtain ⟨p, q, hA0, hV, rfl, hfz, hnd⟩ := hW
  have hA : DataW.TrodAll enc Try.prog W 0 (fun _ => true) true Try.f5.params.toList args.toList ds p := hA0
  rw [Try.params5] at hA hval
  obtain ⟨v0, vs0, d0, ds0, p0, q0, hargs, rfl, rfl, h0, r0⟩ := trodAll_cons hA
  obtain ⟨rfl, rfl, rfl⟩ := trodAll_nil r0
  obtain rfl : args = #[v0] := by cases args; simp_all
  obtain ⟨rfl, rfl⟩ := trodVars_none hV
  have k0 := h0
  have lt0 : ∀ x ∈ p0, x.block < W.heap.size := by obtain ⟨m, hm⟩ := k0; exact DataW.trod_lt m _ _ _ hm
  obtain ⟨a0, len0, cap0, rfl⟩ := okWide_slice Try.underlying22 (hval 0 22 v0 rfl rfl)
  obtain ⟨z0, w0⟩ : ∃ zs, IsRow .u8 W a0 len0 cap0 zs := by
    obtain ⟨fuel, hf⟩ := h0
    rcases open_ints Try.underlying22 Try.underlying5 (by kernel_rfl) hf with ⟨hcs, _⟩ | ⟨x, l, c, zs, hcs, _, hl, hm, hz, _, hcell, hwz⟩
    · simp [Value.cells] at hcs
      obtain ⟨rfl, rfl, rfl⟩ := hcs
      exact ⟨[], .inl ⟨rfl, rfl, rfl, rfl⟩⟩
    · simp [Value.cells] at hcs
      obtain ⟨rfl, rfl, rfl⟩ := hcs
      exact ⟨zs, .inr ⟨_, rfl, hl, hm, by simpa using hz, hcell, hwz⟩⟩
  clear hA0 hval0
  refine (walk W a0 len0 cap0 z0 w0).mono fun e W' ⟨he, bel⟩ => ?_
  subst he
  exact ⟨_, rfl, _, _, _, [], _, [], hW', trodAll_mk1 (shut_bool Try.underlying4 _), (trodAll_cons_mk (Below.trod laidOut (by kernel_rfl) (of_decide_eq_true (by kernel_rfl)) k0 bel lt0) trodAll_mk0), rfl, bel.frame _, fun h => by cases h⟩

theorem over : Rows.fnPilesTurnRow.holds Try.pinned (OpenSpec.ofChange Rows.fnPilesTurnSpec) :=
  OpenClaim.holds_of_wide 5 Try.f5 rfl rfl rfl rfl rfl rfl rfl ⟨rfl, rfl, rfl, rfl, rfl⟩ rfl rfl rfl rfl rfl (by kernel_rfl) Try.func5 (by kernel_rfl)
    (of_decide_eq_true (by kernel_rfl)) (by unfold Func.isWrapper; first | (rw [if_pos (by decide +kernel)]; kernel_rfl) | (rw [if_neg (by decide +kernel)]; exact ⟨rfl, rfl⟩))
    (fun os started H enc _ => lifted os started H enc)

/-- the statement -/
theorem proved : Rows.FnPilesTurnSaid := over
#print axioms proved
end Go.Proofs.Ytlfgmljgoolbeaa.fnPilesTurn
