/- FnMarksOf: whatever its arguments are, the law FnMarksOf of the given program returns true, and leaves all memory as it was. -/
import Derived.Test.YtcaiddggokpmoaaKit
import Derived.Test.YtcaiddggokpmoaaLawKit
import Derived.Test.YtcaiddggokpmoaaDrawMa
import Derived.Test.YtcaiddggokpmoaaMaFacts
namespace Go.Proofs.Ytcaiddggokpmoaa.fnMarksOf
open Go.ChangeShapes Go.WideShapes Go.ChangeAt Go.RowKit Go.Joins
open Go.ChangeMaps (open_string shut_string)
set_option linter.unusedVariables false

set_option maxHeartbeats 3200000 in
/-- the walk -/
theorem walk (w : World) (a0 : Option Addr) (len0 cap0 : Nat) (z0 : List Int) (w0 : IsRow .u8 w a0 len0 cap0 z0) :
    Calls Try.prog 5 #[.slice a0 len0 cap0] w fun e w' => e = .returned (.bool true) ∧ Below w.heap.size w w' := by
  by_cases hl0 : (1048576 : Int) < (len0 : Int)
  · go_enter Try.func5, Try.ntmps5
    go_wp2_with fail
    go_ret
    exact ⟨rfl, Below.refl _ _⟩
  · have hs0_ : len0 ≤ 1048576 := by omega
    go_enter Try.func5, Try.ntmps5
    go_wp2_with fail
    refine (drawMarksOf_any a0 len0 cap0 z0 w w0).mono ?_
    rintro e u1 ⟨A, n, c, xs, m, rfl, ho, hn, hm0, hm7, hb1⟩
    have hs1 := hb1.size
    have bw1 : Below w.heap.size w u1 := hb1.mono (by omega)
    obtain ⟨hc1, hc2⟩ := ho.cap
    have hBw : w.heap.size ≤ w.heap.size := Nat.le_refl _
    have HLN := Lib.hid ho.len
    have o_b_1 := ho
    clear ho
    have HI := Lib.hid (fun u (h : RdI u u.heap.size A n xs) => iMarksOf_any A n c xs m u h hc1 (by omega) hc2)
    have HSP := Lib.hid (fun u (h : RdI u u.heap.size A n xs) => sMarksOf_any A n c xs m u h hc1 (by omega) hc2)
    have HML := Lib.hid (Ma.marksOf_len xs m)
    cases hv : Bal.bv xs m with
    | false =>
      have hi := HI.out; rw [hv] at hi; have HI2 := Lib.hid hi
      have hs := HSP.out; rw [hv] at hs; have HS2 := Lib.hid hs
      obtain ⟨ms, hms⟩ : ∃ ms, ms = Ma.marksOf xs m := ⟨_, rfl⟩
      have hi := HI2.out; rw [← hms] at hi; have HI3 := Lib.hid hi
      have hs := HS2.out; rw [← hms] at hs; have HS3 := Lib.hid hs
      have hl := HML.out; rw [← hms] at hl
      clear hi hs HI2 HS2 hms hv HI HSP HML
      go_wp2_with fail
      refine (HI3.out u1 o_b_1.rd).mono ?_
      rintro e u2 ⟨A_p, n_p, c_p, rfl, ho, hb2⟩
      have hs2 := hb2.size
      have bw2 : Below w.heap.size w u2 := bw1.trans (hb2.mono (by omega))
      have o_b_2 := o_b_1.below hb2
      clear o_b_1 bw1
      have o_p_2 := ho
      have HN_p := Lib.hid ho.len
      clear ho
      go_wp2_with fail
      refine (HS3.out u2 o_b_2.rd).mono ?_
      rintro e u3 ⟨A_q, n_q, c_q, rfl, ho, hb3⟩
      have hs3 := hb3.size
      have bw3 : Below w.heap.size w u3 := bw2.trans (hb3.mono (by omega))
      have o_b_3 := o_b_2.below hb3
      have o_p_3 := o_p_2.below hb3
      clear o_b_2 o_p_2 bw2
      have o_q_3 := ho
      have HN_q := Lib.hid ho.len
      clear ho
      have hn_p : n_p ≤ 5 := by have h1 := HN_p.out; omega
      have hn_q : n_q ≤ 5 := by have h1 := HN_q.out; omega
      go_wp2_with fail
      refine (quiet_below (sameInts_any A_p A_q n_p n_q c_p c_q ms ms u3 _ _ o_p_3.rd o_q_3.rd (by omega) (by omega))).mono ?_
      rintro e u4 ⟨rfl, hb4⟩
      have hs4 := hb4.size
      have bw4 : Below w.heap.size w u4 := bw3.trans (hb4.mono (by omega))
      have o_b_4 := o_b_3.below hb4
      have o_p_4 := o_p_3.below hb4
      have o_q_4 := o_q_3.below hb4
      clear o_b_3 o_p_3 o_q_3 bw3
      go_wp2_with fail
      refine (quiet_below (sameInts_any A_p A_q n_p n_q c_p c_q ms ms u4 _ _ o_p_4.rd o_q_4.rd (by omega) (by omega))).mono ?_
      rintro e u5 ⟨rfl, hb5⟩
      have hs5 := hb5.size
      have bw5 : Below w.heap.size w u5 := bw4.trans (hb5.mono (by omega))
      have o_b_5 := o_b_4.below hb5
      have o_p_5 := o_p_4.below hb5
      have o_q_5 := o_q_4.below hb5
      clear o_b_4 o_p_4 o_q_4 bw4
      go_wp2_with fail
      go_ret
      exact ⟨rfl, bw5⟩
    | true =>
      have hm1 := (Bal.bv_iff.1 hv).1
      obtain ⟨m', rfl⟩ : ∃ m' : Nat, m = m' := ⟨m.toNat, by omega⟩
      have hR := Ma.read_marksOf hv
      have hi := HI.out; rw [hv] at hi; have HI2 := Lib.hid hi
      have hs := HSP.out; rw [hv] at hs; have HS2 := Lib.hid hs
      obtain ⟨ms, hms⟩ : ∃ ms, ms = Ma.marksOf xs (m' : Int) := ⟨_, rfl⟩
      have hi := HI2.out; rw [← hms] at hi; have HI3 := Lib.hid hi
      have hs := HS2.out; rw [← hms] at hs; have HS3 := Lib.hid hs
      rw [← hms] at hR
      have HRM := Lib.hid hR.1
      have HRR := Lib.hid hR.2.1
      have HRL := Lib.hid hR.2.2
      clear hi hs HI2 HS2 hms hv HI HSP HML hR
      go_wp2_with fail
      refine (HI3.out u1 o_b_1.rd).mono ?_
      rintro e u2 ⟨A_p, n_p, c_p, rfl, ho, hb2⟩
      have hs2 := hb2.size
      have bw2 : Below w.heap.size w u2 := bw1.trans (hb2.mono (by omega))
      have o_b_2 := o_b_1.below hb2
      clear o_b_1 bw1
      have o_p_2 := ho
      have HN_p := Lib.hid ho.len
      clear ho
      go_wp2_with fail
      refine (HS3.out u2 o_b_2.rd).mono ?_
      rintro e u3 ⟨A_q, n_q, c_q, rfl, ho, hb3⟩
      have hs3 := hb3.size
      have bw3 : Below w.heap.size w u3 := bw2.trans (hb3.mono (by omega))
      have o_b_3 := o_b_2.below hb3
      have o_p_3 := o_p_2.below hb3
      clear o_b_2 o_p_2 bw2
      have o_q_3 := ho
      have HN_q := Lib.hid ho.len
      clear ho
      obtain rfl : n_p = m' := by have h1 := HN_p.out; have h2 := HRL.out; omega
      have hn_q : n_q ≤ 7 := by have h1 := HN_q.out; have h2 := HRL.out; omega
      obtain ⟨hp1, hp2⟩ := o_p_3.cap
      have hMR := fun u (h : RdI u u.heap.size A_p n_p ms) => iMarksRead_any A_p n_p c_p ms u h hp1 (by omega) hp2
      rw [HRM.out, HRR.out] at hMR
      have HMR := Lib.hid hMR
      clear hMR
      go_wp2_with fail
      refine (quiet_below (sameInts_any A_p A_q n_p n_q c_p c_q ms ms u3 _ _ o_p_3.rd o_q_3.rd (by omega) (by omega))).mono ?_
      rintro e u4 ⟨rfl, hb4⟩
      have hs4 := hb4.size
      have bw4 : Below w.heap.size w u4 := bw3.trans (hb4.mono (by omega))
      have o_b_4 := o_b_3.below hb4
      have o_p_4 := o_p_3.below hb4
      have o_q_4 := o_q_3.below hb4
      clear o_b_3 o_p_3 o_q_3 bw3
      go_wp2_with fail
      refine (HMR.out u4 o_p_4.rd).mono ?_
      rintro e u5 ⟨A_r, n_r, c_r, rfl, ho, hb5⟩
      have hs5 := hb5.size
      have bw5 : Below w.heap.size w u5 := bw4.trans (hb5.mono (by omega))
      have o_b_5 := o_b_4.below hb5
      have o_p_5 := o_p_4.below hb5
      have o_q_5 := o_q_4.below hb5
      clear o_b_4 o_p_4 o_q_4 bw4
      have o_r_5 := ho
      have HN_r := Lib.hid ho.len
      clear ho
      have hn_r : n_r ≤ 4194304 := by have h1 := HN_r.out; have h2 := HLN.out; omega
      go_wp2_with fail
      refine (quiet_below (sameInts_any A_r A n_r n c_r c xs xs u5 _ _ o_r_5.rd o_b_5.rd (by omega) (by omega))).mono ?_
      rintro e u6 ⟨rfl, hb6⟩
      have hs6 := hb6.size
      have bw6 : Below w.heap.size w u6 := bw5.trans (hb6.mono (by omega))
      have o_b_6 := o_b_5.below hb6
      have o_p_6 := o_p_5.below hb6
      have o_q_6 := o_q_5.below hb6
      have o_r_6 := o_r_5.below hb6
      clear o_b_5 o_p_5 o_q_5 o_r_5 bw5
      go_wp2_with fail
      go_ret
      exact ⟨rfl, bw6⟩

set_option maxRecDepth 100000 in
theorem lifted (os : Os) (started : os.Started) (H : Type) (enc : TypeId × Value → H) :
    ReturnsInHanded {} Try.checked os 5 .any (Rows.fnMarksOfSpec.pre6 enc Try.prog Try.f5 Rows.fnMarksOfRow.domain false) (Rows.fnMarksOfSpec.post enc Try.prog Try.f5 false true false false) := by
  refine returnsInHanded_of_change (C := Try.checked) own started (by kernel_rfl) Try.func5
    (ChangeSpec.witness6 (enc := enc) (C := Try.checked) false ⟨#[], #[.slice none 0 0], []⟩ 8 (by kernel_rfl) (by kernel_rfl) (by kernel_rfl) (by kernel_rfl)) ?_
  intro W base args ds gs before hval0 hW hcnd _
  have hval : ∀ (j : Nat) t v, Try.f5.params[j]? = some t → args[j]? = some v → Value.okWide Try.prog W .any base t v := hval0
  have hW' := hW
  obtain ⟨p, q, hA0, hV, rfl, hfz, hnd⟩ := hW
  have hA : DataW.TrodAll enc Try.prog W 0 (fun _ => true) true Try.f5.params.toList args.toList ds p := hA0
  rw [Try.params5] at hA hval
  obtain ⟨v0, vs0, d0, ds0, p0, q0, hargs, rfl, rfl, h0, r0⟩ := trodAll_cons hA
  obtain ⟨rfl, rfl, rfl⟩ := trodAll_nil r0
  obtain rfl : args = #[v0] := by cases args; simp_all
  obtain ⟨rfl, rfl⟩ := trodVars_none hV
  have k0 := h0
  have lt0 : ∀ x ∈ p0, x.block < W.heap.size := by obtain ⟨m, hm⟩ := k0; exact DataW.trod_lt m _ _ _ hm
  obtain ⟨a0, len0, cap0, rfl⟩ := okWide_slice Try.underlying31 (hval 0 31 v0 rfl rfl)
  obtain ⟨z0, w0⟩ : ∃ zs, IsRow .u8 W a0 len0 cap0 zs := by
    obtain ⟨fuel, hf⟩ := h0
    rcases open_ints Try.underlying31 Try.underlying5 (by kernel_rfl) hf with ⟨hcs, _⟩ | ⟨x, l, c, zs, hcs, _, hl, hm, hz, _, hcell, hwz⟩
    · simp [Value.cells] at hcs
      obtain ⟨rfl, rfl, rfl⟩ := hcs
      exact ⟨[], .inl ⟨rfl, rfl, rfl, rfl⟩⟩
    · simp [Value.cells] at hcs
      obtain ⟨rfl, rfl, rfl⟩ := hcs
      exact ⟨zs, .inr ⟨_, rfl, hl, hm, by simpa using hz, hcell, hwz⟩⟩
  clear hA0 hval0
  refine (walk W a0 len0 cap0 z0 w0).mono fun e W' ⟨he, bel⟩ => ?_
  subst he
  exact ⟨_, rfl, _, _, _, [], _, [], hW', trodAll_mk1 (shut_bool Try.underlying4 _), (trodAll_cons_mk (Below.trod laidOut (by kernel_rfl) (of_decide_eq_true (by kernel_rfl)) k0 bel lt0) trodAll_mk0), rfl, bel.frame _, fun h => by cases h⟩

theorem over : Rows.fnMarksOfRow.holds Try.pinned (OpenSpec.ofChange Rows.fnMarksOfSpec) :=
  OpenClaim.holds_of_wide 5 Try.f5 rfl rfl rfl rfl rfl rfl rfl ⟨rfl, rfl, rfl, rfl, rfl⟩ rfl rfl rfl rfl rfl (by kernel_rfl) Try.func5 (by kernel_rfl)
    (of_decide_eq_true (by kernel_rfl)) (by unfold Func.isWrapper; first | (rw [if_pos (by decide +kernel)]; kernel_rfl) | (rw [if_neg (by decide +kernel)]; exact ⟨rfl, rfl⟩))
    (fun os started H enc _ => lifted os started H enc)

/-- the statement -/
theorem proved : Rows.FnMarksOfSaid := over
#print axioms proved
end Go.Proofs.Ytcaiddggokpmoaa.fnMarksOf
