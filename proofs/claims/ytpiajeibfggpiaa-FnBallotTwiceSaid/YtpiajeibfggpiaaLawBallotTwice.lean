/- FnBallotTwice: whatever its arguments are, the law FnBallotTwice of the given program returns true, and leaves all memory as it was. -/
import Derived.Test.YtpiajeibfggpiaaKit
import Derived.Test.YtpiajeibfggpiaaLawKit
import Derived.Test.YtpiajeibfggpiaaDraws
namespace Go.Proofs.Ytpiajeibfggpiaa.fnBallotTwice
open Go.ChangeShapes Go.WideShapes Go.ChangeAt Go.RowKit Go.Joins
open Go.ChangeMaps (open_string shut_string)
set_option linter.unusedVariables false

set_option maxHeartbeats 800000 in
/-- the walk -/
theorem walk (w : World) (a0 : Option Addr) (len0 cap0 : Nat) (z0 : List Int) (w0 : IsRow .u8 w a0 len0 cap0 z0) :
    Calls Try.prog 12 #[.slice a0 len0 cap0] w fun e w' => e = .returned (.bool true) ∧ Below w.heap.size w w' := by
  by_cases hl0 : (1048576 : Int) < (len0 : Int)
  · go_enter Try.func12, Try.ntmps12
    go_wp2_with fail
    go_ret
    exact ⟨rfl, Below.refl _ _⟩
  · have hs0_ : len0 ≤ 1048576 := by omega
    go_enter Try.func12, Try.ntmps12
    go_wp2_with fail
    refine (drawBallotParse_any a0 len0 cap0 z0 w w0).mono ?_
    rintro e u1 ⟨S, rfl, hz, hb1⟩
    have hs1 := hb1.size
    have bw1 : Below w.heap.size w u1 := hb1.mono (by omega)
    have HI := Lib.hid (fun u => iBallotParse_any S u (by omega))
    have HSP := Lib.hid (fun u => sBallotParse_any S u (by omega))
    cases hv : Bal.okT S.data.toList with
    | false =>
      have hi := HI.out; rw [hv, Bal.parse_f hv] at hi; have HI2 := Lib.hid hi
      have hs := HSP.out; rw [hv, Bal.parse_f hv] at hs; have HS2 := Lib.hid hs
      clear hi hs hv
      go_wp2_with fail
      refine (HI2.out u1).mono ?_
      rintro e u2 ⟨A_p, n_p, c_p, rfl, ho, hb2⟩
      have hs2 := hb2.size
      have bw2 : Below w.heap.size w u2 := bw1.trans (hb2.mono (by omega))
      clear bw1
      have o_p_2 := ho
      have HN_p := Lib.hid ho.len
      clear ho
      go_wp2_with fail
      refine (HS2.out u2).mono ?_
      rintro e u3 ⟨A_q, n_q, c_q, rfl, ho, hb3⟩
      have hs3 := hb3.size
      have bw3 : Below w.heap.size w u3 := bw2.trans (hb3.mono (by omega))
      have o_p_3 := o_p_2.below hb3
      clear o_p_2 bw2
      have o_q_3 := ho
      have HN_q := Lib.hid ho.len
      clear ho
      have hn_p : n_p ≤ 5 := by have h1 := HN_p.out; simp at h1; omega
      have hn_q : n_q ≤ 5 := by have h1 := HN_q.out; simp at h1; omega
      go_wp2_with fail
      refine (quiet_below (sameInts_any A_p A_q n_p n_q c_p c_q [] [] u3 _ _ o_p_3.rd o_q_3.rd (by omega) (by omega))).mono ?_
      rintro e u4 ⟨rfl, hb4⟩
      have hs4 := hb4.size
      have bw4 : Below w.heap.size w u4 := bw3.trans (hb4.mono (by omega))
      have o_p_4 := o_p_3.below hb4
      have o_q_4 := o_q_3.below hb4
      clear o_p_3 o_q_3 bw3
      go_wp2_with fail
      refine (quiet_below (sameInts_any A_p A_q n_p n_q c_p c_q [] [] u4 _ _ o_p_4.rd o_q_4.rd (by omega) (by omega))).mono ?_
      rintro e u5 ⟨rfl, hb5⟩
      have hs5 := hb5.size
      have bw5 : Below w.heap.size w u5 := bw4.trans (hb5.mono (by omega))
      have o_p_5 := o_p_4.below hb5
      have o_q_5 := o_q_4.below hb5
      clear o_p_4 o_q_4 bw4
      go_wp2_with fail
      go_ret
      exact ⟨rfl, bw5⟩
    | true =>
      have hi := HI.out; rw [hv] at hi; have HI2 := Lib.hid hi
      have hs := HSP.out; rw [hv] at hs; have HS2 := Lib.hid hs
      have hlen := Bal.parse_len S.data.toList
      clear hi hs
      generalize Bal.parse S.data.toList = ps at HI2 HS2 hlen
      clear HI HSP hv
      go_wp2_with fail
      refine (HI2.out u1).mono ?_
      rintro e u2 ⟨A_p, n_p, c_p, rfl, ho, hb2⟩
      have hs2 := hb2.size
      have bw2 : Below w.heap.size w u2 := bw1.trans (hb2.mono (by omega))
      clear bw1
      have o_p_2 := ho
      have HN_p := Lib.hid ho.len
      clear ho
      go_wp2_with fail
      refine (HS2.out u2).mono ?_
      rintro e u3 ⟨A_q, n_q, c_q, rfl, ho, hb3⟩
      have hs3 := hb3.size
      have bw3 : Below w.heap.size w u3 := bw2.trans (hb3.mono (by omega))
      have o_p_3 := o_p_2.below hb3
      clear o_p_2 bw2
      have o_q_3 := ho
      have HN_q := Lib.hid ho.len
      clear ho
      have hn_p : n_p ≤ 5 := by have h1 := HN_p.out; omega
      have hn_q : n_q ≤ 5 := by have h1 := HN_q.out; omega
      go_wp2_with fail
      refine (quiet_below (sameInts_any A_p A_q n_p n_q c_p c_q ps ps u3 _ _ o_p_3.rd o_q_3.rd (by omega) (by omega))).mono ?_
      rintro e u4 ⟨rfl, hb4⟩
      have hs4 := hb4.size
      have bw4 : Below w.heap.size w u4 := bw3.trans (hb4.mono (by omega))
      have o_p_4 := o_p_3.below hb4
      have o_q_4 := o_q_3.below hb4
      clear o_p_3 o_q_3 bw3
      rcases hd : S.data.toList with _ | ⟨b, r⟩
      · have he : S.toList = [] := by rw [ByteArray.toList_eq]; exact hd
        have he2 : S.toList.isEmpty = true := by rw [he]; rfl
        clear hd
        go_wp2_with fail
        refine (quiet_below (sameInts_any A_p A_q n_p n_q c_p c_q ps ps u4 _ _ o_p_4.rd o_q_4.rd (by omega) (by omega))).mono ?_
        rintro e u5 ⟨rfl, hb5⟩
        have hs5 := hb5.size
        have bw5 : Below w.heap.size w u5 := bw4.trans (hb5.mono (by omega))
        have o_p_5 := o_p_4.below hb5
        have o_q_5 := o_q_4.below hb5
        clear o_p_4 o_q_4 bw4
        go_wp2_with fail
        go_ret
        exact ⟨rfl, bw5⟩
      · have he2 : S.toList.isEmpty = false := by rw [ByteArray.toList_eq, hd]; rfl
        have hz1 : 1 ≤ S.size := by have h1 : S.data.toList.length = S.size := by simp
                                    rw [hd] at h1; simp at h1; omega
        have t1 : (S ++ S.extract 0 1).data.toList = S.data.toList ++ [b] := by
          rw [ByteArray.data_append, Array.toList_append, ByteArray.data_extract, Array.toList_extract, hd]; simp
        have n1 := Bal.twice_not_ok b r hd
        have n2 := Bal.f_not_ok S.data.toList
        rw [← t1] at n1
        have t2 : (S ++ ⟨#[102]⟩ : ByteArray).data.toList = S.data.toList ++ [102] := by
          rw [ByteArray.data_append, Array.toList_append]
        rw [← t2] at n2
        have s1 : (S ++ S.extract 0 1).size ≤ 40 := by rw [ByteArray.size_append, ByteArray.size_extract]; omega
        have s2 : (S ++ ⟨#[102]⟩ : ByteArray).size ≤ 40 := by rw [ByteArray.size_append]; have : (⟨#[102]⟩ : ByteArray).size = 1 := rfl; omega
        have h1 := fun u => iBallotParse_any (S ++ S.extract 0 1) u (by omega)
        rw [n1] at h1
        have H1 := Lib.hid h1
        have h2 := fun u => iBallotParse_any (S ++ ⟨#[102]⟩) u (by omega)
        rw [n2] at h2
        have H2 := Lib.hid h2
        clear h1 h2 n1 n2 t1 t2 hd s1 s2
        go_wp2_with fail
        refine (H1.out u4).mono ?_
        rintro e u5 ⟨A_s, n_s, c_s, rfl, ho, hb5⟩
        have hs5 := hb5.size
        have bw5 : Below w.heap.size w u5 := bw4.trans (hb5.mono (by omega))
        have o_p_5 := o_p_4.below hb5
        have o_q_5 := o_q_4.below hb5
        clear o_p_4 o_q_4 bw4
        have o_s_5 := ho
        have HN_s := Lib.hid ho.len
        clear ho
        go_wp2_with fail
        refine (H2.out u5).mono ?_
        rintro e u6 ⟨A_t, n_t, c_t, rfl, ho, hb6⟩
        have hs6 := hb6.size
        have bw6 : Below w.heap.size w u6 := bw5.trans (hb6.mono (by omega))
        have o_p_6 := o_p_5.below hb6
        have o_q_6 := o_q_5.below hb6
        have o_s_6 := o_s_5.below hb6
        clear o_p_5 o_q_5 o_s_5 bw5
        have o_t_6 := ho
        have HN_t := Lib.hid ho.len
        clear ho
        go_wp2_with fail
        go_ret
        exact ⟨rfl, bw6⟩

set_option maxRecDepth 100000 in
theorem lifted (os : Os) (started : os.Started) (H : Type) (enc : TypeId × Value → H) :
    ReturnsInHanded {} Try.checked os 12 .any (Rows.fnBallotTwiceSpec.pre6 enc Try.prog Try.f12 Rows.fnBallotTwiceRow.domain false) (Rows.fnBallotTwiceSpec.post enc Try.prog Try.f12 false true false false) := by
  refine returnsInHanded_of_change (C := Try.checked) own started (by kernel_rfl) Try.func12
    (ChangeSpec.witness6 (enc := enc) (C := Try.checked) false ⟨#[], #[.slice none 0 0], []⟩ 8 (by kernel_rfl) (by kernel_rfl) (by kernel_rfl) (by kernel_rfl)) ?_
  intro W base args ds gs before hval0 hW hcnd _
  have hval : ∀ (j : Nat) t v, Try.f12.params[j]? = some t → args[j]? = some v → Value.okWide Try.prog W .any base t v := hval0
  have hW' := hW
  obtain ⟨p, q, hA0, hV, rfl, hfz, hnd⟩ := hW
  have hA : DataW.TrodAll enc Try.prog W 0 (fun _ => true) true Try.f12.params.toList args.toList ds p := hA0
  rw [Try.params12] at hA hval
  obtain ⟨v0, vs0, d0, ds0, p0, q0, hargs, rfl, rfl, h0, r0⟩ := trodAll_cons hA
  obtain ⟨rfl, rfl, rfl⟩ := trodAll_nil r0
  obtain rfl : args = #[v0] := by cases args; simp_all
  obtain ⟨rfl, rfl⟩ := trodVars_none hV
  have k0 := h0
  have lt0 : ∀ x ∈ p0, x.block < W.heap.size := by obtain ⟨m, hm⟩ := k0; exact DataW.trod_lt m _ _ _ hm
  obtain ⟨a0, len0, cap0, rfl⟩ := okWide_slice Try.underlying22 (hval 0 22 v0 rfl rfl)
  obtain ⟨z0, w0⟩ : ∃ zs, IsRow .u8 W a0 len0 cap0 zs := by
    obtain ⟨fuel, hf⟩ := h0
    rcases open_ints Try.underlying22 Try.underlying5 (by kernel_rfl) hf with ⟨hcs, _⟩ | ⟨x, l, c, zs, hcs, _, hl, hm, hz, _, hcell, hwz⟩
    · simp [Value.cells] at hcs
      obtain ⟨rfl, rfl, rfl⟩ := hcs
      exact ⟨[], .inl ⟨rfl, rfl, rfl, rfl⟩⟩
    · simp [Value.cells] at hcs
      obtain ⟨rfl, rfl, rfl⟩ := hcs
      exact ⟨zs, .inr ⟨_, rfl, hl, hm, by simpa using hz, hcell, hwz⟩⟩
  clear hA0 hval0
  refine (walk W a0 len0 cap0 z0 w0).mono fun e W' ⟨he, bel⟩ => ?_
  subst he
  exact ⟨_, rfl, _, _, _, [], _, [], hW', trodAll_mk1 (shut_bool Try.underlying4 _), (trodAll_cons_mk (Below.trod laidOut (by kernel_rfl) (of_decide_eq_true (by kernel_rfl)) k0 bel lt0) trodAll_mk0), rfl, bel.frame _, fun h => by cases h⟩

theorem over : Rows.fnBallotTwiceRow.holds Try.pinned (OpenSpec.ofChange Rows.fnBallotTwiceSpec) :=
  OpenClaim.holds_of_wide 12 Try.f12 rfl rfl rfl rfl rfl rfl rfl ⟨rfl, rfl, rfl, rfl, rfl⟩ rfl rfl rfl rfl rfl (by kernel_rfl) Try.func12 (by kernel_rfl)
    (of_decide_eq_true (by kernel_rfl)) (by unfold Func.isWrapper; first | (rw [if_pos (by decide +kernel)]; kernel_rfl) | (rw [if_neg (by decide +kernel)]; exact ⟨rfl, rfl⟩))
    (fun os started H enc _ => lifted os started H enc)

/-- the statement -/
theorem proved : Rows.FnBallotTwiceSaid := over
#print axioms proved
end Go.Proofs.Ytpiajeibfggpiaa.fnBallotTwice
