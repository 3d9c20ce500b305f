/- FnMarksOrder: whatever its arguments are, the law FnMarksOrder of the given program returns true, and leaves all memory as it was. -/
import Derived.Test.YtcaiddggokpmoaaKit
import Derived.Test.YtcaiddggokpmoaaLawKit
import Derived.Test.YtcaiddggokpmoaaDrawMa
import Derived.Test.YtcaiddggokpmoaaMaLaws
namespace Go.Proofs.Ytcaiddggokpmoaa.fnMarksOrder
open Go.ChangeShapes Go.WideShapes Go.ChangeAt Go.RowKit Go.Joins
open Go.ChangeMaps (open_string shut_string)
set_option linter.unusedVariables false

set_option maxHeartbeats 3200000 in
/-- the walk -/
theorem walk (w : World) (a0 : Option Addr) (len0 cap0 : Nat) (z0 : List Int) (w0 : IsRow .u8 w a0 len0 cap0 z0) :
    Calls Try.prog 7 #[.slice a0 len0 cap0] w fun e w' => e = .returned (.bool true) ∧ Below w.heap.size w w' := by
  by_cases hl0 : (1048576 : Int) < (len0 : Int)
  · go_enter Try.func7, Try.ntmps7
    go_wp2_with fail
    go_ret
    exact ⟨rfl, Below.refl _ _⟩
  · have hs0_ : len0 ≤ 1048576 := by omega
    go_enter Try.func7, Try.ntmps7
    go_wp2_with fail
    refine (drawMarksRead_any a0 len0 cap0 z0 w w0).mono ?_
    rintro e u1 ⟨A, n, c, xs, rfl, ho, hn, hb1⟩
    have hs1 := hb1.size
    have bw1 : Below w.heap.size w u1 := hb1.mono (by omega)
    obtain ⟨hc1, hc2⟩ := ho.cap
    have hBw : w.heap.size ≤ w.heap.size := Nat.le_refl _
    have HLN := Lib.hid ho.len
    have o_b_1 := ho
    clear ho
    have HI := Lib.hid (fun u (h : RdI u u.heap.size A n xs) => iMarksRead_any A n c xs u h hc1 (by omega) hc2)
    have HSP := Lib.hid (fun u (h : RdI u u.heap.size A n xs) => sMarksRead_any A n c xs u h (by omega))
    have HML := Lib.hid (Ma.mread_len xs)
    obtain ⟨ms, hms⟩ : ∃ ms, ms = Ma.mread xs := ⟨_, rfl⟩
    have hi := HI.out; rw [← hms] at hi; have HI3 := Lib.hid hi
    have hs := HSP.out; rw [← hms] at hs; have HS3 := Lib.hid hs
    have hl := HML.out; rw [← hms] at hl
    have HMS := Lib.hid hms
    clear hi hs HI HSP HML hms
    cases hv : Ma.mv xs with
    | false =>
      have hi := HI3.out; rw [hv] at hi; have HI2 := Lib.hid hi
      have hs := HS3.out; rw [hv] at hs; have HS2 := Lib.hid hs
      have HV := Lib.hid hv
      clear hi hs HI3 HS3 hv
      go_wp2_with fail
      refine (HI2.out u1 o_b_1.rd).mono ?_
      rintro e u2 ⟨A_p, n_p, c_p, rfl, ho, hb2⟩
      have hs2 := hb2.size
      have bw2 : Below w.heap.size w u2 := bw1.trans (hb2.mono (by omega))
      have o_b_2 := o_b_1.below hb2
      clear o_b_1 bw1
      have o_p_2 := ho
      have HN_p := Lib.hid ho.len
      clear ho
      go_wp2_with fail
      refine (HS2.out u2 o_b_2.rd).mono ?_
      rintro e u3 ⟨A_q, n_q, c_q, rfl, ho, hb3⟩
      have hs3 := hb3.size
      have bw3 : Below w.heap.size w u3 := bw2.trans (hb3.mono (by omega))
      have o_b_3 := o_b_2.below hb3
      have o_p_3 := o_p_2.below hb3
      clear o_b_2 o_p_2 bw2
      have o_q_3 := ho
      have HN_q := Lib.hid ho.len
      clear ho
      have hn_p : n_p ≤ 9 := by have h1 := HN_p.out; omega
      have hn_q : n_q ≤ 9 := by have h1 := HN_q.out; omega
      go_wp2_with fail
      refine (quiet_below (sameInts_any A_p A_q n_p n_q c_p c_q ms ms u3 _ _ o_p_3.rd o_q_3.rd (by omega) (by omega))).mono ?_
      rintro e u4 ⟨rfl, hb4⟩
      have hs4 := hb4.size
      have bw4 : Below w.heap.size w u4 := bw3.trans (hb4.mono (by omega))
      have o_b_4 := o_b_3.below hb4
      have o_p_4 := o_p_3.below hb4
      have o_q_4 := o_q_3.below hb4
      clear o_b_3 o_p_3 o_q_3 bw3
      go_wp2_with fail
      refine (quiet_below (sameInts_any A_p A_q n_p n_q c_p c_q ms ms u4 _ _ o_p_4.rd o_q_4.rd (by omega) (by omega))).mono ?_
      rintro e u5 ⟨rfl, hb5⟩
      have hs5 := hb5.size
      have bw5 : Below w.heap.size w u5 := bw4.trans (hb5.mono (by omega))
      have o_b_5 := o_b_4.below hb5
      have o_p_5 := o_p_4.below hb5
      have o_q_5 := o_q_4.below hb5
      clear o_b_4 o_p_4 o_q_4 bw4
      go_wp2_with fail
      go_ret
      exact ⟨rfl, bw5⟩
    | true =>
      have hi := HI3.out; rw [hv] at hi; have HI2 := Lib.hid hi
      have hs := HS3.out; rw [hv] at hs; have HS2 := Lib.hid hs
      have HV := Lib.hid hv
      clear hi hs HI3 HS3 hv
      go_wp2_with fail
      refine (HI2.out u1 o_b_1.rd).mono ?_
      rintro e u2 ⟨A_p, n_p, c_p, rfl, ho, hb2⟩
      have hs2 := hb2.size
      have bw2 : Below w.heap.size w u2 := bw1.trans (hb2.mono (by omega))
      have o_b_2 := o_b_1.below hb2
      clear o_b_1 bw1
      have o_p_2 := ho
      have HN_p := Lib.hid ho.len
      clear ho
      go_wp2_with fail
      refine (HS2.out u2 o_b_2.rd).mono ?_
      rintro e u3 ⟨A_q, n_q, c_q, rfl, ho, hb3⟩
      have hs3 := hb3.size
      have bw3 : Below w.heap.size w u3 := bw2.trans (hb3.mono (by omega))
      have o_b_3 := o_b_2.below hb3
      have o_p_3 := o_p_2.below hb3
      clear o_b_2 o_p_2 bw2
      have o_q_3 := ho
      have HN_q := Lib.hid ho.len
      clear ho
      have hn_p : n_p ≤ 9 := by have h1 := HN_p.out; omega
      have hn_q : n_q ≤ 9 := by have h1 := HN_q.out; omega
      go_wp2_with fail
      refine (quiet_below (sameInts_any A_p A_q n_p n_q c_p c_q ms ms u3 _ _ o_p_3.rd o_q_3.rd (by omega) (by omega))).mono ?_
      rintro e u4 ⟨rfl, hb4⟩
      have hs4 := hb4.size
      have bw4 : Below w.heap.size w u4 := bw3.trans (hb4.mono (by omega))
      have o_b_4 := o_b_3.below hb4
      have o_p_4 := o_p_3.below hb4
      have o_q_4 := o_q_3.below hb4
      clear o_b_3 o_p_3 o_q_3 bw3
      have HM := Lib.hid (Ma.mv_iff.1 HV.out).1
      obtain ⟨hp1, hp2⟩ := o_p_4.cap
      have HE := Lib.hid (OwA.empty u4 u4.heap.size (Nat.le_refl _))
      have HB9 := Lib.hid o_b_4
      have HP9 := Lib.hid o_p_4
      have hzw := bw4.size
      clear o_b_4 o_p_4
      go_wp2_with fail
      go_loopw [8, 9] (fun v i wr => ∃ (k : Nat) (A' : Option Addr) (c' : Nat), k ≤ n ∧ i = .int .i64 k ∧ v = .slice A' k c' ∧ OwA wr u4.heap.size A' k c' ((xs.map Ma.sh).take k) ∧ (∀ x, x ∈ xs.take k → x ≠ 9) ∧ Below u4.heap.size u4 wr) (fun _ i _ => n - (intOf i).toNat)
      case atStart => exact ⟨0, _, _, Nat.zero_le _, rfl, rfl, HE.out, by simp, (Below.refl _ _).alloc (Nat.le_refl _) _⟩
      case round =>
        obtain ⟨k, A', c', hk, rfl, rfl, ho, h9, hb⟩ := hrel
        have HO := Lib.hid ho
        have H9 := Lib.hid h9
        clear ho h9
        have hBs := hb.size
        have hbw : Below w.heap.size w wr := bw4.trans (hb.mono hzw)
        by_cases hlt : k < n
        · have hk' : k < xs.length := by have := HLN.out; omega
          obtain ⟨b, off, rfl, hbB, hcell⟩ := (HB9.out.below hb).rd.at_ hlt hk'
          obtain ⟨y0, y1⟩ := HM.out xs[k] (List.getElem_mem hk')
          have hlt' : (k : Int) < (n : Int) := by omega
          have hk0 : (0 : Int) ≤ (k : Int) := by omega
          have HT := Lib.hid (Bal.take_succ_get xs k hk')
          generalize xs[k] = y at hcell HT y0 y1
          by_cases h9 : y = 9
          · subst h9
            go_wp2_with fail
            go_ret
            exact ⟨rfl, hbw⟩
          · have h9' : (y == 9) = false := by simpa using h9
            have HN9 : Hid (∀ x, x ∈ xs.take (k + 1) → x ≠ 9) := Lib.hid (fun x hx => by
              rw [HT.out] at hx
              rcases List.mem_append.1 hx with h | h
              · exact H9.out x h
              · rw [List.mem_singleton] at h; rw [h]; exact h9)
            clear h9
            have hwy : IntKind.i64.wrap (y + 1) = y + 1 := IntWalk.i64_in _ (by omega)
            by_cases hy0 : 0 < y
            · have HX : Hid ((xs.map Ma.sh).take k ++ [y + 1] = (xs.map Ma.sh).take (k + 1)) := Lib.hid (by rw [← List.map_take, ← List.map_take, HT.out, List.map_append]; simp [Ma.sh, hy0])
              go_wp2_with (at_builtin; refine wpList_app1 (by rfl) _ _ (by rfl) _ u4.heap.size A' k c' _ _ (by rfl) HO.out (by rfl) (by omega) hBs ?_)
              intro g5 c5 w5 ho5 hb5 _ _
              have hb6 := hb.trans hb5
              rw [HX.out] at ho5
              have HO5 := Lib.hid ho5
              clear ho5 hb5 hb
              go_wp2_with fail
              go_roundw
              case rel => exact ⟨k + 1, _, _, by omega, by go_num, rfl, HO5.out, HN9.out, hb6⟩
              case measure => simp [intOf]; omega
            · have HX : Hid ((xs.map Ma.sh).take k ++ [y] = (xs.map Ma.sh).take (k + 1)) := Lib.hid (by rw [← List.map_take, ← List.map_take, HT.out, List.map_append]; simp [Ma.sh, hy0])
              go_wp2_with (at_builtin; refine wpList_app1 (by rfl) _ _ (by rfl) _ u4.heap.size A' k c' _ _ (by rfl) HO.out (by rfl) (by omega) hBs ?_)
              intro g5 c5 w5 ho5 hb5 _ _
              have hb6 := hb.trans hb5
              rw [HX.out] at ho5
              have HO5 := Lib.hid ho5
              clear ho5 hb5 hb
              go_wp2_with fail
              go_roundw
              case rel => exact ⟨k + 1, _, _, by omega, by go_num, rfl, HO5.out, HN9.out, hb6⟩
              case measure => simp [intOf]; omega
        · obtain rfl : k = n := by omega
          have hlt' : ¬ (k : Int) < (k : Int) := by omega
          have htk : xs.take k = xs := List.take_of_length_le (by have := HLN.out; omega)
          have htm : (xs.map Ma.sh).take k = xs.map Ma.sh := List.take_of_length_le (by have := HLN.out; simp; omega)
          have ho2 := HO.out
          have h92 := H9.out
          rw [htm] at ho2
          rw [htk] at h92
          obtain ⟨k1, k2⟩ := ho2.cap
          have hF := Ma.mread_sh HV.out h92
          have hMR := iMarksRead_any A' k c' _ wr ho2.rd k1 (by omega) k2
          rw [hF.1, hF.2, ← HMS.out] at hMR
          have HMR := Lib.hid hMR
          have HPw := Lib.hid (HP9.out.below hb)
          clear hMR hF ho2 h92 htk htm hb
          go_wp2_with fail
          refine HMR.out.mono ?_
          rintro e v1 ⟨A_r, n_r, c_r, rfl, hor, hbr⟩
          have hbw2 : Below w.heap.size w v1 := hbw.trans (hbr.mono hbw.size)
          have HPv := Lib.hid (HPw.out.below hbr)
          have hnr : n_r ≤ 9 := by have := hor.len; omega
          have HOR := Lib.hid hor
          clear hor hbr hbw
          go_wp2_with fail
          refine (quiet_below (sameInts_any A_r A_p n_r n_p c_r c_p ms ms v1 _ _ HOR.out.rd HPv.out.rd (by omega) (by omega))).mono ?_
          rintro e v2 ⟨rfl, hb2⟩
          have hbw3 : Below w.heap.size w v2 := hbw2.trans (hb2.mono hbw2.size)
          go_wp2_with fail
          go_ret
          exact ⟨rfl, hbw3⟩

set_option maxRecDepth 100000 in
theorem lifted (os : Os) (started : os.Started) (H : Type) (enc : TypeId × Value → H) :
    ReturnsInHanded {} Try.checked os 7 .any (Rows.fnMarksOrderSpec.pre6 enc Try.prog Try.f7 Rows.fnMarksOrderRow.domain false) (Rows.fnMarksOrderSpec.post enc Try.prog Try.f7 false true false false) := by
  refine returnsInHanded_of_change (C := Try.checked) own started (by kernel_rfl) Try.func7
    (ChangeSpec.witness6 (enc := enc) (C := Try.checked) false ⟨#[], #[.slice none 0 0], []⟩ 8 (by kernel_rfl) (by kernel_rfl) (by kernel_rfl) (by kernel_rfl)) ?_
  intro W base args ds gs before hval0 hW hcnd _
  have hval : ∀ (j : Nat) t v, Try.f7.params[j]? = some t → args[j]? = some v → Value.okWide Try.prog W .any base t v := hval0
  have hW' := hW
  obtain ⟨p, q, hA0, hV, rfl, hfz, hnd⟩ := hW
  have hA : DataW.TrodAll enc Try.prog W 0 (fun _ => true) true Try.f7.params.toList args.toList ds p := hA0
  rw [Try.params7] at hA hval
  obtain ⟨v0, vs0, d0, ds0, p0, q0, hargs, rfl, rfl, h0, r0⟩ := trodAll_cons hA
  obtain ⟨rfl, rfl, rfl⟩ := trodAll_nil r0
  obtain rfl : args = #[v0] := by cases args; simp_all
  obtain ⟨rfl, rfl⟩ := trodVars_none hV
  have k0 := h0
  have lt0 : ∀ x ∈ p0, x.block < W.heap.size := by obtain ⟨m, hm⟩ := k0; exact DataW.trod_lt m _ _ _ hm
  obtain ⟨a0, len0, cap0, rfl⟩ := okWide_slice Try.underlying31 (hval 0 31 v0 rfl rfl)
  obtain ⟨z0, w0⟩ : ∃ zs, IsRow .u8 W a0 len0 cap0 zs := by
    obtain ⟨fuel, hf⟩ := h0
    rcases open_ints Try.underlying31 Try.underlying5 (by kernel_rfl) hf with ⟨hcs, _⟩ | ⟨x, l, c, zs, hcs, _, hl, hm, hz, _, hcell, hwz⟩
    · simp [Value.cells] at hcs
      obtain ⟨rfl, rfl, rfl⟩ := hcs
      exact ⟨[], .inl ⟨rfl, rfl, rfl, rfl⟩⟩
    · simp [Value.cells] at hcs
      obtain ⟨rfl, rfl, rfl⟩ := hcs
      exact ⟨zs, .inr ⟨_, rfl, hl, hm, by simpa using hz, hcell, hwz⟩⟩
  clear hA0 hval0
  refine (walk W a0 len0 cap0 z0 w0).mono fun e W' ⟨he, bel⟩ => ?_
  subst he
  exact ⟨_, rfl, _, _, _, [], _, [], hW', trodAll_mk1 (shut_bool Try.underlying4 _), (trodAll_cons_mk (Below.trod laidOut (by kernel_rfl) (of_decide_eq_true (by kernel_rfl)) k0 bel lt0) trodAll_mk0), rfl, bel.frame _, fun h => by cases h⟩

theorem over : Rows.fnMarksOrderRow.holds Try.pinned (OpenSpec.ofChange Rows.fnMarksOrderSpec) :=
  OpenClaim.holds_of_wide 7 Try.f7 rfl rfl rfl rfl rfl rfl rfl ⟨rfl, rfl, rfl, rfl, rfl⟩ rfl rfl rfl rfl rfl (by kernel_rfl) Try.func7 (by kernel_rfl)
    (of_decide_eq_true (by kernel_rfl)) (by unfold Func.isWrapper; first | (rw [if_pos (by decide +kernel)]; kernel_rfl) | (rw [if_neg (by decide +kernel)]; exact ⟨rfl, rfl⟩))
    (fun os started H enc _ => lifted os started H enc)

/-- the statement -/
theorem proved : Rows.FnMarksOrderSaid := over
#print axioms proved
end Go.Proofs.Ytcaiddggokpmoaa.fnMarksOrder
