/- FnMarksAgree: whatever its arguments are, the law FnMarksAgree of the given program returns true, and leaves all memory as it was. -/
import Derived.Test.YtnolnlhoedafcaaKit
import Derived.Test.YtnolnlhoedafcaaRwBox
namespace Go.Proofs.Ytnolnlhoedafcaa.fnMarksAgree
open Go.ChangeShapes Go.WideShapes Go.ChangeAt Go.RowKit Go.Joins
open Go.ChangeMaps (open_string shut_string)
set_option linter.unusedVariables false

set_option maxHeartbeats 3200000 in
/-- the walk -/
theorem walk (w : World) (a0 : Option Addr) (len0 cap0 : Nat) (z0 : List Int) (w0 : IsRow .u8 w a0 len0 cap0 z0) :
    Calls Try.prog 4 #[.slice a0 len0 cap0] w fun e w' => e = .returned (.bool true) ∧ Below w.heap.size w w' := by
  by_cases hl0 : (1048576 : Int) < (len0 : Int)
  · go_enter Try.func4, Try.ntmps4
    go_wp2_with fail
    go_ret
    exact ⟨rfl, Below.refl _ _⟩
  ·
    go_enter Try.func4, Try.ntmps4
    have hBw : w.heap.size ≤ w.heap.size := Nat.le_refl _
    go_wp2_with fail
    refine (drawMarksAgree_any a0 len0 cap0 z0 w w0).mono ?_
    rintro e u1 ⟨G, n, c, Xs, rfl, ho, hn8, hx8, hb1⟩
    have hs1 := hb1.size
    have bw1 : Below w.heap.size w u1 := hb1.mono (by omega)
    have HL := Lib.hid ho.len
    have o_b_1 := ho
    have HZ := Lib.hid (fun (x : Rw) (hx : x ∈ Xs) => Nat.le_trans (hx8 x hx) (show 8 ≤ 4194304 by omega))
    clear ho hx8
    have HI := Lib.hid (fun u (h : RdR u u.heap.size (some ⟨G, 0, none⟩) n Xs) => iMarksAgree_any _ n c Xs u h (by omega) HZ.out)
    have HS := Lib.hid (fun u (h : RdR u u.heap.size (some ⟨G, 0, none⟩) n Xs) => sMarksAgree_any _ n c Xs u h (by omega) HZ.out)
    cases hok : Rw2.agOk Xs with
    | false =>
      obtain ⟨rs, hrs⟩ : ∃ rs : List Int, rs = [] := ⟨_, rfl⟩
      have he := Rw2.agL_f hok
      rw [← hrs] at he
      have hi := HI.out; rw [hok, he] at hi; have HI2 := Lib.hid hi
      have hs := HS.out; rw [hok, he] at hs; have HS2 := Lib.hid hs
      have hrl : rs.length = 0 := by rw [hrs]; rfl
      have HRL := Lib.hid hrl
      clear hi hs he HI HS hok hrs hrl
      go_wp2_with fail
      refine (HI2.out u1 o_b_1.rd).mono ?_
      rintro e u2 ⟨A_p, n_p, c_p, rfl, ho, hb2⟩
      have hs2 := hb2.size
      have bw2 : Below w.heap.size w u2 := bw1.trans (hb2.mono (by omega))
      have o_b_2 := o_b_1.below hb2
      clear o_b_1 bw1
      have o_p_2 := ho
      have HN_p := Lib.hid ho.len
      clear ho
      go_wp2_with fail
      refine (HS2.out u2 o_b_2.rd).mono ?_
      rintro e u3 ⟨A_q, n_q, c_q, rfl, ho, hb3⟩
      have hs3 := hb3.size
      have bw3 : Below w.heap.size w u3 := bw2.trans (hb3.mono (by omega))
      have o_b_3 := o_b_2.below hb3
      have o_p_3 := o_p_2.below hb3
      clear o_b_2 o_p_2 bw2
      have o_q_3 := ho
      have HN_q := Lib.hid ho.len
      clear ho
      have hl_p : n_p ≤ 4194304 := by have h1 := HN_p.out; have h2 := HRL.out; omega
      have hl_q : n_q ≤ 4194304 := by have h1 := HN_q.out; have h2 := HRL.out; omega
      go_wp2_with fail
      refine (quiet_below (sameInts_any A_p A_q n_p n_q c_p c_q rs rs u3 _ _ o_p_3.rd o_q_3.rd (by omega) (by omega))).mono ?_
      rintro e u4 ⟨rfl, hb4⟩
      have hs4 := hb4.size
      have bw4 : Below w.heap.size w u4 := bw3.trans (hb4.mono (by omega))
      have o_b_4 := o_b_3.below hb4
      have o_p_4 := o_p_3.below hb4
      have o_q_4 := o_q_3.below hb4
      clear o_b_3 o_p_3 o_q_3 bw3
      go_wp2_with fail
      refine (quiet_below (sameInts_any A_p A_q n_p n_q c_p c_q rs rs u4 _ _ o_p_4.rd o_q_4.rd (by omega) (by omega))).mono ?_
      rintro e u5 ⟨rfl, hb5⟩
      have hs5 := hb5.size
      have bw5 : Below w.heap.size w u5 := bw4.trans (hb5.mono (by omega))
      have o_b_5 := o_b_4.below hb5
      have o_p_5 := o_p_4.below hb5
      have o_q_5 := o_q_4.below hb5
      clear o_b_4 o_p_4 o_q_4 bw4
      go_wp2_with fail
      go_ret
      exact ⟨rfl, bw5⟩
    | true =>
      obtain ⟨-, hol, hat⟩ := Rw2.ag_out hok
      obtain ⟨hro, hpos⟩ := Rw2.agOk_iff.1 hok
      have hw5 := wide_le hro
      have HWd := Lib.hid (fun p hp => rows_wide hro (p := p) hp)
      have hn1 : 1 ≤ n := by have := (Rw2.rowsOk_iff.1 hro).1; have := HL.out; omega
      have HW0 := Lib.hid (wide_at (Xs := Xs) (by have := HL.out; omega))
      have HMaj := Lib.hid (fun p (hp : p < Rw2.wide Xs) => (show Rw2.Maj Xs p ((Rw2.agL Xs).getD p 0) by rw [hat p hp]; exact Rw2.best_maj (k := 10) (hpos p hp)))
      obtain ⟨rs, hrs⟩ : ∃ rs, rs = Rw2.agL Xs := ⟨_, rfl⟩
      rw [← hrs] at hol HMaj
      have hi := HI.out; rw [hok, ← hrs] at hi; have HI2 := Lib.hid hi
      have hs := HS.out; rw [hok, ← hrs] at hs; have HS2 := Lib.hid hs
      have HRL := Lib.hid hol
      clear hi hs HI HS hok hrs hol hat hro hpos
      go_wp2_with fail
      refine (HI2.out u1 o_b_1.rd).mono ?_
      rintro e u2 ⟨A_p, n_p, c_p, rfl, ho, hb2⟩
      have hs2 := hb2.size
      have bw2 : Below w.heap.size w u2 := bw1.trans (hb2.mono (by omega))
      have o_b_2 := o_b_1.below hb2
      clear o_b_1 bw1
      have o_p_2 := ho
      have HN_p := Lib.hid ho.len
      clear ho
      go_wp2_with fail
      refine (HS2.out u2 o_b_2.rd).mono ?_
      rintro e u3 ⟨A_q, n_q, c_q, rfl, ho, hb3⟩
      have hs3 := hb3.size
      have bw3 : Below w.heap.size w u3 := bw2.trans (hb3.mono (by omega))
      have o_b_3 := o_b_2.below hb3
      have o_p_3 := o_p_2.below hb3
      clear o_b_2 o_p_2 bw2
      have o_q_3 := ho
      have HN_q := Lib.hid ho.len
      clear ho
      have hl_p : n_p ≤ 4194304 := by have h1 := HN_p.out; have h2 := HRL.out; omega
      have hl_q : n_q ≤ 4194304 := by have h1 := HN_q.out; have h2 := HRL.out; omega
      go_wp2_with fail
      refine (quiet_below (sameInts_any A_p A_q n_p n_q c_p c_q rs rs u3 _ _ o_p_3.rd o_q_3.rd (by omega) (by omega))).mono ?_
      rintro e u4 ⟨rfl, hb4⟩
      have hs4 := hb4.size
      have bw4 : Below w.heap.size w u4 := bw3.trans (hb4.mono (by omega))
      have o_b_4 := o_b_3.below hb4
      have o_p_4 := o_p_3.below hb4
      have o_q_4 := o_q_3.below hb4
      clear o_b_3 o_p_3 o_q_3 bw3
      have HOB := Lib.hid o_b_4
      have HOP := Lib.hid o_p_4
      have HBW := Lib.hid bw4
      have hzw := bw4.size
      have hnp : n_p = Rw2.wide Xs := by have h1 := HN_p.out; have h2 := HRL.out; omega
      clear o_b_4 o_p_4 bw4
      go_wp2_with fail
      go_loopw [8] (fun i wr => ∃ j : Nat, j ≤ n_p ∧ i = .int .i64 j ∧ Below u4.heap.size u4 wr) (fun i _ => n_p - (intOf i).toNat)
      case atStart => exact ⟨0, Nat.zero_le _, rfl, Below.refl _ _⟩
      case round =>
        obtain ⟨j, hj, rfl, hb⟩ := hrel
        obtain ⟨wo, rfl⟩ : ∃ x, x = wr := ⟨wr, rfl⟩
        by_cases hlt : j < n_p
        · have hlt' : (j : Int) < (n_p : Int) := by omega
          have hj0 : (0 : Int) ≤ (j : Int) := by omega
          have hMj := HMaj.out j (by omega)
          obtain ⟨v, hv⟩ : ∃ v, v = rs.getD j 0 := ⟨_, rfl⟩
          rw [← hv] at hMj
          have HV := Lib.hid hv
          have HMj := Lib.hid hMj
          clear hMj hv
          go_wp2_with fail
          go_loopw [9, 10] (fun m i wr => ∃ k : Nat, k ≤ n ∧ i = .int .i64 k ∧ m = .int .i64 (Rw2.cnt (Xs.take k) j v : Int) ∧ Below u4.heap.size u4 wr) (fun _ i _ => n - (intOf i).toNat)
          case atStart => exact ⟨0, Nat.zero_le _, rfl, by simp [Rw2.cnt], hb⟩
          case round =>
            obtain ⟨k, hk, rfl, rfl, hb2⟩ := hrel
            by_cases hkl : k < n
            · have hk' : k < Xs.length := by have := HL.out; omega
              obtain ⟨⟨Ak, ck, c0, c1⟩, -⟩ := (HOB.out.below hb2).at_ k hk'
              have hpl := HWd.out j (by omega) _ (List.getElem_mem hk')
              obtain ⟨b2, off2, rfl, hb2l, d0⟩ := c1.rd.at_ hpl hpl
              obtain ⟨gp, rfl, -, -, hcp⟩ := (HOP.out.below hb2).at_ (by omega)
              obtain ⟨e0, -⟩ := hcp j hlt
              rw [← HV.out] at e0
              have hS := Rw2.cnt_take_succ (Xs := Xs) j v hk'
              rw [getD_at hpl] at hS
              have hkl' : (k : Int) < (n : Int) := by omega
              have hk0 : (0 : Int) ≤ (k : Int) := by omega
              have hpl' : (j : Int) < (Xs[k].length : Int) := by omega
              have hcl := Rw2.cnt_le (Xs.take k) j v
              have hcl2 : (Xs.take k).length ≤ k := List.length_take_le _ _
              generalize Xs[k][j] = y at *
              generalize Xs[k].length = l at *
              have hc : Rw2.cnt (Xs.take k) j v ≤ 8 := by omega
              clear c1 hpl hcl hcl2 hcp
              by_cases hy : y = v
              · rw [if_pos hy] at hS
                have HS3 := Lib.hid hS
                have hy' : (y == v) = true := by simpa using hy
                clear hS hy
                generalize Rw2.cnt (Xs.take k) j v = t at *
                go_wp2_with fail
                go_quiet (fail)
                go_wp2_with fail
                go_roundw
                case rel => exact ⟨k + 1, by omega, by go_num, by rw [HS3.out]; go_num, Reg.drewN hb2 _⟩
                case measure => simp [intOf]; omega
              · rw [if_neg hy] at hS
                have HS3 := Lib.hid hS
                have hy' : (y == v) = false := by simpa using hy
                clear hS hy
                generalize Rw2.cnt (Xs.take k) j v = t at *
                go_wp2_with fail
                go_quiet (fail)
                go_wp2_with fail
                go_roundw
                case rel => exact ⟨k + 1, by omega, by go_num, by rw [HS3.out]; rfl, Reg.drewN hb2 _⟩
                case measure => simp [intOf]; omega
            · have hkl' : ¬ (k : Int) < (n : Int) := by omega
              have hT : Xs.take k = Xs := List.take_of_length_le (by have := HL.out; omega)
              have hcl := Rw2.cnt_le Xs j v
              have hgt : ¬ 2 * (Rw2.cnt Xs j v : Int) ≤ (n : Int) := by have h1 := HMj.out; unfold Rw2.Maj at h1; have h2 := HL.out; omega
              have hc : Rw2.cnt Xs j v ≤ 8 := by have := HL.out; omega
              rw [hT]
              clear hT hcl
              generalize Rw2.cnt Xs j v = t at *
              go_wp2_with fail
              go_roundw
              case rel => exact ⟨j + 1, by omega, by go_num, hb2⟩
              case measure => simp [intOf]; omega
        · have hlt' : ¬ (j : Int) < (n_p : Int) := by omega
          obtain ⟨⟨A0, c0, d0, -⟩, -⟩ := (HOB.out.below hb).at_ 0 (by have := HL.out; omega)
          rw [HW0.out, ← hnp] at d0
          have hn0 : (0 : Int) < (n : Int) := by omega
          have bwz : Below w.heap.size w wo := HBW.out.trans (hb.mono (by omega))
          go_wp2_with fail
          go_ret
          exact ⟨rfl, bwz⟩

set_option maxRecDepth 100000 in
theorem lifted (os : Os) (started : os.Started) (H : Type) (enc : TypeId × Value → H) :
    ReturnsInHanded {} Try.checked os 4 .any (Rows.fnMarksAgreeSpec.pre6 enc Try.prog Try.f4 Rows.fnMarksAgreeRow.domain false) (Rows.fnMarksAgreeSpec.post enc Try.prog Try.f4 false true false false) := by
  refine returnsInHanded_of_change (C := Try.checked) own started (by kernel_rfl) Try.func4
    (ChangeSpec.witness6 (enc := enc) (C := Try.checked) false ⟨#[], #[.slice none 0 0], []⟩ 8 (by kernel_rfl) (by kernel_rfl) (by kernel_rfl) (by kernel_rfl)) ?_
  intro W base args ds gs before hval0 hW hcnd _
  have hval : ∀ (j : Nat) t v, Try.f4.params[j]? = some t → args[j]? = some v → Value.okWide Try.prog W .any base t v := hval0
  have hW' := hW
  obtain ⟨p, q, hA0, hV, rfl, hfz, hnd⟩ := hW
  have hA : DataW.TrodAll enc Try.prog W 0 (fun _ => true) true Try.f4.params.toList args.toList ds p := hA0
  rw [Try.params4] at hA hval
  obtain ⟨v0, vs0, d0, ds0, p0, q0, hargs, rfl, rfl, h0, r0⟩ := trodAll_cons hA
  obtain ⟨rfl, rfl, rfl⟩ := trodAll_nil r0
  obtain rfl : args = #[v0] := by cases args; simp_all
  obtain ⟨rfl, rfl⟩ := trodVars_none hV
  have k0 := h0
  have lt0 : ∀ x ∈ p0, x.block < W.heap.size := by obtain ⟨m, hm⟩ := k0; exact DataW.trod_lt m _ _ _ hm
  obtain ⟨a0, len0, cap0, rfl⟩ := okWide_slice Try.underlying32 (hval 0 32 v0 rfl rfl)
  obtain ⟨z0, w0⟩ : ∃ zs, IsRow .u8 W a0 len0 cap0 zs := by
    obtain ⟨fuel, hf⟩ := h0
    rcases open_ints Try.underlying32 Try.underlying5 (by kernel_rfl) hf with ⟨hcs, _⟩ | ⟨x, l, c, zs, hcs, _, hl, hm, hz, _, hcell, hwz⟩
    · simp [Value.cells] at hcs
      obtain ⟨rfl, rfl, rfl⟩ := hcs
      exact ⟨[], .inl ⟨rfl, rfl, rfl, rfl⟩⟩
    · simp [Value.cells] at hcs
      obtain ⟨rfl, rfl, rfl⟩ := hcs
      exact ⟨zs, .inr ⟨_, rfl, hl, hm, by simpa using hz, hcell, hwz⟩⟩
  clear hA0 hval0
  refine (walk W a0 len0 cap0 z0 w0).mono fun e W' ⟨he, bel⟩ => ?_
  subst he
  exact ⟨_, rfl, _, _, _, [], _, [], hW', trodAll_mk1 (shut_bool Try.underlying4 _), (trodAll_cons_mk (Below.trod laidOut (by kernel_rfl) (of_decide_eq_true (by kernel_rfl)) k0 bel lt0) trodAll_mk0), rfl, bel.frame _, fun h => by cases h⟩

theorem over : Rows.fnMarksAgreeRow.holds Try.pinned (OpenSpec.ofChange Rows.fnMarksAgreeSpec) :=
  OpenClaim.holds_of_wide 4 Try.f4 rfl rfl rfl rfl rfl rfl rfl ⟨rfl, rfl, rfl, rfl, rfl⟩ rfl rfl rfl rfl rfl (by kernel_rfl) Try.func4 (by kernel_rfl)
    (of_decide_eq_true (by kernel_rfl)) (by unfold Func.isWrapper; first | (rw [if_pos (by decide +kernel)]; kernel_rfl) | (rw [if_neg (by decide +kernel)]; exact ⟨rfl, rfl⟩))
    (fun os started H enc _ => lifted os started H enc)

/-- the statement -/
theorem proved : Rows.FnMarksAgreeSaid := over
#print axioms proved
end Go.Proofs.Ytnolnlhoedafcaa.fnMarksAgree
