/- PilesTurn of the program. -/
import Derived.Test.YtlfgmljgoolbeaaTuWalk
import Derived.Test.YtlfgmljgoolbeaaPiOf
namespace Go.Proofs.Ytlfgmljgoolbeaa
open Go.RowKit
set_option linter.unusedSimpArgs false

set_option maxHeartbeats 1600000 in
set_option maxRecDepth 100000 in
theorem iPilesTurn_any (A : Option Addr) (n c : Nat) (ps : List Pil.Pl) (x y : Int) (W : World) (h : RdP W W.heap.size A n ps) (hn : n ≤ 4194304) (hS : ∀ p ∈ ps, p.1.size ≤ 4194304) :
    Calls Try.prog 25 #[.slice A n c, .int .i64 x, .int .i64 y] W (ResP W (turnL ps x y) (turnOk ps x y)) := by
  have hv := iPilesValid_any A n c ps W h hn hS
  have hl := h.len
  cases h1 : Pil.plv ps with
  | false =>
    have HV := Lib.hid (bool_to hv h1)
    have HR := Lib.hid (turnOk_f (ps := ps) (x := x) (y := y) (.inl h1))
    clear hv h1 h hS hl
    go_enter Try.func25, Try.ntmps25
    go_wp2_with fail
    refine HV.out.mono ?_
    rintro e w1 ⟨rfl, hb1⟩
    go_wp2_with fail
    go_ret2
    exact ⟨none, 0, 0, ret_pair HR.out.1.symm, by rw [HR.out.2]; exact OwP.nil _ _, hb1⟩
  | true =>
    have HV := Lib.hid (bool_to hv h1)
    by_cases hx0 : x < 0
    · have hxb : ¬ (0 ≤ x ∧ x < 5) := by omega
      have HR := Lib.hid (turnOk_f (ps := ps) (x := x) (y := y) (.inr (.inl hxb)))
      clear hv h1 h hS hl
      go_enter Try.func25, Try.ntmps25
      go_wp2_with fail
      refine HV.out.mono ?_
      rintro e w1 ⟨rfl, hb1⟩
      go_wp2_with fail
      go_ret2
      exact ⟨none, 0, 0, ret_pair HR.out.1.symm, by rw [HR.out.2]; exact OwP.nil _ _, hb1⟩
    · by_cases hx5 : 5 ≤ x
      · have hxb : ¬ (0 ≤ x ∧ x < 5) := by omega
        have HR := Lib.hid (turnOk_f (ps := ps) (x := x) (y := y) (.inr (.inl hxb)))
        clear hv h1 h hS hl
        go_enter Try.func25, Try.ntmps25
        go_wp2_with fail
        refine HV.out.mono ?_
        rintro e w1 ⟨rfl, hb1⟩
        go_wp2_with fail
        go_ret2
        exact ⟨none, 0, 0, ret_pair HR.out.1.symm, by rw [HR.out.2]; exact OwP.nil _ _, hb1⟩
      · by_cases hy0 : y < 0
        · have hyb : ¬ (0 ≤ y ∧ y < 5) := by omega
          have HR := Lib.hid (turnOk_f (ps := ps) (x := x) (y := y) (.inr (.inr hyb)))
          clear hv h1 h hS hl
          go_enter Try.func25, Try.ntmps25
          go_wp2_with fail
          refine HV.out.mono ?_
          rintro e w1 ⟨rfl, hb1⟩
          go_wp2_with fail
          go_ret2
          exact ⟨none, 0, 0, ret_pair HR.out.1.symm, by rw [HR.out.2]; exact OwP.nil _ _, hb1⟩
        · by_cases hy5 : 5 ≤ y
          · have hyb : ¬ (0 ≤ y ∧ y < 5) := by omega
            have HR := Lib.hid (turnOk_f (ps := ps) (x := x) (y := y) (.inr (.inr hyb)))
            clear hv h1 h hS hl
            go_enter Try.func25, Try.ntmps25
            go_wp2_with fail
            refine HV.out.mono ?_
            rintro e w1 ⟨rfl, hb1⟩
            go_wp2_with fail
            go_ret2
            exact ⟨none, 0, 0, ret_pair HR.out.1.symm, by rw [HR.out.2]; exact OwP.nil _ _, hb1⟩
          · have hx : 0 ≤ x ∧ x < 5 := by omega
            have hy : 0 ≤ y ∧ y < 5 := by omega
            have HR := Lib.hid (turnOk_t h1 hx hy)
            have HL := Lib.hid hl
            have hn12 : n ≤ 12 := by have := (Pil.plv_iff.1 h1).2.2; omega
            have HSz := Lib.hid hS
            have HOf := Lib.hid (fun (w : World) (g cc : Nat) (hR : RdLs w w.heap.size g [Tu.turn x y ps]) => (show Calls Try.prog 39 #[.slice (some ⟨g, 0, none⟩) 1 cc] w (ResP w (turnL ps x y) (turnOk ps x y)) by
              have h3 := pilesOf_any g cc [Tu.turn x y ps] w hR (fun l hl p hp => by rw [List.mem_singleton.1 hl] at hp; exact turn_pv hx hy h1 p hp) (by simp [Tu.turn_len]; omega) (by simp)
              have e : [Tu.turn x y ps].flatten = Tu.turn x y ps := by simp
              have e1 : gatherOk (Tu.turn x y ps) = true := Tu.turned_ok hx hy h1
              have e2 : gatherL (Tu.turn x y ps) = Tu.turned x y ps := by simp [gatherL, e1, Tu.turned]
              rw [e, e1, e2] at h3
              rw [(turnOk_t h1 hx hy).1, (turnOk_t h1 hx hy).2]
              exact h3))
            have HTL := Lib.hid (Tu.turn_len x y ps)
            clear hv h1 hS hl hx hy
            go_enter Try.func25, Try.ntmps25
            go_wp2_with fail
            refine HV.out.mono ?_
            rintro e w1 ⟨rfl, hb1⟩
            have hBw := hb1.size
            go_wp2_with fail
            go_loopw [8, 35] (fun v i wr => ∃ (k : Nat) (A' : Option Addr) (c' : Nat), k ≤ n ∧ i = .int .i64 k ∧ v = .slice A' k c' ∧ OwP wr W.heap.size A' k c' ((Tu.turn x y ps).take k) ∧ Below W.heap.size W wr) (fun _ i _ => n - (intOf i).toNat)
            case atStart => exact ⟨0, none, 0, Nat.zero_le _, rfl, rfl, OwP.nil _ _, hb1⟩
            case round =>
              obtain ⟨k, A', c', hk, rfl, rfl, ho, hb⟩ := hrel
              obtain ⟨wo, rfl⟩ : ∃ x, x = wr := ⟨wr, rfl⟩
              have hBs := hb.size
              have HO := Lib.hid ho
              clear ho
              by_cases hlt : k < n
              · have hk' : k < ps.length := by have := HL.out; omega
                obtain ⟨b, off, rfl, hbB, hcell⟩ := (h.below hb).at_ hk'
                obtain ⟨d0, d1⟩ := hcell k hk'
                have hbB := Nat.lt_of_lt_of_le hbB hBs
                have hlt' : (k : Int) < (n : Int) := by omega
                have hk0 : (0 : Int) ≤ (k : Int) := by omega
                have hS := turn_take_succ x y hk'
                have hsz := HSz.out ps[k] (List.getElem_mem hk')
                clear h hcell
                generalize ps[k].1 = s at *
                generalize ps[k].2 = m at *
                obtain ⟨T, hT⟩ : ∃ T, T = Tu.tt x y s := ⟨_, rfl⟩
                rw [← hT] at hS
                have HS := Lib.hid hS
                have HBal := Lib.hid (fun w => ballot_any s m w hsz)
                have HText := Lib.hid (fun A4 n4 c4 (w : World) (hr : RdI w w.heap.size A4 n4 (Tu.sws x y (Bal.parse s.data.toList))) (h1 : n4 ≤ c4) (h2 : n4 ≤ 4194304) (h3 : c4 ≤ maxLen) => (show Calls Try.prog 49 #[.slice A4 n4 c4] w fun e w' => e = .returned (.string T) ∧ Below w.heap.size w w' by rw [hT]; exact iBallotText_any A4 n4 c4 _ w hr h1 h2 h3))
                have hpl := Bal.parse_len s.data.toList
                clear hS hT
                go_wp2_with fail
                refine (HBal.out _).mono ?_
                rintro e w3 ⟨A4, n4, c4, rfl, ho4, hb3⟩
                have hn4 : n4 ≤ 5 := by have := ho4.len; omega
                have hb3' := Reg.unalloc hb3
                obtain ⟨z3, q0, q1, q2, q3⟩ := Reg.newbox hb3
                have hbw3 := hb.trans (hb3'.mono hBs)
                have ho4' := ho4.base (B' := wo.heap.size + 1) (by simp)
                have HZL := Lib.hid ho4.len
                generalize Bal.parse s.data.toList = zs at *
                rw [← swCur_zero x y zs] at ho4'
                have HO4 := Lib.hid ho4'
                clear ho4 ho4' hb3 d0 d1 hb HBal
                go_wp2_with fail
                go_loopw [43] (fun i w5 => ∃ j : Nat, j ≤ n4 ∧ i = .int .i64 j ∧ OwA w5 (wo.heap.size + 1) A4 n4 c4 (swCur x y zs j) ∧ Below (wo.heap.size + 1) w3 w5) (fun i _ => n4 - (intOf i).toNat)
                case atStart => exact ⟨0, Nat.zero_le _, rfl, HO4.out, Below.refl _ _⟩
                case round =>
                  obtain ⟨j, hj, rfl, ho5, hb5⟩ := hrel
                  obtain ⟨w5, rfl⟩ : ∃ x, x = wr := ⟨wr, rfl⟩
                  clear HO4
                  by_cases hjl : j < n4
                  · have hj' : j < zs.length := by have := HZL.out; omega
                    obtain ⟨g4, rfl, hB4, hl4, hc4⟩ := ho5.at_ (by omega)
                    obtain ⟨r0, r1⟩ := hc4 j hjl
                    rw [swCur_at x y hj'] at r0
                    have hjl' : (j : Int) < (n4 : Int) := by omega
                    have hj0 : (0 : Int) ≤ (j : Int) := by omega
                    have hset := swCur_succ x y hj'
                    have hkeep := swCur_keep x y hj'
                    have HO5 := Lib.hid ho5
                    clear ho5 hc4
                    generalize zs[j] = z at *
                    rcases (show z = x ∨ (¬ z = x ∧ z = y) ∨ (¬ z = x ∧ ¬ z = y) by omega) with e1 | ⟨e1, e2⟩ | ⟨e1, e2⟩
                    · have h1' : (z == x) = true := by simpa using e1
                      have HS5 := Lib.hid (show swCur x y zs (j + 1) = (swCur x y zs j).set j y by rw [← hset, e1, sw_x])
                      clear hset hkeep e1
                      go_wp2_with fail
                      go_roundw
                      case rel => exact ⟨j + 1, by omega, by go_num, by rw [HS5.out]; exact HO5.out.set_ j y, hb5.setCell hB4 _⟩
                      case measure => simp [intOf]; omega
                    · have h1' : (z == x) = false := by simpa using e1
                      have h2' : (z == y) = true := by simpa using e2
                      have HS5 := Lib.hid (show swCur x y zs (j + 1) = (swCur x y zs j).set j x by rw [← hset, e2, sw_y (by omega)])
                      clear hset hkeep e1 e2
                      go_wp2_with fail
                      go_roundw
                      case rel => exact ⟨j + 1, by omega, by go_num, by rw [HS5.out]; exact HO5.out.set_ j x, hb5.setCell hB4 _⟩
                      case measure => simp [intOf]; omega
                    · have h1' : (z == x) = false := by simpa using e1
                      have h2' : (z == y) = false := by simpa using e2
                      have HS5 := Lib.hid (hkeep e1 e2)
                      clear hset hkeep e1 e2
                      go_wp2_with fail
                      go_roundw
                      case rel => exact ⟨j + 1, by omega, by go_num, by rw [← HS5.out]; exact HO5.out, hb5⟩
                      case measure => simp [intOf]; omega
                  · have hjl' : ¬ (j : Int) < (n4 : Int) := by omega
                    obtain rfl : j = n4 := by omega
                    rw [swCur_all x y HZL.out] at ho5
                    have q1' := (hb5.cell (p := ⟨wo.heap.size, 1, none⟩) (by simp)).trans q1
                    have q0' := (hb5.cell (p := ⟨wo.heap.size, 0, none⟩) (by simp)).trans q0
                    have hbo5 : Below wo.heap.size wo w5 := hb3'.trans (hb5.mono (by omega))
                    have hbw5 := hbw3.trans (hb5.mono (by omega))
                    have hz5 : wo.heap.size < w5.heap.size := Nat.lt_of_lt_of_le z3 hb5.size
                    have HO5 := Lib.hid (HO.out.below hbo5)
                    have HTx := Lib.hid (HText.out A4 j c4 w5.drew ho5.rd ho5.cap.1 (by omega) ho5.cap.2)
                    have hBs5 := hbw5.size
                    clear q0 q1 q2 q3 ho5 hb5 HText
                    go_wp2_with fail
                    go_region_law (first
                      | (refine step_call1 (by rfl) _ _ (by rfl) (run_iText _ _) (by rfl) HTx.out ?_; rintro e w6 ⟨rfl, hb6'⟩; refine ⟨_, rfl, ?_⟩; have hb6 := Reg.undrew hb6'; have m6 := Reg.keepc (b := wo.heap.size) (o := 1) hb6 hz5 q1'; have O6 := HO5.out.below hb6; have hbw6 := hbw5.trans (hb6.mono hBs5); have hz6 := hbw6.size; clear hb6' HTx)
                      | (refine step_appP (by rfl) _ _ (by rfl) (B := W.heap.size) (ps := (Tu.turn x y ps).take k) (qs := [(T, m)]) (A := A') (n := k) (c := c') (by rfl) ⟨w6.heap.size, 0, none⟩ 1 1 (by rfl) (O6.alloc _) rfl (srcp_one (by simp [go_sem]) (by simp [go_sem])) (k + 1) rfl (by omega) (by simp; omega) ?_; intro A7 c7 w7 ho7 hb7 _ _ _; have hb8 := (hbw6.alloc hz6 _).trans hb7; rw [← HS.out] at ho7; have HO7 := Lib.hid ho7; clear ho7 hb7))
                    all_goals
                      go_wp2_with fail
                      go_roundw
                      case rel => exact ⟨k + 1, A7, c7, by omega, by go_num, rfl, HO7.out, hb8⟩
                      case measure => simp [intOf]; omega
              · have hlt' : ¬ (k : Int) < (n : Int) := by omega
                obtain rfl : k = n := by omega
                have ho := HO.out
                rw [List.take_of_length_le (by rw [HTL.out]; have := HL.out; omega)] at ho
                have hrd := (ho.alloc (.cells #[.slice A' k c'] 23)).rd
                have HLs := Lib.hid (show RdLs (wo.alloc (.cells #[.slice A' k c'] 23)) (wo.alloc (.cells #[.slice A' k c'] 23)).heap.size wo.heap.size [Tu.turn x y ps] from
                  ⟨by simp, fun i hi => by
                    obtain rfl : i = 0 := by simp at hi; omega
                    exact ⟨A', k, c', by simp [go_sem], hrd⟩⟩)
                have HO2 := Lib.hid (HOf.out _ _ 1 HLs.out)
                have HB3 := Lib.hid (hb.alloc hBs (.cells #[.slice A' k c'] 23))
                clear h ho hrd hb
                go_wp2_with fail
                refine HO2.out.mono ?_
                rintro e w4 ⟨A4, n4, c4, rfl, ho4, hb4⟩
                have hbw4 := HB3.out.trans (hb4.mono HB3.out.size)
                have HO4 := Lib.hid (ho4.base HB3.out.size)
                clear ho4 hb4
                go_wp2_with fail
                go_ret2
                exact ⟨A4, n4, c4, rfl, HO4.out, hbw4⟩
end Go.Proofs.Ytlfgmljgoolbeaa
