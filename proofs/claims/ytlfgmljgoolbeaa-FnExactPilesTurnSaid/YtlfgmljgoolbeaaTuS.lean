/- PilesTurn of the reference. -/
import Derived.Test.YtlfgmljgoolbeaaTuWalk
namespace Go.Proofs.Ytlfgmljgoolbeaa
open Go.RowKit
set_option linter.unusedSimpArgs false

set_option maxHeartbeats 1600000 in
set_option maxRecDepth 100000 in
theorem sPilesTurn_any (A : Option Addr) (n c : Nat) (ps : List Pil.Pl) (x y : Int) (W : World) (h : RdP W W.heap.size A n ps) (hn : n ≤ 4194304) (hS : ∀ p ∈ ps, p.1.size ≤ 4194304) :
    Calls Try.prog 23 #[.slice A n c, .int .i64 x, .int .i64 y] W (ResS W (turnL ps x y) (turnOk ps x y)) := by
  have hv := sPilesValid_any A n c ps W h hn hS
  have HE := Lib.hid (fun w (hw : W.heap.size ≤ w.heap.size) => OwP.empty w W.heap.size hw)
  have hl := h.len
  cases h1 : Pil.plv ps with
  | false =>
    have HV := Lib.hid (bool_to hv h1)
    have HR := Lib.hid (turnOk_f (x := x) (y := y) (.inl h1))
    clear hv h1 h hS hl
    go_enter Try.func23, Try.ntmps23
    go_wp2_with fail
    refine HV.out.mono ?_
    rintro e w1 ⟨rfl, hb1⟩
    go_wp2_with fail
    go_ret2
    exact ⟨_, 0, 0, ret_pair HR.out.1.symm, by rw [HR.out.2]; exact HE.out w1 hb1.size, hb1.alloc hb1.size _⟩
  | true =>
    have HV := Lib.hid (bool_to hv h1)
    by_cases hx : 0 ≤ x ∧ x < 5
    · have hx4 : 0 ≤ x ∧ x ≤ 4 := by omega
      by_cases hy : 0 ≤ y ∧ y < 5
      · have hy4 : 0 ≤ y ∧ y ≤ 4 := by omega
        have HR := Lib.hid (turnOk_t h1 hx hy)
        have HPV := Lib.hid h1
        have HMk := Lib.hid (fun k => turn_many hx hy h1 k)
        have HLn := Lib.hid (fun k => Tu.merge_len ((Tu.turn x y ps).take k) [])
        have HL := Lib.hid hl
        have hn12 : n ≤ 12 := by have := (Pil.plv_iff.1 h1).2.2; omega
        have HPM := Lib.hid (plv_many h1)
        have HSz := Lib.hid hS
        have HOKT := Lib.hid (fun (p : Pil.Pl) (hp : p ∈ ps) => (Pil.pv_iff.1 ((Pil.plv_iff.1 h1).1 p hp)).1)
        clear hv h1 hS hl
        go_enter Try.func23, Try.ntmps23
        go_wp2_with fail
        refine HV.out.mono ?_
        rintro e w1 ⟨rfl, hb1⟩
        go_wp2_with fail
        refine (l6In_t _ _ _ _ hx4).mono ?_
        rintro e w2 ⟨rfl, rfl⟩
        go_wp2_with fail
        refine (l6In_t _ _ _ _ hy4).mono ?_
        rintro e w2 ⟨rfl, rfl⟩
        have hBw := hb1.size
        go_wp2_with fail
        go_loopw [8, 9] (fun v i wr => ∃ k g n' c' : Nat, k ≤ n ∧ i = .int .i64 k ∧ v = .slice (some ⟨g, 0, none⟩) n' c' ∧ OwP wr W.heap.size (some ⟨g, 0, none⟩) n' c' (Pil.merge [] ((Tu.turn x y ps).take k)) ∧ Below W.heap.size W wr) (fun _ i _ => n - (intOf i).toNat)
        case atStart => exact ⟨0, _, 0, 0, Nat.zero_le _, rfl, rfl, HE.out _ hBw, hb1.alloc hBw _⟩
        case round =>
          obtain ⟨k, g, n', c', hk, rfl, rfl, ho, hb⟩ := hrel
          have hBs := hb.size
          have hn' : n' ≤ 12 := by
            have h1 := ho.len; have h2 := HLn.out k
            have h3 : ((Tu.turn x y ps).take k).length ≤ k := List.length_take_le _ _
            simp at h2 h3; omega
          have HO := Lib.hid ho
          clear ho
          by_cases hlt : k < n
          · have hk' : k < ps.length := by have := HL.out; omega
            obtain ⟨b, off, rfl, hbB, hcell⟩ := (h.below hb).at_ hk'
            obtain ⟨d0, d1⟩ := hcell k hk'
            have hbB := Nat.lt_of_lt_of_le hbB hBs
            have hlt' : (k : Int) < (n : Int) := by omega
            have hk0 : (0 : Int) ≤ (k : Int) := by omega
            have hS := turned_take_succ x y hk'
            obtain ⟨m0, m1⟩ := HPM.out ps[k] (List.getElem_mem hk')
            have hsz := HSz.out ps[k] (List.getElem_mem hk')
            have hok := HOKT.out ps[k] (List.getElem_mem hk')
            clear h hcell
            generalize ps[k].1 = s at *
            generalize ps[k].2 = m at *
            obtain ⟨T, hT⟩ : ∃ T, T = Tu.tt x y s := ⟨_, rfl⟩
            rw [← hT] at hS
            have HS := Lib.hid hS
            have HPar := Lib.hid (fun w => sBallotParse_any s w hsz)
            have HText := Lib.hid (fun A4 n4 c4 (w : World) (hr : RdI w w.heap.size A4 n4 (Tu.sws x y (Bal.parse s.data.toList))) (h1 : n4 ≤ c4) (h2 : n4 ≤ 4194304) (h3 : c4 ≤ maxLen) => (show Calls Try.prog 46 #[.slice A4 n4 c4] w fun e w' => e = .returned (.string T) ∧ ∃ q, w' = w.drewN q by rw [hT]; exact sBallotText_any A4 n4 c4 _ w hr h1 h2 h3))
            have HPut := Lib.hid (fun (w : World) (ho : OwP w W.heap.size (some ⟨g, 0, none⟩) n' c' (Pil.merge [] ((Tu.turn x y ps).take k))) => l3Put_any g 0 n' c' _ T m w ho.rd ho.cap.1 (by omega) ho.cap.2 (HMk.out k) m0 m1)
            have hpl := Bal.parse_len s.data.toList
            clear hS hT hok
            go_wp2_with fail
            refine (HPar.out _).mono ?_
            rintro e w3 ⟨A3, n3, c3, rfl, ho3, hb3⟩
            have hn3 : n3 ≤ 5 := by have := ho3.len; omega
            have hbw3 := hb.trans (hb3.mono hBs)
            have hBs3 := hbw3.size
            have HO1 := Lib.hid (HO.out.below hb3)
            have HB3 := Lib.hid ho3
            have d3 := (hb3.cell (p := ⟨b, off + k * 2 + 1, none⟩) hbB).trans d1
            have hbB3 : b < w3.heap.size := Nat.lt_of_lt_of_le hbB hb3.size
            clear ho3 hb3 d0 d1 HO hb HPar
            by_cases hxy : x = y
            · subst hxy
              have hr := HB3.out.rd
              rw [← Tu.sws_same x (Bal.parse s.data.toList)] at hr
              have HTx := Lib.hid (HText.out A3 n3 c3 w3.drew hr HB3.out.cap.1 (by omega) HB3.out.cap.2)
              have hxx : (x != x) = false := by simp
              have HOx := Lib.hid HO1.out
              have hbwx := hbw3
              have hBsx := hBs3
              have dx := d3
              clear hr HText HO1 hbw3 hBs3 d3
              go_wp2_with fail
              go_region_law (first
                | (refine step_call1 (by rfl) _ _ (by rfl) (run_sText _ _) (by rfl) HTx.out ?_; rintro e w6 ⟨rfl, q, hq6⟩; refine ⟨_, rfl, ?_⟩; have d6 : w6.cell? ⟨b, off + k * 2 + 1, none⟩ = some (.int .i64 m) := (by rw [hq6]; exact dx); have hb6 : Below w3.heap.size w3 w6 := (by rw [hq6]; exact Reg.drewN ((Below.refl _ _).drew) q); have HP6 := Lib.hid (HPut.out w6 (HOx.out.below hb6)); clear hq6 HTx HPut)
                | (refine step_call3 (by rfl) _ _ _ _ (by rfl) (run_l3Put _ _ _ _) (by rfl) (by rfl) (by rfl) HP6.out ?_; rintro e w7 ⟨g7, n7, c7, rfl, ho7, hb7⟩; refine ⟨_, rfl, ?_⟩; have hbx := hbwx.trans (hb6.mono hBsx); have hb8 := hbx.trans (hb7.mono hbx.size); have HO7 := Lib.hid (ho7.base hbx.size); clear ho7 hb7 HP6))
              all_goals
                go_wp2_with fail
                go_roundw
                case rel => exact ⟨k + 1, g7, n7, c7, by omega, by go_num, rfl, by rw [HS.out]; exact HO7.out, hb8⟩
                case measure => simp [intOf]; omega
            · have hxy' : (x != y) = true := by simpa using hxy
              have HTu := Lib.hid (l3Turn_any A3 n3 c3 _ x y w3 HB3.out.rd (by omega))
              clear hxy
              go_wp2_with fail
              refine HTu.out.mono ?_
              rintro e w4 ⟨g4, c4, rfl, ho4, hb4⟩
              have HTx := Lib.hid (HText.out _ n3 c4 w4.drew ho4.rd ho4.cap.1 (by omega) ho4.cap.2)
              have HOx := Lib.hid (HO1.out.below hb4)
              have hbwx := hbw3.trans (hb4.mono hBs3)
              have hBsx := hbwx.size
              have dx := (hb4.cell (p := ⟨b, off + k * 2 + 1, none⟩) hbB3).trans d3
              clear HText HO1 hbw3 hBs3 d3 ho4 hb4 HTu HB3
              go_wp2_with fail
              go_region_law (first
                | (refine step_call1 (by rfl) _ _ (by rfl) (run_sText _ _) (by rfl) HTx.out ?_; rintro e w6 ⟨rfl, q, hq6⟩; refine ⟨_, rfl, ?_⟩; have d6 : w6.cell? ⟨b, off + k * 2 + 1, none⟩ = some (.int .i64 m) := (by rw [hq6]; exact dx); have hb6 : Below w4.heap.size w4 w6 := (by rw [hq6]; exact Reg.drewN ((Below.refl _ _).drew) q); have HP6 := Lib.hid (HPut.out w6 (HOx.out.below hb6)); clear hq6 HTx HPut)
                | (refine step_call3 (by rfl) _ _ _ _ (by rfl) (run_l3Put _ _ _ _) (by rfl) (by rfl) (by rfl) HP6.out ?_; rintro e w7 ⟨g7, n7, c7, rfl, ho7, hb7⟩; refine ⟨_, rfl, ?_⟩; have hbx := hbwx.trans (hb6.mono hBsx); have hb8 := hbx.trans (hb7.mono hbx.size); have HO7 := Lib.hid (ho7.base hbx.size); clear ho7 hb7 HP6))
              all_goals
                go_wp2_with fail
                go_roundw
                case rel => exact ⟨k + 1, g7, n7, c7, by omega, by go_num, rfl, by rw [HS.out]; exact HO7.out, hb8⟩
                case measure => simp [intOf]; omega
          · have hlt' : ¬ (k : Int) < (n : Int) := by omega
            have ho := HO.out
            rw [List.take_of_length_le (by rw [Tu.turn_len]; have := HL.out; omega)] at ho
            have HO2 := Lib.hid (show OwP wr W.heap.size (some ⟨g, 0, none⟩) n' c' (turnL ps x y) by rw [HR.out.2]; exact ho)
            clear h ho
            go_wp2_with fail
            go_ret2
            exact ⟨g, n', c', ret_pair HR.out.1.symm, HO2.out, hb⟩
      · have hy4 : ¬ (0 ≤ y ∧ y ≤ 4) := by omega
        have HR := Lib.hid (turnOk_f (ps := ps) (x := x) (y := y) (.inr (.inr hy)))
        clear hv h1 h hS hl hy
        go_enter Try.func23, Try.ntmps23
        go_wp2_with fail
        refine HV.out.mono ?_
        rintro e w1 ⟨rfl, hb1⟩
        go_wp2_with fail
        refine (l6In_t _ _ _ _ hx4).mono ?_
        rintro e w2 ⟨rfl, rfl⟩
        go_wp2_with fail
        refine (l6In_f _ _ _ _ hy4).mono ?_
        rintro e w2 ⟨rfl, rfl⟩
        go_wp2_with fail
        go_ret2
        exact ⟨_, 0, 0, ret_pair HR.out.1.symm, by rw [HR.out.2]; exact HE.out w1 hb1.size, hb1.alloc hb1.size _⟩
    · have hx4 : ¬ (0 ≤ x ∧ x ≤ 4) := by omega
      have HR := Lib.hid (turnOk_f (ps := ps) (x := x) (y := y) (.inr (.inl hx)))
      clear hv h1 h hS hl hx
      go_enter Try.func23, Try.ntmps23
      go_wp2_with fail
      refine HV.out.mono ?_
      rintro e w1 ⟨rfl, hb1⟩
      go_wp2_with fail
      refine (l6In_f _ _ _ _ hx4).mono ?_
      rintro e w2 ⟨rfl, rfl⟩
      go_wp2_with fail
      go_ret2
      exact ⟨_, 0, 0, ret_pair HR.out.1.symm, by rw [HR.out.2]; exact HE.out w1 hb1.size, hb1.alloc hb1.size _⟩
end Go.Proofs.Ytlfgmljgoolbeaa
