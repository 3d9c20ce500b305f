/- MarksAgree of the program. -/
import Derived.Test.YtnolnlhoedafcaaRwCount
import Derived.Test.YtnolnlhoedafcaaMaWalk
import Derived.Test.YtnolnlhoedafcaaRwAgreeS
import Derived.Test.YtnolnlhoedafcaaLawKit
namespace Go.Proofs.Ytnolnlhoedafcaa
open Go.RowKit
set_option linter.unusedSimpArgs false

set_option maxHeartbeats 3200000 in
theorem iMarksAgree_any (A : Option Addr) (n c : Nat) (Xs : List Rw) (W : World) (h : RdR W W.heap.size A n Xs) (hn : n ≤ 4194304) (hm : ∀ x ∈ Xs, x.length ≤ 4194304) :
    Calls Try.prog 10 #[.slice A n c] W (ResI W (Rw2.agL Xs) (Rw2.agOk Xs)) := by
  have HL := Lib.hid h.len
  have HSz := Lib.hid hm
  clear hm
  by_cases hn5 : 1 ≤ n ∧ n ≤ 5
  · have hn1 : ¬ (n : Int) < 1 := by omega
    have hn2 : ¬ (5 : Int) < (n : Int) := by omega
    have h0' : 0 < Xs.length := by have := HL.out; omega
    have HW0 := Lib.hid (wide_at h0')
    obtain ⟨b, off, rfl, hbB, hcell⟩ := h.at_ h0'
    have hcell0 := hcell 0 h0'
    rw [Nat.add_zero, HW0.out] at hcell0
    obtain ⟨A0, ck0, d0, -, -, -⟩ := hcell0
    have HRd := Lib.hid h
    have HC := Lib.hid hcell
    clear h hcell
    go_enter Try.func10, Try.ntmps10
    go_wp2_with fail
    go_loop [20] (fun i => ∃ k : Nat, k ≤ n ∧ i = .int .i64 k ∧ ∀ j (hj : j < Xs.length), j < k → Rw2.rowOk Xs Xs[j] = true) (fun i => n - (intOf i).toNat)
    case atStart => exact ⟨0, Nat.zero_le _, rfl, fun j _ h => absurd h (by omega)⟩
    case round =>
      obtain ⟨k, hk, rfl, hp⟩ := hrel
      have HP := Lib.hid hp
      clear hp
      by_cases hlt : k < n
      · have hk' : k < Xs.length := by have := HL.out; omega
        obtain ⟨Aj, cj, c0, c1, c2, c3⟩ := HC.out k hk'
        have hlt' : (k : Int) < (n : Int) := by omega
        have hk0 : (0 : Int) ≤ (k : Int) := by omega
        have hn0 : (0 : Int) < (n : Int) := by omega
        have hsz := HSz.out _ (List.getElem_mem hk')
        have HBad := Lib.hid (fun hv => Rw2.agOk_rows (Rw2.rowsOk_bad (List.getElem_mem hk') hv))
        have HNx := Lib.hid (fun (hv : Rw2.rowOk Xs Xs[k] = true) => (show ∀ j (hj : j < Xs.length), j < k + 1 → Rw2.rowOk Xs Xs[j] = true from fun j hj hjk => by
          by_cases e : j = k
          · subst e; exact hv
          · exact HP.out j hj (by omega)))
        have HV0 := Lib.hid (iMarksValid_any Aj Xs[k].length cj Xs[k] W _ c1 hsz)
        have HRk := Lib.hid (show Rw2.rowOk Xs Xs[k] = (Ma.mv Xs[k] && decide (Xs[k].length = Rw2.wide Xs)) from rfl)
        clear c1 c2 c3 hsz
        generalize Xs[k] = x0 at *
        generalize Rw2.wide Xs = wd at *
        cases hv : Ma.mv x0 with
        | false =>
          have hV := HV0.out
          rw [hv] at hV
          have HV := Lib.hid hV
          have HR := Lib.hid (show Rw2.agOk Xs = false ∧ Rw2.agL Xs = [] by
            have h1 := HBad.out (by rw [HRk.out, hv]; rfl)
            exact ⟨h1, Rw2.agL_f h1⟩)
          clear hv HV0 hV
          generalize x0.length = l at *
          go_wp2_with fail
          refine HV.out.mono ?_
          rintro e w1 ⟨rfl, rfl⟩
          go_wp2_with fail
          go_ret2
          exact ⟨none, 0, 0, ret_pair HR.out.1.symm, by rw [HR.out.2]; exact OwA.nil _ _, Below.refl _ _⟩
        | true =>
          have hV := HV0.out
          rw [hv] at hV
          have HV := Lib.hid hV
          clear hV
          by_cases hl : x0.length = wd
          · have HN2 := Lib.hid (HNx.out (by rw [HRk.out, hv, hl]; simp))
            clear hv HV0
            subst hl
            generalize x0.length = wd at *
            have hne : ((wd : Int) != (wd : Int)) = false := by simp
            go_wp2_with fail
            refine HV.out.mono ?_
            rintro e w1 ⟨rfl, rfl⟩
            go_wp2_with fail
            go_round
            case rel => exact ⟨k + 1, by omega, by go_num, HN2.out⟩
            case measure => simp [intOf]; omega
          · have HR := Lib.hid (show Rw2.agOk Xs = false ∧ Rw2.agL Xs = [] by
              have h1 := HBad.out (by rw [HRk.out]; simp [hl])
              exact ⟨h1, Rw2.agL_f h1⟩)
            have hne : ((x0.length : Int) != (wd : Int)) = true := by simp; omega
            clear hv HV0 hl
            generalize x0.length = l at *
            go_wp2_with fail
            refine HV.out.mono ?_
            rintro e w1 ⟨rfl, rfl⟩
            go_wp2_with fail
            go_ret2
            exact ⟨none, 0, 0, ret_pair HR.out.1.symm, by rw [HR.out.2]; exact OwA.nil _ _, Below.refl _ _⟩
      · have hlt' : ¬ (k : Int) < (n : Int) := by omega
        have hrows := rows_all HL.out (by omega) (fun j (hj : j < Xs.length) => HP.out j hj (by have := HL.out; omega))
        have HRows := Lib.hid hrows
        have HW := Lib.hid (fun p hp => rows_wide hrows (p := p) hp)
        have HVs := Lib.hid (rows_marks hrows)
        have hw5 := wide_le hrows
        have hn0 : (0 : Int) < (n : Int) := by omega
        clear hrows
        go_wp2_with fail
        go_loopw [6, 41] (fun v i wr => ∃ (p : Nat) (A' : Option Addr) (c' : Nat), p ≤ Rw2.wide Xs ∧ i = .int .i64 p ∧ v = .slice A' p c' ∧ OwA wr W.heap.size A' p c' ((List.range p).map (Rw2.most Xs)) ∧ Below W.heap.size W wr ∧ ∀ q, q < p → 0 ≤ Rw2.most Xs q) (fun _ i _ => Rw2.wide Xs - (intOf i).toNat)
        case atStart => exact ⟨0, none, 0, Nat.zero_le _, rfl, rfl, OwA.nil _ _, Below.refl _ _, fun q h => absurd h (by omega)⟩
        case round =>
          obtain ⟨p, A', c', hp, rfl, rfl, ho2, hb2, hq⟩ := hrel
          have HO2 := Lib.hid ho2
          have HQ := Lib.hid hq
          have hBs2 := hb2.size
          clear ho2 hq
          by_cases hpl : p < Rw2.wide Xs
          · have hpl' : (p : Int) < (Rw2.wide Xs : Int) := by omega
            have HMo := Lib.hid (mostRead_any (some ⟨b, off, none⟩) n c Xs p wr ((HRd.out.below hb2).more hBs2) hn (HW.out p hpl) HVs.out)
            have HSn := Lib.hid (range_snoc Xs p)
            have hrg := Rw2.most_range Xs p
            by_cases hneg : 0 ≤ Rw2.most Xs p
            · have hM := HMo.out
              unfold MostPost at hM
              rw [if_pos hneg, decide_eq_true hneg] at hM
              have HM2 := Lib.hid hM
              have HQ2 := Lib.hid (show ∀ q, q < p + 1 → 0 ≤ Rw2.most Xs q from fun q hq => by
                by_cases e : q = p
                · subst e; omega
                · exact HQ.out q (by omega))
              clear hM HMo
              generalize Rw2.most Xs p = v at *
              generalize hwd : Rw2.wide Xs = wd at *
              go_wp2_with fail
              refine HM2.out.mono ?_
              rintro e w3 ⟨rfl, hb3⟩
              have hb3' := hb2.trans (hb3.mono hBs2)
              have hBs3 := hb3'.size
              have HO3 := Lib.hid (HO2.out.below hb3)
              go_wp2_with (at_builtin; refine wpList_app1 (by rfl) _ _ (by rfl) _ W.heap.size _ p c' _ _ (by rfl) HO3.out (by rfl) (by omega) hBs3 ?_)
              intro g4 c4 w4 ho4 hb4 _ _
              have hb5 := hb3'.trans hb4
              rw [← HSn.out] at ho4
              have HO4 := Lib.hid ho4
              clear ho4 hb4
              go_wp2_with fail
              go_roundw
              case rel => exact ⟨p + 1, some ⟨g4, 0, none⟩, c4, by omega, by go_num, rfl, HO4.out, hb5, HQ2.out⟩
              case measure => simp [intOf]; omega
            · have hM := HMo.out
              unfold MostPost at hM
              rw [if_neg hneg, decide_eq_false hneg] at hM
              have HM2 := Lib.hid hM
              have HR := Lib.hid (show Rw2.agOk Xs = false ∧ Rw2.agL Xs = [] by
                have h1 := Rw2.agOk_place (p := p) (Xs := Xs) hpl (by omega)
                exact ⟨h1, Rw2.agL_f h1⟩)
              clear hM HMo
              generalize Rw2.most Xs p = v at *
              generalize hwd : Rw2.wide Xs = wd at *
              go_wp2_with fail
              refine HM2.out.mono ?_
              rintro e w3 ⟨rfl, hb3⟩
              have hb3' := hb2.trans (hb3.mono hBs2)
              go_wp2_with fail
              go_ret2
              exact ⟨none, 0, 0, ret_pair HR.out.1.symm, by rw [HR.out.2]; exact OwA.nil _ _, hb3'⟩
          · obtain rfl : p = Rw2.wide Xs := by omega
            have HR := Lib.hid (show Rw2.agOk Xs = true ∧ Rw2.agL Xs = (List.range (Rw2.wide Xs)).map (Rw2.most Xs) by
              have h1 : Rw2.agOk Xs = true := Rw2.agOk_iff.2 ⟨HRows.out, HQ.out⟩
              exact ⟨h1, Rw2.agL_t h1⟩)
            have HO3 := Lib.hid (show OwA wr W.heap.size A' (Rw2.wide Xs) c' (Rw2.agL Xs) by rw [HR.out.2]; exact HO2.out)
            generalize Rw2.wide Xs = wd at *
            go_wp2_with fail
            go_ret2
            exact ⟨A', wd, c', ret_pair HR.out.1.symm, HO3.out, hb2⟩
  · have HR := Lib.hid (show Rw2.agOk Xs = false ∧ Rw2.agL Xs = [] by
      have h1 := Rw2.agOk_rows (Rw2.rowsOk_many (Xs := Xs) (by rw [HL.out]; omega))
      exact ⟨h1, Rw2.agL_f h1⟩)
    clear h
    by_cases hn1 : (n : Int) < 1
    · go_enter Try.func10, Try.ntmps10
      go_wp2_with fail
      go_ret2
      exact ⟨none, 0, 0, ret_pair HR.out.1.symm, by rw [HR.out.2]; exact OwA.nil _ _, Below.refl _ _⟩
    · have hn2 : (5 : Int) < (n : Int) := by omega
      go_enter Try.func10, Try.ntmps10
      go_wp2_with fail
      go_ret2
      exact ⟨none, 0, 0, ret_pair HR.out.1.symm, by rw [HR.out.2]; exact OwA.nil _ _, Below.refl _ _⟩
end Go.Proofs.Ytnolnlhoedafcaa
