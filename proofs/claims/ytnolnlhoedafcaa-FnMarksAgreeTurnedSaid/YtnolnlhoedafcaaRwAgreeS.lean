/- MarksAgree of the reference. -/
import Derived.Test.YtnolnlhoedafcaaRwCount
import Derived.Test.YtnolnlhoedafcaaMaWalk
import Derived.Test.YtnolnlhoedafcaaGrow
import Derived.Test.YtnolnlhoedafcaaLawKit
namespace Go.Proofs.Ytnolnlhoedafcaa
open Go.RowKit
set_option linter.unusedSimpArgs false

theorem range_snoc (Xs : List Rw) (p : Nat) : (List.range (p + 1)).map (Rw2.most Xs) = (List.range p).map (Rw2.most Xs) ++ [Rw2.most Xs p] := by
  rw [List.range_succ, List.map_append]; rfl
theorem rows_marks {Xs : List Rw} (h : Rw2.rowsOk Xs = true) : ∀ x ∈ Xs, ∀ y ∈ x, 0 ≤ y ∧ y ≤ 9 := fun x hx y hy => (Ma.mv_iff.1 ((Rw2.rowsOk_iff.1 h).2 x hx).1).1 y hy
theorem rows_all {Xs : List Rw} {n : Nat} (hn : Xs.length = n) (h1 : 1 ≤ n ∧ n ≤ 5) (h : ∀ j (hj : j < Xs.length), Rw2.rowOk Xs Xs[j] = true) : Rw2.rowsOk Xs = true := by
  refine Rw2.rowsOk_iff.2 ⟨by omega, fun x hx => ?_⟩
  obtain ⟨j, hj, rfl⟩ := List.getElem_of_mem hx
  simpa [Rw2.rowOk] using h j hj
theorem rows_wide {Xs : List Rw} (h : Rw2.rowsOk Xs = true) {p : Nat} (hp : p < Rw2.wide Xs) : ∀ x ∈ Xs, p < x.length := fun x hx => by
  rw [((Rw2.rowsOk_iff.1 h).2 x hx).2]; exact hp
theorem wide_at {Xs : List Rw} (h : 0 < Xs.length) : Xs[0].length = Rw2.wide Xs := by
  unfold Rw2.wide
  rw [List.getD_eq_getElem?_getD, List.getElem?_eq_getElem h]; rfl
theorem wide_le {Xs : List Rw} (h : Rw2.rowsOk Xs = true) : Rw2.wide Xs ≤ 5 := by
  obtain ⟨h1, h2⟩ := Rw2.rowsOk_iff.1 h
  have h0 : 0 < Xs.length := by omega
  have := (Ma.mv_iff.1 (h2 _ (List.getElem_mem h0)).1).2
  rw [wide_at h0] at this; omega

set_option maxHeartbeats 3200000 in
theorem sMarksAgree_any (A : Option Addr) (n c : Nat) (Xs : List Rw) (W : World) (h : RdR W W.heap.size A n Xs) (hn : n ≤ 4194304) (hm : ∀ x ∈ Xs, x.length ≤ 4194304) :
    Calls Try.prog 8 #[.slice A n c] W (ResI W (Rw2.agL Xs) (Rw2.agOk Xs)) := by
  have HL := Lib.hid h.len
  have HSz := Lib.hid hm
  have HE := Lib.hid (fun w (hw : W.heap.size ≤ w.heap.size) => OwA.empty w W.heap.size hw)
  clear hm
  go_enter Try.func8, Try.ntmps8
  go_wp2_with fail
  go_loopw [5] (fun i wr => ∃ k : Nat, k ≤ n ∧ i = .int .i64 k ∧ Below W.heap.size W wr ∧ OwA wr W.heap.size (some ⟨W.heap.size, 0, none⟩) 0 0 [] ∧ ∀ j (hj : j < Xs.length), j < k → Rw2.rowOk Xs Xs[j] = true) (fun i _ => n - (intOf i).toNat)
  case atStart => exact ⟨0, Nat.zero_le _, rfl, (Below.refl _ _).alloc (Nat.le_refl _) _, HE.out W (Nat.le_refl _), fun j _ h => absurd h (by omega)⟩
  case round =>
    obtain ⟨k, hk, rfl, hb, ho, hp⟩ := hrel
    have HP := Lib.hid hp
    have HO := Lib.hid ho
    have hBs := hb.size
    clear hp ho
    by_cases hlt : k < n
    · have hk' : k < Xs.length := by have := HL.out; omega
      have h0' : 0 < Xs.length := by omega
      obtain ⟨b, off, rfl, hbB, hcell⟩ := (h.below hb).at_ hk'
      obtain ⟨Aj, cj, c0, c1, c2, c3⟩ := hcell k hk'
      obtain ⟨A0, ck0, d0, d1, d2, d3⟩ := hcell 0 h0'
      rw [Nat.add_zero, wide_at h0'] at d0
      have hlt' : (k : Int) < (n : Int) := by omega
      have hk0 : (0 : Int) ≤ (k : Int) := by omega
      have hn0 : (0 : Int) < (n : Int) := by omega
      have hbr : b < wr.heap.size := by omega
      have hsz := HSz.out _ (List.getElem_mem hk')
      have HBad := Lib.hid (fun hv => Rw2.agOk_rows (Rw2.rowsOk_bad (List.getElem_mem hk') hv))
      have HNx := Lib.hid (fun (hv : Rw2.rowOk Xs Xs[k] = true) => (show ∀ j (hj : j < Xs.length), j < k + 1 → Rw2.rowOk Xs Xs[j] = true from fun j hj hjk => by
        by_cases e : j = k
        · subst e; exact hv
        · exact HP.out j hj (by omega)))
      have HV0 := Lib.hid (fun x : Grown wr => same_below (sMarks_any Aj Xs[k].length cj Xs[k] x.val _ (c1.below (x.below.mono hBs)) hsz))
      have HRk := Lib.hid (show Rw2.rowOk Xs Xs[k] = (Ma.mv Xs[k] && decide (Xs[k].length = Rw2.wide Xs)) from rfl)
      clear h hcell c1 c2 c3 d1 d2 d3 hsz
      generalize Xs[k] = x0 at *
      have q0 : ∀ x : Grown wr, x.val.cell? ⟨b, off + k, none⟩ = some (.slice Aj x0.length cj) := fun x => x.cell hbr c0
      have q1 : ∀ x : Grown wr, x.val.cell? ⟨b, off, none⟩ = some (.slice A0 (Rw2.wide Xs) ck0) := fun x => x.cell hbr d0
      generalize Rw2.wide Xs = wd at *
      cases hv : Ma.mv x0 with
      | false =>
        have HV := Lib.hid (fun x : Grown wr => (by have := HV0.out x; rw [hv] at this; exact this))
        have HR := Lib.hid (show Rw2.agOk Xs = false ∧ Rw2.agL Xs = [] by
          have h1 := HBad.out (by rw [HRk.out, hv]; rfl)
          exact ⟨h1, Rw2.agL_f h1⟩)
        clear hv HV0
        generalize x0.length = l at *
        go_wp2_with fail
        refine wp_region_grow (by kernel_rfl) (by kernel_rfl) ?_
        repeat (go_big_quiet_step (exact Grown.call _ (HV.out _)))
        refine wpQuiet_nil ?_
        rintro _ ⟨x, rfl⟩
        have hx := hb.trans (x.below.mono hBs)
        go_wp2_with fail
        go_ret2
        exact ⟨_, 0, 0, ret_pair HR.out.1.symm, by rw [HR.out.2]; exact HE.out _ hx.size, hx.alloc hx.size _⟩
      | true =>
        have HV := Lib.hid (fun x : Grown wr => (by have := HV0.out x; rw [hv] at this; exact this))
        by_cases hl : x0.length = wd
        · have HN2 := Lib.hid (HNx.out (by rw [HRk.out, hv, hl]; simp))
          clear hv HV0
          subst hl
          generalize x0.length = wd at *
          have hne : ((wd : Int) != (wd : Int)) = false := by simp
          go_wp2_with fail
          refine wp_region_grow (by kernel_rfl) (by kernel_rfl) ?_
          repeat (go_big_quiet_step (exact Grown.call _ (HV.out _)))
          refine wpQuiet_nil ?_
          rintro _ ⟨x, rfl⟩
          have hx := hb.trans (x.below.mono hBs)
          go_wp2_with fail
          go_roundw
          case rel => exact ⟨k + 1, by omega, by go_num, hx, HO.out.below x.below, HN2.out⟩
          case measure => simp [intOf]; omega
        · have HR := Lib.hid (show Rw2.agOk Xs = false ∧ Rw2.agL Xs = [] by
            have h1 := HBad.out (by rw [HRk.out]; simp [hl])
            exact ⟨h1, Rw2.agL_f h1⟩)
          have hne : ((x0.length : Int) != (wd : Int)) = true := by simp; omega
          clear hv HV0 hl
          generalize x0.length = l at *
          go_wp2_with fail
          refine wp_region_grow (by kernel_rfl) (by kernel_rfl) ?_
          repeat (go_big_quiet_step (exact Grown.call _ (HV.out _)))
          refine wpQuiet_nil ?_
          rintro _ ⟨x, rfl⟩
          have hx := hb.trans (x.below.mono hBs)
          go_wp2_with fail
          go_ret2
          exact ⟨_, 0, 0, ret_pair HR.out.1.symm, by rw [HR.out.2]; exact HE.out _ hx.size, hx.alloc hx.size _⟩
    · have hlt' : ¬ (k : Int) < (n : Int) := by omega
      have HAll := Lib.hid (fun j (hj : j < Xs.length) => HP.out j hj (by have := HL.out; omega))
      by_cases hn5 : 1 ≤ (n : Int) ∧ (n : Int) ≤ 5
      · have hrows := rows_all HL.out (by omega) HAll.out
        have HRows := Lib.hid hrows
        have HW := Lib.hid (fun p hp => rows_wide hrows (p := p) hp)
        have h0' : 0 < Xs.length := by have := HL.out; omega
        have hw5 := wide_le hrows
        have HW0 := Lib.hid (wide_at h0')
        have hn0 : (0 : Int) < (n : Int) := by omega
        clear hrows
        go_wp2_with fail
        refine (l6In_t _ _ _ _ hn5).mono ?_
        rintro e w1 ⟨rfl, rfl⟩
        obtain ⟨wo, rfl⟩ : ∃ x, x = wr := ⟨wr, rfl⟩
        go_wp2_with fail
        go_loopw [4, 6] (fun v i wr => ∃ (p : Nat) (A' : Option Addr) (c' : Nat), p ≤ Rw2.wide Xs ∧ i = .int .i64 p ∧ v = .slice A' p c' ∧ OwA wr W.heap.size A' p c' ((List.range p).map (Rw2.most Xs)) ∧ Below W.heap.size W wr ∧ ∀ q, q < p → 0 ≤ Rw2.most Xs q) (fun _ i _ => Rw2.wide Xs - (intOf i).toNat)
        case atStart => exact ⟨0, _, 0, Nat.zero_le _, rfl, rfl, HO.out, hb, fun q h => absurd h (by omega)⟩
        case round =>
          obtain ⟨p, A', c', hp, rfl, rfl, ho2, hb2, hq⟩ := hrel
          have HO2 := Lib.hid ho2
          have HQ := Lib.hid hq
          have hBs2 := hb2.size
          clear ho2 hq HO hb hBs
          obtain ⟨b, off, rfl, hbB, hcell⟩ := (h.below hb2).at_ h0'
          obtain ⟨A0, ck0, d0, -, -, -⟩ := hcell 0 h0'
          rw [Nat.add_zero, HW0.out] at d0
          have HRd := Lib.hid (h.below hb2)
          clear h hcell
          by_cases hpl : p < Rw2.wide Xs
          · have hpl' : (p : Int) < (Rw2.wide Xs : Int) := by omega
            have HCt := Lib.hid (fun m => l2Count_any (some ⟨b, off, none⟩) n c Xs p m wr _ HRd.out hn (HW.out p hpl))
            have HSn := Lib.hid (range_snoc Xs p)
            have HPl := Lib.hid hpl
            generalize hwd : Rw2.wide Xs = wd at *
            go_wp2_with fail
            go_loop [7, 8] (fun v i => ∃ m : Nat, m ≤ 10 ∧ i = .int .i64 m ∧ v = .int .i64 (Rw2.best Xs p m)) (fun _ i => 10 - (intOf i).toNat)
            case atStart => exact ⟨0, by omega, rfl, rfl⟩
            case round =>
              obtain ⟨m, hm, rfl, rfl⟩ := hrel
              by_cases hm9 : m ≤ 9
              · have hm9' : (m : Int) ≤ 9 := by omega
                have hcl := Rw2.cnt_le Xs p (m : Int)
                have HC2 := Lib.hid (HCt.out (m : Int))
                have hc5 : Rw2.cnt Xs p (m : Int) ≤ 5 := by have := HL.out; omega
                have hMaj : Rw2.Maj Xs p (m : Int) ↔ (n : Int) < 2 * (Rw2.cnt Xs p (m : Int) : Int) := by unfold Rw2.Maj; rw [HL.out]; omega
                by_cases hmaj : Rw2.Maj Xs p (m : Int)
                · have hgt := hMaj.1 hmaj
                  have HBn := Lib.hid (show Rw2.best Xs p (m + 1) = m by unfold Rw2.best; rw [if_pos hmaj])
                  clear hMaj hmaj hcl
                  generalize Rw2.cnt Xs p (m : Int) = t at *
                  go_wp2_with fail
                  refine HC2.out.mono ?_
                  rintro e w3 ⟨rfl, rfl⟩
                  go_wp2_with fail
                  go_round
                  case rel => exact ⟨m + 1, by omega, by go_num, by rw [HBn.out]⟩
                  case measure => simp [intOf]; omega
                · have hgt : ¬ (n : Int) < 2 * (Rw2.cnt Xs p (m : Int) : Int) := fun h => hmaj (hMaj.2 h)
                  have HBn := Lib.hid (show Rw2.best Xs p (m + 1) = Rw2.best Xs p m by rw [Rw2.best, if_neg hmaj])
                  clear hMaj hmaj hcl
                  generalize Rw2.cnt Xs p (m : Int) = t at *
                  go_wp2_with fail
                  refine HC2.out.mono ?_
                  rintro e w3 ⟨rfl, rfl⟩
                  go_wp2_with fail
                  go_round
                  case rel => exact ⟨m + 1, by omega, by go_num, by rw [HBn.out]⟩
                  case measure => simp [intOf]; omega
              · obtain rfl : m = 10 := by omega
                have hmost : Rw2.best Xs p 10 = Rw2.most Xs p := rfl
                have hrg := Rw2.most_range Xs p
                rw [hmost]
                clear hmost
                by_cases hneg : Rw2.most Xs p < 0
                · have HR := Lib.hid (show Rw2.agOk Xs = false ∧ Rw2.agL Xs = [] by
                    have h1 := Rw2.agOk_place (p := p) (Xs := Xs) (by rw [hwd]; exact hpl) hneg
                    exact ⟨h1, Rw2.agL_f h1⟩)
                  generalize Rw2.most Xs p = v at *
                  go_wp2_with fail
                  go_ret2
                  exact ⟨_, 0, 0, ret_pair HR.out.1.symm, by rw [HR.out.2]; exact HE.out _ hb2.size, hb2.alloc hb2.size _⟩
                · have HQ2 := Lib.hid (show ∀ q, q < p + 1 → 0 ≤ Rw2.most Xs q from fun q hq => by
                    by_cases e : q = p
                    · subst e; omega
                    · exact HQ.out q (by omega))
                  generalize Rw2.most Xs p = v at *
                  go_wp2_with (at_builtin; refine wpList_app1 (by rfl) _ _ (by rfl) _ W.heap.size _ p c' _ _ (by rfl) HO2.out (by rfl) (by omega) hBs2 ?_)
                  intro g4 c4 w4 ho4 hb4 _ _
                  have hb5 := hb2.trans hb4
                  rw [← HSn.out] at ho4
                  have HO4 := Lib.hid ho4
                  clear ho4 hb4
                  go_wp2_with fail
                  go_roundw
                  case rel => exact ⟨p + 1, some ⟨g4, 0, none⟩, c4, by omega, by go_num, rfl, HO4.out, hb5, HQ2.out⟩
                  case measure => simp [intOf]; omega
          · obtain rfl : p = Rw2.wide Xs := by omega
            have HR := Lib.hid (show Rw2.agOk Xs = true ∧ Rw2.agL Xs = (List.range (Rw2.wide Xs)).map (Rw2.most Xs) by
              have h1 : Rw2.agOk Xs = true := Rw2.agOk_iff.2 ⟨HRows.out, HQ.out⟩
              exact ⟨h1, Rw2.agL_t h1⟩)
            have HO3 := Lib.hid (show OwA wr W.heap.size A' (Rw2.wide Xs) c' (Rw2.agL Xs) by rw [HR.out.2]; exact HO2.out)
            generalize Rw2.wide Xs = wd at *
            go_wp2_with fail
            go_ret2
            exact ⟨A', wd, c', ret_pair HR.out.1.symm, HO3.out, hb2⟩
      · have HR := Lib.hid (show Rw2.agOk Xs = false ∧ Rw2.agL Xs = [] by
          have h1 := Rw2.agOk_rows (Rw2.rowsOk_many (Xs := Xs) (by rw [HL.out]; omega))
          exact ⟨h1, Rw2.agL_f h1⟩)
        clear h
        go_wp2_with fail
        refine (l6In_f _ _ _ _ hn5).mono ?_
        rintro e w1 ⟨rfl, rfl⟩
        have hx := hb
        go_wp2_with fail
        go_ret2
        exact ⟨_, 0, 0, ret_pair HR.out.1.symm, by rw [HR.out.2]; exact HE.out _ hx.size, hx.alloc hx.size _⟩
end Go.Proofs.Ytnolnlhoedafcaa
