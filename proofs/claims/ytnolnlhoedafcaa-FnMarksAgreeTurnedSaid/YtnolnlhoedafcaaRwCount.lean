/- l2Count and mostRead: how many readers have read a mark. -/
import Derived.Test.YtnolnlhoedafcaaRwKit
import Derived.Test.YtnolnlhoedafcaaRwPlain
namespace Go.Proofs.Ytnolnlhoedafcaa
open Go.RowKit
set_option linter.unusedSimpArgs false

theorem getD_at {x : List Int} {p : Nat} (h : p < x.length) : x.getD p 0 = x[p] := by
  rw [List.getD_eq_getElem?_getD, List.getElem?_eq_getElem h]; rfl
set_option maxHeartbeats 800000 in
theorem l2Count_any (A : Option Addr) (n c : Nat) (Xs : List Rw) (p : Nat) (m : Int) (W : World) (B : Nat) (h : RdR W B A n Xs) (hn : n ≤ 4194304) (hp : ∀ x ∈ Xs, p < x.length) :
    Calls Try.prog 21 #[.slice A n c, .int .i64 (p : Int), .int .i64 m] W fun e w' => e = .returned (.int .i64 (Rw2.cnt Xs p m : Int)) ∧ W = w' := by
  have HL := Lib.hid h.len
  have HP := Lib.hid hp
  clear hp
  go_enter Try.func21, Try.ntmps21
  go_wp2_with fail
  go_loop [7, 8] (fun v i => ∃ k : Nat, k ≤ n ∧ i = .int .i64 k ∧ v = .int .i64 (Rw2.cnt (Xs.take k) p m : Int)) (fun _ i => n - (intOf i).toNat)
  case atStart => exact ⟨0, Nat.zero_le _, rfl, by simp [Rw2.cnt]⟩
  case round =>
    obtain ⟨k, hk, rfl, rfl⟩ := hrel
    by_cases hlt : k < n
    · have hk' : k < Xs.length := by have := HL.out; omega
      obtain ⟨b, off, rfl, hbB, hcell⟩ := h.at_ hk'
      obtain ⟨Aj, cj, c0, c1, c2, c3⟩ := hcell k hk'
      have hpl := HP.out _ (List.getElem_mem hk')
      obtain ⟨b2, off2, rfl, hb2, d0⟩ := c1.at_ hpl hpl
      have hlt' : (k : Int) < (n : Int) := by omega
      have hk0 : (0 : Int) ≤ (k : Int) := by omega
      have hS := Rw2.cnt_take_succ (Xs := Xs) p m hk'
      rw [getD_at hpl] at hS
      have hpl' : (p : Int) < (Xs[k].length : Int) := by omega
      have hp0 : (0 : Int) ≤ (p : Int) := by omega
      have hcl := Rw2.cnt_le (Xs.take k) p m
      have hcl2 : (Xs.take k).length ≤ k := List.length_take_le _ _
      generalize Xs[k][p] = y at *
      generalize Xs[k].length = l at *
      have hc : Rw2.cnt (Xs.take k) p m ≤ 4194304 := by omega
      clear h hcell c1 c2 c3 hpl hcl hcl2
      by_cases hy : y = m
      · rw [if_pos hy] at hS
        have HS := Lib.hid hS
        have hy' : (y == m) = true := by simpa using hy
        clear hS hy
        generalize Rw2.cnt (Xs.take k) p m = t at *
        go_wp2_with fail
        go_round
        case rel => exact ⟨k + 1, by omega, by go_num, by rw [HS.out]; go_num⟩
        case measure => simp [intOf]; omega
      · rw [if_neg hy] at hS
        have HS := Lib.hid hS
        have hy' : (y == m) = false := by simpa using hy
        clear hS hy
        generalize Rw2.cnt (Xs.take k) p m = t at *
        go_wp2_with fail
        go_round
        case rel => exact ⟨k + 1, by omega, by go_num, by rw [HS.out]; rfl⟩
        case measure => simp [intOf]; omega
    · have hlt' : ¬ (k : Int) < (n : Int) := by omega
      have HT := Lib.hid (show Xs.take k = Xs from List.take_of_length_le (by have := HL.out; omega))
      clear h
      go_wp2_with fail
      go_ret
      exact ⟨ret_int (by rw [HT.out]), rfl⟩

/-- ten counts in block g -/
def CntB (W : World) (g : Nat) (f : Nat → Int) : Prop := g < W.heap.size ∧ ∀ m, m < 10 → W.cell? ⟨g, m, none⟩ = some (.int .i64 (f m)) ∧ W.frozen? ⟨g, m, none⟩ = false
theorem CntB.set {W : World} {g m : Nat} {f f' : Nat → Int} (h : CntB W g f) (hm : m < 10) (v : Int) (h1 : f' m = v) (h2 : ∀ j, j ≠ m → f' j = f j) : CntB (W.setCell ⟨g, m, none⟩ (.int .i64 v)) g f' := by
  refine ⟨by simpa [World.setCell] using h.1, fun j hj => ?_⟩
  obtain ⟨c0, c1⟩ := h.2 j hj
  refine ⟨?_, by simpa using c1⟩
  by_cases e : j = m
  · subst e
    rw [h1]; exact World.cell?_setCell_same _ _ _ c0
  · rw [h2 j e]; exact (World.cell?_setCell_other _ _ _ _ (by simp <;> omega)).trans c0
theorem most_at {Xs : List Rw} {p m : Nat} (hm : m < 10) (h : Rw2.Maj Xs p (m : Int)) : Rw2.most Xs p = m := Rw2.best_of h 10 hm
theorem best_next {Xs : List Rw} {p m : Nat} (hb : Rw2.best Xs p m = -1) (h : ¬ Rw2.Maj Xs p (m : Int)) : Rw2.best Xs p (m + 1) = -1 := by
  unfold Rw2.best; rw [if_neg h]; exact hb
def MostPost (W : World) (v : Int) (e : Ending) (w' : World) : Prop := e = .returned (.tuple #[.int .i64 (if 0 ≤ v then v else 0), .bool (decide (0 ≤ v))]) ∧ Below W.heap.size W w'
set_option maxHeartbeats 1600000 in
theorem mostRead_any (A : Option Addr) (n c : Nat) (Xs : List Rw) (p : Nat) (W : World) (h : RdR W W.heap.size A n Xs) (hn : n ≤ 4194304) (hp : ∀ x ∈ Xs, p < x.length) (hv : ∀ x ∈ Xs, ∀ y ∈ x, 0 ≤ y ∧ y ≤ 9) :
    Calls Try.prog 24 #[.slice A n c, .int .i64 (p : Int)] W (MostPost W (Rw2.most Xs p)) := by
  have HL := Lib.hid h.len
  have HP := Lib.hid hp
  have HVv := Lib.hid hv
  have HC0 := Lib.hid (show CntB (W.alloc (.cells #[.int .i64 0, .int .i64 0, .int .i64 0, .int .i64 0, .int .i64 0, .int .i64 0, .int .i64 0, .int .i64 0, .int .i64 0, .int .i64 0] 46)) W.heap.size (fun m => (Rw2.cnt (Xs.take 0) p m : Int)) from
    ⟨by simp, fun m hm => by rcases (show m = 0 ∨ m = 1 ∨ m = 2 ∨ m = 3 ∨ m = 4 ∨ m = 5 ∨ m = 6 ∨ m = 7 ∨ m = 8 ∨ m = 9 by omega) with rfl | rfl | rfl | rfl | rfl | rfl | rfl | rfl | rfl | rfl <;> simp [go_sem, Rw2.cnt]⟩)
  clear hp hv
  go_enter Try.func24, Try.ntmps24
  go_wp2_with fail
  go_loopw [13] (fun i wr => ∃ k : Nat, k ≤ n ∧ i = .int .i64 k ∧ CntB wr W.heap.size (fun m => (Rw2.cnt (Xs.take k) p m : Int)) ∧ Below W.heap.size W wr) (fun i _ => n - (intOf i).toNat)
  case atStart => exact ⟨0, Nat.zero_le _, rfl, HC0.out, (Below.refl _ _).alloc (Nat.le_refl _) _⟩
  case round =>
    obtain ⟨k, hk, rfl, hc, hb⟩ := hrel
    have HC := Lib.hid hc
    have hBs := hb.size
    clear hc HC0
    by_cases hlt : k < n
    · have hk' : k < Xs.length := by have := HL.out; omega
      obtain ⟨b, off, rfl, hbB, hcell⟩ := (h.below hb).at_ hk'
      obtain ⟨Aj, cj, c0, c1, c2, c3⟩ := hcell k hk'
      have hpl := HP.out _ (List.getElem_mem hk')
      obtain ⟨b2, off2, rfl, hb2, d0⟩ := c1.at_ hpl hpl
      have hyr := HVv.out _ (List.getElem_mem hk') Xs[k][p] (List.getElem_mem hpl)
      have hlt' : (k : Int) < (n : Int) := by omega
      have hk0 : (0 : Int) ≤ (k : Int) := by omega
      have hS := fun m => Rw2.cnt_take_succ (Xs := Xs) p m hk'
      rw [getD_at hpl] at hS
      have hpl' : (p : Int) < (Xs[k].length : Int) := by omega
      have hp0 : (0 : Int) ≤ (p : Int) := by omega
      generalize Xs[k][p] = y at *
      generalize Xs[k].length = l at *
      obtain ⟨m, rfl⟩ : ∃ m : Nat, y = m := ⟨y.toNat, by omega⟩
      have hm : m < 10 := by omega
      have hm0 : (0 : Int) ≤ (m : Int) := by omega
      have hm10 : (m : Int) < 10 := by omega
      have q0 : wr.cell? ⟨W.heap.size, m, none⟩ = some (.int .i64 (Rw2.cnt (Xs.take k) p (m : Int) : Int)) := (HC.out.2 m hm).1
      have q1 : wr.frozen? ⟨W.heap.size, m, none⟩ = false := (HC.out.2 m hm).2
      have hcl := Rw2.cnt_le (Xs.take k) p (m : Int)
      have hcl2 : (Xs.take k).length ≤ k := List.length_take_le _ _
      have hc : Rw2.cnt (Xs.take k) p (m : Int) ≤ 4194304 := by omega
      have HN := Lib.hid (HC.out.set (f' := fun m => (Rw2.cnt (Xs.take (k + 1)) p m : Int)) hm ((Rw2.cnt (Xs.take k) p (m : Int) : Int) + 1) (by rw [hS, if_pos rfl]; omega) (fun j hj => by rw [hS, if_neg (by omega)]; omega))
      clear h hcell c1 c2 c3 hpl hcl hcl2 hS hyr
      generalize Rw2.cnt (Xs.take k) p (m : Int) = t at *
      go_wp2_with fail
      go_roundw
      case rel => exact ⟨k + 1, by omega, by go_num, HN.out, hb.setCell (Nat.le_refl _) _⟩
      case measure => simp [intOf]; omega
    · have hlt' : ¬ (k : Int) < (n : Int) := by omega
      have hT : Xs.take k = Xs := List.take_of_length_le (by have := HL.out; omega)
      have hc := HC.out
      rw [hT] at hc
      obtain ⟨f, hf⟩ : ∃ f : Nat → Int, ∀ m, f m = (Rw2.cnt Xs p (m : Int) : Int) := ⟨_, fun _ => rfl⟩
      have hff : (fun m : Nat => (Rw2.cnt Xs p (m : Int) : Int)) = f := funext fun m => (hf m).symm
      rw [hff] at hc
      have HB := Lib.hid (fun m => (show 0 ≤ f m ∧ f m ≤ 4194304 by have h1 := Rw2.cnt_le Xs p (m : Int); have h2 := HL.out; have h3 := hf m; omega))
      have HM := Lib.hid (fun m : Nat => (show Rw2.Maj Xs p (m : Int) ↔ (n : Int) < 2 * f m by unfold Rw2.Maj; rw [hf m, HL.out]; omega))
      obtain ⟨g0, -⟩ := hc.2 0 (by omega)
      obtain ⟨g1, -⟩ := hc.2 1 (by omega)
      obtain ⟨g2, -⟩ := hc.2 2 (by omega)
      obtain ⟨g3, -⟩ := hc.2 3 (by omega)
      obtain ⟨g4, -⟩ := hc.2 4 (by omega)
      obtain ⟨g5, -⟩ := hc.2 5 (by omega)
      obtain ⟨g6, -⟩ := hc.2 6 (by omega)
      obtain ⟨g7, -⟩ := hc.2 7 (by omega)
      obtain ⟨g8, -⟩ := hc.2 8 (by omega)
      obtain ⟨g9, -⟩ := hc.2 9 (by omega)
      clear h hc hff hf hT HC
      go_wp2_with fail
      go_loop [27] (fun i => ∃ m : Nat, m ≤ 10 ∧ i = .int .i64 m ∧ Rw2.best Xs p m = -1) (fun i => 10 - (intOf i).toNat)
      case atStart => exact ⟨0, by omega, rfl, rfl⟩
      case round =>
        obtain ⟨m, hm, rfl, hbest⟩ := hrel
        have HBest := Lib.hid hbest
        clear hbest
        by_cases hlm : m < 10
        · have hb1 := HB.out m
          have HM1 := Lib.hid (HM.out m)
          clear g0 g1 g2 g3 g4 g5 g6 g7 g8 g9
          rcases (show m = 0 ∨ m = 1 ∨ m = 2 ∨ m = 3 ∨ m = 4 ∨ m = 5 ∨ m = 6 ∨ m = 7 ∨ m = 8 ∨ m = 9 by omega) with rfl | rfl | rfl | rfl | rfl | rfl | rfl | rfl | rfl | rfl
          · have ix : ∀ w, (Instr.index 46 (.agg #[.int .i64 (f 0), .int .i64 (f 1), .int .i64 (f 2), .int .i64 (f 3), .int .i64 (f 4), .int .i64 (f 5), .int .i64 (f 6), .int .i64 (f 7), .int .i64 (f 8), .int .i64 (f 9)]) (.int .i64 (0))).run Try.prog w = .ok (.int .i64 (f 0)) w := fun _ => by kernel_rfl
            by_cases hmaj : (n : Int) < 2 * f 0
            · have HR := Lib.hid (most_at (p := p) (Xs := Xs) (m := 0) (by omega) (HM1.out.2 hmaj))
              go_wp2_with fail
              go_ret2
              exact ⟨by rw [HR.out]; rfl, hb⟩
            · have HR := Lib.hid (best_next HBest.out (fun hx => hmaj (HM1.out.1 hx)))
              go_wp2_with fail
              go_round
              case rel => exact ⟨1, by omega, rfl, HR.out⟩
              case measure => simp [intOf]
          · have ix : ∀ w, (Instr.index 46 (.agg #[.int .i64 (f 0), .int .i64 (f 1), .int .i64 (f 2), .int .i64 (f 3), .int .i64 (f 4), .int .i64 (f 5), .int .i64 (f 6), .int .i64 (f 7), .int .i64 (f 8), .int .i64 (f 9)]) (.int .i64 (1))).run Try.prog w = .ok (.int .i64 (f 1)) w := fun _ => by kernel_rfl
            by_cases hmaj : (n : Int) < 2 * f 1
            · have HR := Lib.hid (most_at (p := p) (Xs := Xs) (m := 1) (by omega) (HM1.out.2 hmaj))
              go_wp2_with fail
              go_ret2
              exact ⟨by rw [HR.out]; rfl, hb⟩
            · have HR := Lib.hid (best_next HBest.out (fun hx => hmaj (HM1.out.1 hx)))
              go_wp2_with fail
              go_round
              case rel => exact ⟨2, by omega, rfl, HR.out⟩
              case measure => simp [intOf]
          · have ix : ∀ w, (Instr.index 46 (.agg #[.int .i64 (f 0), .int .i64 (f 1), .int .i64 (f 2), .int .i64 (f 3), .int .i64 (f 4), .int .i64 (f 5), .int .i64 (f 6), .int .i64 (f 7), .int .i64 (f 8), .int .i64 (f 9)]) (.int .i64 (2))).run Try.prog w = .ok (.int .i64 (f 2)) w := fun _ => by kernel_rfl
            by_cases hmaj : (n : Int) < 2 * f 2
            · have HR := Lib.hid (most_at (p := p) (Xs := Xs) (m := 2) (by omega) (HM1.out.2 hmaj))
              go_wp2_with fail
              go_ret2
              exact ⟨by rw [HR.out]; rfl, hb⟩
            · have HR := Lib.hid (best_next HBest.out (fun hx => hmaj (HM1.out.1 hx)))
              go_wp2_with fail
              go_round
              case rel => exact ⟨3, by omega, rfl, HR.out⟩
              case measure => simp [intOf]
          · have ix : ∀ w, (Instr.index 46 (.agg #[.int .i64 (f 0), .int .i64 (f 1), .int .i64 (f 2), .int .i64 (f 3), .int .i64 (f 4), .int .i64 (f 5), .int .i64 (f 6), .int .i64 (f 7), .int .i64 (f 8), .int .i64 (f 9)]) (.int .i64 (3))).run Try.prog w = .ok (.int .i64 (f 3)) w := fun _ => by kernel_rfl
            by_cases hmaj : (n : Int) < 2 * f 3
            · have HR := Lib.hid (most_at (p := p) (Xs := Xs) (m := 3) (by omega) (HM1.out.2 hmaj))
              go_wp2_with fail
              go_ret2
              exact ⟨by rw [HR.out]; rfl, hb⟩
            · have HR := Lib.hid (best_next HBest.out (fun hx => hmaj (HM1.out.1 hx)))
              go_wp2_with fail
              go_round
              case rel => exact ⟨4, by omega, rfl, HR.out⟩
              case measure => simp [intOf]
          · have ix : ∀ w, (Instr.index 46 (.agg #[.int .i64 (f 0), .int .i64 (f 1), .int .i64 (f 2), .int .i64 (f 3), .int .i64 (f 4), .int .i64 (f 5), .int .i64 (f 6), .int .i64 (f 7), .int .i64 (f 8), .int .i64 (f 9)]) (.int .i64 (4))).run Try.prog w = .ok (.int .i64 (f 4)) w := fun _ => by kernel_rfl
            by_cases hmaj : (n : Int) < 2 * f 4
            · have HR := Lib.hid (most_at (p := p) (Xs := Xs) (m := 4) (by omega) (HM1.out.2 hmaj))
              go_wp2_with fail
              go_ret2
              exact ⟨by rw [HR.out]; rfl, hb⟩
            · have HR := Lib.hid (best_next HBest.out (fun hx => hmaj (HM1.out.1 hx)))
              go_wp2_with fail
              go_round
              case rel => exact ⟨5, by omega, rfl, HR.out⟩
              case measure => simp [intOf]
          · have ix : ∀ w, (Instr.index 46 (.agg #[.int .i64 (f 0), .int .i64 (f 1), .int .i64 (f 2), .int .i64 (f 3), .int .i64 (f 4), .int .i64 (f 5), .int .i64 (f 6), .int .i64 (f 7), .int .i64 (f 8), .int .i64 (f 9)]) (.int .i64 (5))).run Try.prog w = .ok (.int .i64 (f 5)) w := fun _ => by kernel_rfl
            by_cases hmaj : (n : Int) < 2 * f 5
            · have HR := Lib.hid (most_at (p := p) (Xs := Xs) (m := 5) (by omega) (HM1.out.2 hmaj))
              go_wp2_with fail
              go_ret2
              exact ⟨by rw [HR.out]; rfl, hb⟩
            · have HR := Lib.hid (best_next HBest.out (fun hx => hmaj (HM1.out.1 hx)))
              go_wp2_with fail
              go_round
              case rel => exact ⟨6, by omega, rfl, HR.out⟩
              case measure => simp [intOf]
          · have ix : ∀ w, (Instr.index 46 (.agg #[.int .i64 (f 0), .int .i64 (f 1), .int .i64 (f 2), .int .i64 (f 3), .int .i64 (f 4), .int .i64 (f 5), .int .i64 (f 6), .int .i64 (f 7), .int .i64 (f 8), .int .i64 (f 9)]) (.int .i64 (6))).run Try.prog w = .ok (.int .i64 (f 6)) w := fun _ => by kernel_rfl
            by_cases hmaj : (n : Int) < 2 * f 6
            · have HR := Lib.hid (most_at (p := p) (Xs := Xs) (m := 6) (by omega) (HM1.out.2 hmaj))
              go_wp2_with fail
              go_ret2
              exact ⟨by rw [HR.out]; rfl, hb⟩
            · have HR := Lib.hid (best_next HBest.out (fun hx => hmaj (HM1.out.1 hx)))
              go_wp2_with fail
              go_round
              case rel => exact ⟨7, by omega, rfl, HR.out⟩
              case measure => simp [intOf]
          · have ix : ∀ w, (Instr.index 46 (.agg #[.int .i64 (f 0), .int .i64 (f 1), .int .i64 (f 2), .int .i64 (f 3), .int .i64 (f 4), .int .i64 (f 5), .int .i64 (f 6), .int .i64 (f 7), .int .i64 (f 8), .int .i64 (f 9)]) (.int .i64 (7))).run Try.prog w = .ok (.int .i64 (f 7)) w := fun _ => by kernel_rfl
            by_cases hmaj : (n : Int) < 2 * f 7
            · have HR := Lib.hid (most_at (p := p) (Xs := Xs) (m := 7) (by omega) (HM1.out.2 hmaj))
              go_wp2_with fail
              go_ret2
              exact ⟨by rw [HR.out]; rfl, hb⟩
            · have HR := Lib.hid (best_next HBest.out (fun hx => hmaj (HM1.out.1 hx)))
              go_wp2_with fail
              go_round
              case rel => exact ⟨8, by omega, rfl, HR.out⟩
              case measure => simp [intOf]
          · have ix : ∀ w, (Instr.index 46 (.agg #[.int .i64 (f 0), .int .i64 (f 1), .int .i64 (f 2), .int .i64 (f 3), .int .i64 (f 4), .int .i64 (f 5), .int .i64 (f 6), .int .i64 (f 7), .int .i64 (f 8), .int .i64 (f 9)]) (.int .i64 (8))).run Try.prog w = .ok (.int .i64 (f 8)) w := fun _ => by kernel_rfl
            by_cases hmaj : (n : Int) < 2 * f 8
            · have HR := Lib.hid (most_at (p := p) (Xs := Xs) (m := 8) (by omega) (HM1.out.2 hmaj))
              go_wp2_with fail
              go_ret2
              exact ⟨by rw [HR.out]; rfl, hb⟩
            · have HR := Lib.hid (best_next HBest.out (fun hx => hmaj (HM1.out.1 hx)))
              go_wp2_with fail
              go_round
              case rel => exact ⟨9, by omega, rfl, HR.out⟩
              case measure => simp [intOf]
          · have ix : ∀ w, (Instr.index 46 (.agg #[.int .i64 (f 0), .int .i64 (f 1), .int .i64 (f 2), .int .i64 (f 3), .int .i64 (f 4), .int .i64 (f 5), .int .i64 (f 6), .int .i64 (f 7), .int .i64 (f 8), .int .i64 (f 9)]) (.int .i64 (9))).run Try.prog w = .ok (.int .i64 (f 9)) w := fun _ => by kernel_rfl
            by_cases hmaj : (n : Int) < 2 * f 9
            · have HR := Lib.hid (most_at (p := p) (Xs := Xs) (m := 9) (by omega) (HM1.out.2 hmaj))
              go_wp2_with fail
              go_ret2
              exact ⟨by rw [HR.out]; rfl, hb⟩
            · have HR := Lib.hid (best_next HBest.out (fun hx => hmaj (HM1.out.1 hx)))
              go_wp2_with fail
              go_round
              case rel => exact ⟨10, by omega, rfl, HR.out⟩
              case measure => simp [intOf]
        · obtain rfl : m = 10 := by omega
          have HR := Lib.hid (show Rw2.most Xs p = -1 from HBest.out)
          clear g0 g1 g2 g3 g4 g5 g6 g7 g8 g9
          go_wp2_with fail
          go_ret2
          exact ⟨by rw [HR.out]; rfl, hb⟩
end Go.Proofs.Ytnolnlhoedafcaa
