/- l91Ballot draws a ballot. -/
import Derived.Test.YtnolnlhoedafcaaDrawKit
import Derived.Test.YtnolnlhoedafcaaBaWalk
namespace Go.Proofs.Ytnolnlhoedafcaa
open Go.RowKit

set_option linter.unusedSimpArgs false
set_option maxHeartbeats 6400000 in
theorem l91Ballot_any (g P : Nat) (m : Int) (W : World) (hP : P ≤ 900000) (hr : Rdr W g P) (h0 : 0 ≤ m) (h1 : m ≤ 1000) :
    Calls Try.prog 30 #[.pointer (some ⟨g, 0, none⟩), .int .i64 m] W (DrawI W g (P + 13) 10) := by
  have hd := Dr.start hr
  have hgl := hr.lt
  have HE := Lib.hid (OwA.empty W W.heap.size (Nat.le_refl _))
  clear hr
  go_enter Try.func30, Try.ntmps30
  go_wp2_with fail
  refine (pickD_any _ (hd.alloc _) (by omega)).mono ?_
  rintro e w1 ⟨many, rfl, -, -, hd1, hg1, -⟩
  have HO := Lib.hid (HE.out.pick hg1 hgl)
  clear hd hg1
  go_wp2_with fail
  go_loopw [5, 7] (fun v i wr => ∃ (k n : Nat) (A : Option Addr) (c : Nat) (xs : List Int), k ≤ 9 ∧ n ≤ k ∧ i = .int .i64 k ∧ v = .slice A n c ∧ OwA wr W.heap.size A n c xs ∧ Dr W g (P + 1 + k) wr) (fun _ i _ => 9 - (intOf i).toNat)
  case atStart => exact ⟨0, 0, _, _, _, by omega, by omega, rfl, rfl, HO.out, hd1⟩
  case round =>
    obtain ⟨k, n, A, c, xs, hk, hnk, rfl, rfl, ho, hd⟩ := hrel
    clear HO hd1
    have HO := Lib.hid ho
    clear ho
    have hBs := hd.size
    by_cases hlt : (k : Int) < 9 ∧ (n : Int) < many
    · obtain ⟨hk9, hnm⟩ := hlt
      go_wp2_with fail
      refine (pickD_any _ hd (by omega)).mono ?_
      rintro e w2 ⟨v, rfl, -, -, hd2, hg2, -⟩
      have HO2 := Lib.hid (HO.out.pick hg2 hgl)
      have hBs2 := hd2.size
      clear hg2 hd
      cases hv : xs.contains v with
      | true =>
        have HC := Lib.hid (l1Has_b true A n c xs v w2 _ HO2.out.rd (by omega) hv)
        clear hv
        go_wp2_with fail
        refine HC.out.mono ?_
        rintro e w3 ⟨rfl, rfl⟩
        go_wp2_with fail
        go_roundw
        case rel => exact ⟨k + 1, n, A, c, xs, by omega, by omega, by go_num, rfl, HO2.out, hd2.mono (by omega)⟩
        case measure => simp [intOf]; omega
      | false =>
        have HC := Lib.hid (l1Has_b false A n c xs v w2 _ HO2.out.rd (by omega) hv)
        clear hv
        go_wp2_with fail
        refine HC.out.mono ?_
        rintro e w3 ⟨rfl, rfl⟩
        go_wp2_with (at_builtin; refine wpList_app1 (by rfl) _ _ (by rfl) _ W.heap.size A n c _ _ (by rfl) HO2.out (by rfl) (by omega) hBs2 ?_)
        intro g2 cap w4 ho4 hb4 _ _
        have hd4 := hd2.belowB (hb4.mono (Nat.le_refl _))
        have HO4 := Lib.hid ho4
        clear ho4 hb4
        go_wp2_with fail
        go_roundw
        case rel => exact ⟨k + 1, n + 1, _, _, _, by omega, by omega, by go_num, rfl, HO4.out, hd4.mono (by omega)⟩
        case measure => simp [intOf]; omega
    · by_cases hn0 : 0 < n
      · have hn0' : (0 : Int) < (n : Int) := by omega
        have hlt1 : ¬ ((k : Int) < 9 ∧ (n : Int) < many) := hlt
        obtain ⟨ga, rfl, hBg, hgl2, hcell⟩ := HO.out.at_ hn0
        obtain ⟨hc, _⟩ := hcell 0 hn0
        clear hcell
        generalize xs.getD 0 0 = y at hc
        by_cases hk9 : (k : Int) < 9
        all_goals
          have hnm : ¬ ((k : Int) < 9 ∧ (n : Int) < many) := hlt
          clear hlt hlt1
          try have hnm' : ¬ (n : Int) < many := fun h => hnm ⟨hk9, h⟩
          clear hnm
          go_wp2_with fail
          refine (pickD_any _ hd (by omega)).mono ?_
          rintro e w2 ⟨v, rfl, hv0, hv1, hd2, hg2, hz2⟩
          have HO2 := Lib.hid (HO.out.pick hg2 hgl)
          have hBs2 := hd2.size
          have hc2 : w2.cell? ⟨ga, 0, none⟩ = some (.int .i64 y) := ((gcell hg2).1 ga 0 hgl2 (by omega)).trans hc
          have hgl3 : ga < w2.heap.size := by have := hg2.size; omega
          have HZ2 := Lib.hid hz2
          clear hg2 hd hc hz2
          by_cases hv : v = 0
          · subst hv
            clear hv0 hv1
            go_wp2_with fail
            have hne2 : ¬ w2.heap.size = g := by omega
            have hne2' : ¬ g = w2.heap.size := by omega
            have hgl' : g < w2.heap.size := by omega
            go_region_law (first
              | (refine step_pick (by rfl) _ _ _ (by rfl) (W := W) (P := P + 1 + k + 1) (by rfl) (by rfl) ?_ (by omega) ?_; (first | exact hd2.drew | exact (hd2.alloc _).drew); intro v3 w3 hv30 hv31 hd3 hg3 hz3; have hv31' := hv31 (by omega); obtain ⟨x3, hx3⟩ := lit3 v3 hv30 hv31' y (-1) 5; have HO3 : OwA w3 W.heap.size _ n c xs := (by first | exact (HO2.out.drew).pick hg3 hgl | exact ((HO2.out.alloc _).drew).pick hg3 hgl); have hBs3 := hd3.size; have hs3 : w2.heap.size ≤ w3.heap.size := Nat.le_trans (by simp) hg3.size; obtain ⟨gc3, gf3⟩ := gcell hg3; have hc3 : w3.cell? ⟨ga, 0, none⟩ = some (.int .i64 y) := (gc3 ga 0 (Nat.lt_of_lt_of_le hgl3 (by simp)) (by omega)).trans (by first | exact Reg.keepa hgl3 hc2 | exact hc2); have hne3 : ¬ w3.heap.size = g := (by omega); have hga3 : ga < w3.heap.size := (by omega); have HZ3 := Lib.hid hz3; clear hv31 hz3 hg3)
              | (refine step_app1 (by rfl) _ _ (by rfl) (B := W.heap.size) (xs := xs) (y := x3) (by rfl) _ _ (by rfl) (by first | exact (HO3.alloc _).alloc _ | exact HO3.alloc _) (by first | exact cell_one_new _ _ _ | simp [go_sem]) (by omega) (by simp; omega) ?_; intro A5 c5 w5 ho5 hb5 _ _; have hd5 := (by first | exact ((hd3.alloc _).alloc _).belowB hb5 | exact (hd3.alloc _).belowB hb5)))
            all_goals
              go_wp2_with fail
              go_ret
              exact ⟨_, n + 1, _, _, rfl, ho5, by omega, hd5.mono (by omega)⟩
          · have hv' : (v == 0) = false := by simpa using hv
            clear hv
            go_wp2_with fail
            go_ret
            exact ⟨_, n, c, xs, rfl, HO2.out, by omega, hd2.mono (by omega)⟩
      · have hn0' : ¬ (0 : Int) < (n : Int) := by omega
        by_cases hk9 : (k : Int) < 9
        all_goals
          have hnm : ¬ ((k : Int) < 9 ∧ (n : Int) < many) := hlt
          clear hlt
          try have hnm' : ¬ (n : Int) < many := fun h => hnm ⟨hk9, h⟩
          clear hnm
          go_wp2_with fail
          go_ret
          exact ⟨_, n, c, xs, rfl, HO.out, by omega, hd.mono (by omega)⟩
end Go.Proofs.Ytnolnlhoedafcaa
