/- Contracts of LotsSeal, FracLess, FracOf, toFrac and eqFrac. -/
import Derived.Test.YtfahgdindfggoaaFrWalkA
namespace Go.Proofs.Ytfahgdindfggoaa
open Go.RowKit

theorem bfacts {w W w1 : World} {k : Nat} (hb : Below W.heap.size W w1) (hw : Below w.heap.size w W) (hk : w.heap.size + k < W.heap.size) :
    Below w.heap.size w w1 ∧ w.heap.size + k < w1.heap.size ∧ (∀ b o, b < W.heap.size → w1.cell? ⟨b, o, none⟩ = W.cell? ⟨b, o, none⟩) ∧ (∀ b o, b < W.heap.size → w1.frozen? ⟨b, o, none⟩ = W.frozen? ⟨b, o, none⟩) :=
  ⟨hw.trans (hb.mono hw.size), by have := hb.size; omega, fun b o h => hb.cell (p := ⟨b, o, none⟩) h, fun b o h => hb.frozen (p := ⟨b, o, none⟩) h⟩

theorem iLotsSeal_any (s q : Int) (w : World) :
    Calls Try.prog 17 #[.int .i64 s, .int .i64 q] w fun e w' => e = .returned (.int .i64 (Frp.sealV s q)) ∧ w = w' := by
  go_enter Try.func17, Try.ntmps17
  go_wp2
  all_goals
    go_ret
    exact ⟨ret_int (by first | exact (Frp.sealV_out (by omega)).symm | exact (Frp.sealV_in (by omega)).symm), rfl⟩

theorem sLotsSeal_any (s q : Int) (w : World) :
    Calls Try.prog 16 #[.int .i64 s, .int .i64 q] w fun e w' => e = .returned (.int .i64 (Frp.sealV s q)) ∧ w = w' := by
  by_cases h1 : 0 ≤ s ∧ s ≤ 999
  · by_cases h2 : 0 ≤ q ∧ q ≤ 999
    · obtain ⟨h1a, h1b⟩ := h1
      obtain ⟨h2a, h2b⟩ := h2
      go_enter Try.func16, Try.ntmps16
      go_wp2_with (first | (go_at_call 35; (first | refine (l6In_t _ _ _ _ (by omega)).mono ?_ | refine (l6In_f _ _ _ _ (by omega)).mono ?_); rintro e w1 ⟨rfl, rfl⟩))
      go_ret
      exact ⟨ret_int (Frp.sealV_in (by omega)).symm, rfl⟩
    · rcases (show q < 0 ∨ 999 < q by omega) with h2 | h2
      all_goals
        obtain ⟨h1a, h1b⟩ := h1
        go_enter Try.func16, Try.ntmps16
        go_wp2_with (first | (go_at_call 35; (first | refine (l6In_t _ _ _ _ (by omega)).mono ?_ | refine (l6In_f _ _ _ _ (by omega)).mono ?_); rintro e w1 ⟨rfl, rfl⟩))
        go_ret
        exact ⟨ret_int (Frp.sealV_out (by omega)).symm, rfl⟩
  · rcases (show s < 0 ∨ 999 < s by omega) with h2 | h2
    all_goals
      go_enter Try.func16, Try.ntmps16
      go_wp2_with (first | (go_at_call 35; (first | refine (l6In_t _ _ _ _ (by omega)).mono ?_ | refine (l6In_f _ _ _ _ (by omega)).mono ?_); rintro e w1 ⟨rfl, rfl⟩))
      go_ret
      exact ⟨ret_int (Frp.sealV_out (by omega)).symm, rfl⟩

theorem toFrac_any (n d : Int) (w : World) :
    Calls Try.prog 20 #[.agg #[.int .i64 n, .int .i64 d]] w fun e w' => e = .returned (.agg #[.int .i64 n, .int .i64 d]) ∧ Below w.heap.size w w' := by
  go_enter Try.func20, Try.ntmps20
  go_wp2
  refine bodyPost_ret (v := .agg #[.int .i64 n, .int .i64 d]) (by simp [results, Try.results20, go_sem]) rfl ⟨rfl, ?_⟩
  go_grown

theorem eqFrac_any (a b c d : Int) (w : World) :
    Calls Try.prog 26 #[.agg #[.int .i64 a, .int .i64 b], .agg #[.int .i64 c, .int .i64 d]] w fun e w' => e = .returned (.bool (decide (a = c) && decide (b = d))) ∧ Below w.heap.size w w' := by
  by_cases h1 : a = c
  · subst h1
    by_cases h2 : b = d
    · subst h2
      go_enter Try.func26, Try.ntmps26
      go_wp2
      go_ret
      exact ⟨ret_bool (by simp), by go_grown⟩
    · have h2' : (b != d) = true := by simpa using h2
      go_enter Try.func26, Try.ntmps26
      go_wp2
      go_ret
      exact ⟨ret_bool (by simp [h2]), by go_grown⟩
  · have h1' : (a != c) = true := by simpa using h1
    go_enter Try.func26, Try.ntmps26
    go_wp2
    go_ret
    exact ⟨ret_bool (by simp [h1]), by go_grown⟩

theorem iFracLess_any (a b c d : Int) (w : World) :
    Calls Try.prog 23 #[.agg #[.int .i64 a, .int .i64 b], .agg #[.int .i64 c, .int .i64 d]] w fun e w' => e = .returned (.bool (Frp.less a b c d)) ∧ Below w.heap.size w w' := by
  have hB : ∀ o o', Below w.heap.size w ((w.alloc o).alloc o') := fun o o' => by go_grown
  by_cases h1 : Frp.fv a b = true
  · by_cases h2 : Frp.fv c d = true
    · have f1 := Frp.fv_iff.1 h1
      have f2 := Frp.fv_iff.1 h2
      obtain ⟨f11, f12, f13, f14, _⟩ := f1
      obtain ⟨f21, f22, f23, f24, _⟩ := f2
      obtain ⟨p1, p2⟩ := Frp.prod_bound f11 f12 (show -9999999 ≤ d by omega) f24
      obtain ⟨p3, p4⟩ := Frp.prod_bound f21 f22 (show -9999999 ≤ b by omega) f14
      go_enter Try.func23, Try.ntmps23
      go_wp2_with fail
      refine (iFracValid_any _ _ _).mono ?_
      rintro e w1 ⟨rfl, hb1⟩
      obtain ⟨hbw1, hz1, hc1, hf1⟩ := bfacts (k := 1) hb1 (hB _ _) (by simp)
      have hz1' : w.heap.size < w1.heap.size := by omega
      go_wp2_with fail
      refine (iFracValid_any _ _ _).mono ?_
      rintro e w2 ⟨rfl, hb2⟩
      obtain ⟨hbw2, hz2, hc2, hf2⟩ := bfacts (k := 1) hb2 hbw1 hz1
      have hz2' : w.heap.size < w2.heap.size := by omega
      go_wp2_with fail
      go_ret
      exact ⟨ret_bool (by simp [Frp.less, h1, h2]), hbw2⟩
    · have h2' : Frp.fv c d = false := by simpa using h2
      clear h2
      go_enter Try.func23, Try.ntmps23
      go_wp2_with fail
      refine (iFracValid_any _ _ _).mono ?_
      rintro e w1 ⟨rfl, hb1⟩
      obtain ⟨hbw1, hz1, hc1, hf1⟩ := bfacts (k := 1) hb1 (hB _ _) (by simp)
      have hz1' : w.heap.size < w1.heap.size := by omega
      go_wp2_with fail
      refine (iFracValid_any _ _ _).mono ?_
      rintro e w2 ⟨rfl, hb2⟩
      obtain ⟨hbw2, hz2, hc2, hf2⟩ := bfacts (k := 1) hb2 hbw1 hz1
      have hz2' : w.heap.size < w2.heap.size := by omega
      go_wp2_with fail
      go_ret
      exact ⟨ret_bool (by simp [Frp.less, h2']), hbw2⟩
  · have h1' : Frp.fv a b = false := by simpa using h1
    clear h1
    go_enter Try.func23, Try.ntmps23
    go_wp2_with fail
    refine (iFracValid_any _ _ _).mono ?_
    rintro e w1 ⟨rfl, hb1⟩
    obtain ⟨hbw1, hz1, hc1, hf1⟩ := bfacts (k := 1) hb1 (hB _ _) (by simp)
    have hz1' : w.heap.size < w1.heap.size := by omega
    go_wp2_with fail
    go_ret
    exact ⟨ret_bool (by simp [Frp.less, h1']), hbw1⟩

theorem sFracLess_any (a b c d : Int) (w : World) :
    Calls Try.prog 22 #[.agg #[.int .i64 a, .int .i64 b], .agg #[.int .i64 c, .int .i64 d]] w fun e w' => e = .returned (.bool (Frp.less a b c d)) ∧ Below w.heap.size w w' := by
  have hB : ∀ o o', Below w.heap.size w ((w.alloc o).alloc o') := fun o o' => by go_grown
  by_cases h1 : Frp.fv a b = true
  · by_cases h2 : Frp.fv c d = true
    · have f1 := Frp.fv_iff.1 h1
      have f2 := Frp.fv_iff.1 h2
      obtain ⟨f11, f12, f13, f14, _⟩ := f1
      obtain ⟨f21, f22, f23, f24, _⟩ := f2
      obtain ⟨p1, p2⟩ := Frp.prod_bound f11 f12 (show -9999999 ≤ d by omega) f24
      obtain ⟨p3, p4⟩ := Frp.prod_bound f21 f22 (show -9999999 ≤ b by omega) f14
      go_enter Try.func22, Try.ntmps22
      go_wp2_with fail
      refine (sFracValid_any _ _ _).mono ?_
      rintro e w1 ⟨rfl, hb1⟩
      obtain ⟨hbw1, hz1, hc1, hf1⟩ := bfacts (k := 1) hb1 (hB _ _) (by simp)
      have hz1' : w.heap.size < w1.heap.size := by omega
      go_wp2_with fail
      refine (sFracValid_any _ _ _).mono ?_
      rintro e w2 ⟨rfl, hb2⟩
      obtain ⟨hbw2, hz2, hc2, hf2⟩ := bfacts (k := 1) hb2 hbw1 hz1
      have hz2' : w.heap.size < w2.heap.size := by omega
      go_wp2_with fail
      go_ret
      exact ⟨ret_bool (by simp [Frp.less, h1, h2]), hbw2⟩
    · have h2' : Frp.fv c d = false := by simpa using h2
      clear h2
      go_enter Try.func22, Try.ntmps22
      go_wp2_with fail
      refine (sFracValid_any _ _ _).mono ?_
      rintro e w1 ⟨rfl, hb1⟩
      obtain ⟨hbw1, hz1, hc1, hf1⟩ := bfacts (k := 1) hb1 (hB _ _) (by simp)
      have hz1' : w.heap.size < w1.heap.size := by omega
      go_wp2_with fail
      refine (sFracValid_any _ _ _).mono ?_
      rintro e w2 ⟨rfl, hb2⟩
      obtain ⟨hbw2, hz2, hc2, hf2⟩ := bfacts (k := 1) hb2 hbw1 hz1
      have hz2' : w.heap.size < w2.heap.size := by omega
      go_wp2_with fail
      go_ret
      exact ⟨ret_bool (by simp [Frp.less, h2']), hbw2⟩
  · have h1' : Frp.fv a b = false := by simpa using h1
    clear h1
    go_enter Try.func22, Try.ntmps22
    go_wp2_with fail
    refine (sFracValid_any _ _ _).mono ?_
    rintro e w1 ⟨rfl, hb1⟩
    obtain ⟨hbw1, hz1, hc1, hf1⟩ := bfacts (k := 1) hb1 (hB _ _) (by simp)
    have hz1' : w.heap.size < w1.heap.size := by omega
    go_wp2_with fail
    go_ret
    exact ⟨ret_bool (by simp [Frp.less, h1']), hbw1⟩

/-- impl.FracOf: in range. -/
theorem iFracOf_yes (n d : Int) (w : World) (h1 : -9999999 ≤ n) (h2 : n ≤ 9999999) (h3 : 1 ≤ d) (h4 : d ≤ 9999999) :
    Calls Try.prog 25 #[.int .i64 n, .int .i64 d] w fun e w' => e = .returned (.tuple #[.agg #[.int .i64 (Frp.rN n d), .int .i64 (Frp.rD n d)], .bool true]) ∧ Below w.heap.size w w' := by
  have hv := Frp.fv_iff.2 (Frp.red_fv h1 h2 h3 h4)
  have hB : ∀ o, Below w.heap.size w (w.alloc o) := fun o => by go_grown
  go_enter Try.func25, Try.ntmps25
  go_wp2_with fail
  refine (reduced_t n d _ (by omega) (by omega) (by omega) (by omega) hv).mono ?_
  rintro e w1 ⟨rfl, hb1⟩
  obtain ⟨hbw1, hz1, hc1, hf1⟩ := bfacts (k := 0) hb1 (hB _) (by simp)
  go_wp2_with fail
  refine bodyPost_ret (v := .tuple #[.agg #[.int .i64 (Frp.rN n d), .int .i64 (Frp.rD n d)], .bool true]) (by simp [results, Try.results25, go_sem, hc1]) rfl ⟨rfl, ?_⟩
  go_grown
theorem iFracOf_no (n d : Int) (w : World) (h : ¬ (-9999999 ≤ n ∧ n ≤ 9999999 ∧ 1 ≤ d ∧ d ≤ 9999999)) :
    Calls Try.prog 25 #[.int .i64 n, .int .i64 d] w fun e w' => e = .returned (.tuple #[.agg #[.int .i64 0, .int .i64 0], .bool false]) ∧ Below w.heap.size w w' := by
  rcases (show n < -9999999 ∨ (-9999999 ≤ n ∧ (9999999 < n ∨ (n ≤ 9999999 ∧ (d < 1 ∨ (1 ≤ d ∧ 9999999 < d))))) by omega) with h | ⟨h, h | ⟨h', h | ⟨h'', h⟩⟩⟩
  all_goals
    go_enter Try.func25, Try.ntmps25
    go_wp2_with fail
    refine bodyPost_ret (v := .tuple #[.agg #[.int .i64 0, .int .i64 0], .bool false]) (by simp [results, Try.results25, go_sem]) rfl ⟨rfl, ?_⟩
    go_grown
/-- spec.FracOf: in range. -/
theorem sFracOf_yes (n d : Int) (w : World) (h1 : -9999999 ≤ n) (h2 : n ≤ 9999999) (h3 : 1 ≤ d) (h4 : d ≤ 9999999) :
    Calls Try.prog 24 #[.int .i64 n, .int .i64 d] w fun e w' => e = .returned (.tuple #[.agg #[.int .i64 (Frp.rN n d), .int .i64 (Frp.rD n d)], .bool true]) ∧ Below w.heap.size w w' := by
  have hB : ∀ o, Below w.heap.size w (w.alloc o) := fun o => by go_grown
  go_enter Try.func24, Try.ntmps24
  go_wp2_with (first | (go_at_call 35; refine (l6In_t _ _ _ _ (by omega)).mono ?_; rintro e w1 ⟨rfl, rfl⟩))
  refine (l5Of_any n d _ (by omega) (by omega) (by omega) (by omega)).mono ?_
  rintro e w1 ⟨rfl, hb1⟩
  obtain ⟨hbw1, hz1, hc1, hf1⟩ := bfacts (k := 0) hb1 (hB _) (by simp)
  go_wp2_with fail
  refine bodyPost_ret (v := .tuple #[.agg #[.int .i64 (Frp.rN n d), .int .i64 (Frp.rD n d)], .bool true]) (by simp [results, Try.results24, go_sem, hc1]) rfl ⟨rfl, ?_⟩
  go_grown
theorem sFracOf_no (n d : Int) (w : World) (h : ¬ (-9999999 ≤ n ∧ n ≤ 9999999 ∧ 1 ≤ d ∧ d ≤ 9999999)) :
    Calls Try.prog 24 #[.int .i64 n, .int .i64 d] w fun e w' => e = .returned (.tuple #[.agg #[.int .i64 0, .int .i64 0], .bool false]) ∧ Below w.heap.size w w' := by
  rcases (show n < -9999999 ∨ (-9999999 ≤ n ∧ (9999999 < n ∨ (n ≤ 9999999 ∧ (d < 1 ∨ (1 ≤ d ∧ 9999999 < d))))) by omega) with h | ⟨h, h | ⟨h', h | ⟨h'', h⟩⟩⟩
  all_goals
    go_enter Try.func24, Try.ntmps24
    go_wp2_with (first | (go_at_call 35; (first | refine (l6In_t _ _ _ _ (by omega)).mono ?_ | refine (l6In_f _ _ _ _ (by omega)).mono ?_); rintro e w1 ⟨rfl, rfl⟩))
    refine bodyPost_ret (v := .tuple #[.agg #[.int .i64 0, .int .i64 0], .bool false]) (by simp [results, Try.results24, go_sem]) rfl ⟨rfl, ?_⟩
    go_grown
end Go.Proofs.Ytfahgdindfggoaa
