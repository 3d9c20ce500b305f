/- Contracts of LotsSeal, FracLess, FracOf, toFrac and eqFrac. -/
import Derived.Test.YticfncjhghjanaaFrWalkA
namespace Go.Proofs.Yticfncjhghjanaa
open Go.RowKit

theorem bfacts {w W w1 : World} {k : Nat} (hb : Below W.heap.size W w1) (hw : Below w.heap.size w W) (hk : w.heap.size + k < W.heap.size) :
    Below w.heap.size w w1 ∧ w.heap.size + k < w1.heap.size ∧ (∀ b o, b < W.heap.size → w1.cell? ⟨b, o, none⟩ = W.cell? ⟨b, o, none⟩) ∧ (∀ b o, b < W.heap.size → w1.frozen? ⟨b, o, none⟩ = W.frozen? ⟨b, o, none⟩) :=
  ⟨hw.trans (hb.mono hw.size), by have := hb.size; omega, fun b o h => hb.cell (p := ⟨b, o, none⟩) h, fun b o h => hb.frozen (p := ⟨b, o, none⟩) h⟩

theorem iFracLess_any (a b c d : Int) (w : World) :
    Calls Try.prog 11 #[.agg #[.int .i64 a, .int .i64 b], .agg #[.int .i64 c, .int .i64 d]] w fun e w' => e = .returned (.bool (Frp.less a b c d)) ∧ Below w.heap.size w w' := by
  have hB : ∀ o o', Below w.heap.size w ((w.alloc o).alloc o') := fun o o' => by go_grown
  by_cases h1 : Frp.fv a b = true
  · by_cases h2 : Frp.fv c d = true
    · have f1 := Frp.fv_iff.1 h1
      have f2 := Frp.fv_iff.1 h2
      obtain ⟨f11, f12, f13, f14, _⟩ := f1
      obtain ⟨f21, f22, f23, f24, _⟩ := f2
      obtain ⟨p1, p2⟩ := Frp.prod_bound f11 f12 (show -9999999 ≤ d by omega) f24
      obtain ⟨p3, p4⟩ := Frp.prod_bound f21 f22 (show -9999999 ≤ b by omega) f14
      go_enter Try.func11, Try.ntmps11
      go_wp2_with fail
      refine (iFracValid_any _ _ _).mono ?_
      rintro e w1 ⟨rfl, hb1⟩
      obtain ⟨hbw1, hz1, hc1, hf1⟩ := bfacts (k := 1) hb1 (hB _ _) (by simp)
      have hz1' : w.heap.size < w1.heap.size := by omega
      go_wp2_with fail
      refine (iFracValid_any _ _ _).mono ?_
      rintro e w2 ⟨rfl, hb2⟩
      obtain ⟨hbw2, hz2, hc2, hf2⟩ := bfacts (k := 1) hb2 hbw1 hz1
      have hz2' : w.heap.size < w2.heap.size := by omega
      go_wp2_with fail
      go_ret
      exact ⟨ret_bool (by simp [Frp.less, h1, h2]), hbw2⟩
    · have h2' : Frp.fv c d = false := by simpa using h2
      clear h2
      go_enter Try.func11, Try.ntmps11
      go_wp2_with fail
      refine (iFracValid_any _ _ _).mono ?_
      rintro e w1 ⟨rfl, hb1⟩
      obtain ⟨hbw1, hz1, hc1, hf1⟩ := bfacts (k := 1) hb1 (hB _ _) (by simp)
      have hz1' : w.heap.size < w1.heap.size := by omega
      go_wp2_with fail
      refine (iFracValid_any _ _ _).mono ?_
      rintro e w2 ⟨rfl, hb2⟩
      obtain ⟨hbw2, hz2, hc2, hf2⟩ := bfacts (k := 1) hb2 hbw1 hz1
      have hz2' : w.heap.size < w2.heap.size := by omega
      go_wp2_with fail
      go_ret
      exact ⟨ret_bool (by simp [Frp.less, h2']), hbw2⟩
  · have h1' : Frp.fv a b = false := by simpa using h1
    clear h1
    go_enter Try.func11, Try.ntmps11
    go_wp2_with fail
    refine (iFracValid_any _ _ _).mono ?_
    rintro e w1 ⟨rfl, hb1⟩
    obtain ⟨hbw1, hz1, hc1, hf1⟩ := bfacts (k := 1) hb1 (hB _ _) (by simp)
    have hz1' : w.heap.size < w1.heap.size := by omega
    go_wp2_with fail
    go_ret
    exact ⟨ret_bool (by simp [Frp.less, h1']), hbw1⟩

theorem sFracLess_any (a b c d : Int) (w : World) :
    Calls Try.prog 12 #[.agg #[.int .i64 a, .int .i64 b], .agg #[.int .i64 c, .int .i64 d]] w fun e w' => e = .returned (.bool (Frp.less a b c d)) ∧ Below w.heap.size w w' := by
  have hB : ∀ o o', Below w.heap.size w ((w.alloc o).alloc o') := fun o o' => by go_grown
  by_cases h1 : Frp.fv a b = true
  · by_cases h2 : Frp.fv c d = true
    · have f1 := Frp.fv_iff.1 h1
      have f2 := Frp.fv_iff.1 h2
      obtain ⟨f11, f12, f13, f14, _⟩ := f1
      obtain ⟨f21, f22, f23, f24, _⟩ := f2
      obtain ⟨p1, p2⟩ := Frp.prod_bound f11 f12 (show -9999999 ≤ d by omega) f24
      obtain ⟨p3, p4⟩ := Frp.prod_bound f21 f22 (show -9999999 ≤ b by omega) f14
      go_enter Try.func12, Try.ntmps12
      go_wp2_with fail
      refine (sFracValid_any _ _ _).mono ?_
      rintro e w1 ⟨rfl, hb1⟩
      obtain ⟨hbw1, hz1, hc1, hf1⟩ := bfacts (k := 1) hb1 (hB _ _) (by simp)
      have hz1' : w.heap.size < w1.heap.size := by omega
      go_wp2_with fail
      refine (sFracValid_any _ _ _).mono ?_
      rintro e w2 ⟨rfl, hb2⟩
      obtain ⟨hbw2, hz2, hc2, hf2⟩ := bfacts (k := 1) hb2 hbw1 hz1
      have hz2' : w.heap.size < w2.heap.size := by omega
      go_wp2_with fail
      go_ret
      exact ⟨ret_bool (by simp [Frp.less, h1, h2]), hbw2⟩
    · have h2' : Frp.fv c d = false := by simpa using h2
      clear h2
      go_enter Try.func12, Try.ntmps12
      go_wp2_with fail
      refine (sFracValid_any _ _ _).mono ?_
      rintro e w1 ⟨rfl, hb1⟩
      obtain ⟨hbw1, hz1, hc1, hf1⟩ := bfacts (k := 1) hb1 (hB _ _) (by simp)
      have hz1' : w.heap.size < w1.heap.size := by omega
      go_wp2_with fail
      refine (sFracValid_any _ _ _).mono ?_
      rintro e w2 ⟨rfl, hb2⟩
      obtain ⟨hbw2, hz2, hc2, hf2⟩ := bfacts (k := 1) hb2 hbw1 hz1
      have hz2' : w.heap.size < w2.heap.size := by omega
      go_wp2_with fail
      go_ret
      exact ⟨ret_bool (by simp [Frp.less, h2']), hbw2⟩
  · have h1' : Frp.fv a b = false := by simpa using h1
    clear h1
    go_enter Try.func12, Try.ntmps12
    go_wp2_with fail
    refine (sFracValid_any _ _ _).mono ?_
    rintro e w1 ⟨rfl, hb1⟩
    obtain ⟨hbw1, hz1, hc1, hf1⟩ := bfacts (k := 1) hb1 (hB _ _) (by simp)
    have hz1' : w.heap.size < w1.heap.size := by omega
    go_wp2_with fail
    go_ret
    exact ⟨ret_bool (by simp [Frp.less, h1']), hbw1⟩

end Go.Proofs.Yticfncjhghjanaa
