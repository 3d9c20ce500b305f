/- Contracts of FracAdd and FracTimes: the program's and the reference's. -/
import Derived.Test.YticfncjhghjanaaFrWalkB
import Derived.Deep.RegionHeld3
import Derived.Deep.DeepMust
namespace Go.Proofs.Yticfncjhghjanaa
open Go.RowKit

theorem iFracAdd_f1 (a b c d : Int) (w : World) (h1 : Frp.fv a b = false) :
    Calls Try.prog 13 #[.agg #[.int .i64 a, .int .i64 b], .agg #[.int .i64 c, .int .i64 d]] w fun e w' => e = .returned (.tuple #[.agg #[.int .i64 0, .int .i64 0], .bool false]) ∧ Below w.heap.size w w' := by
  have hB : ∀ o o' o'', Below w.heap.size w (((w.alloc o).alloc o').alloc o'') := fun o o' o'' => by go_grown
  go_enter Try.func13, Try.ntmps13
  go_wp2_with fail
  refine (iFracValid_any _ _ _).mono ?_
  rintro e w1 ⟨rfl, hb1⟩
  obtain ⟨hbw1, hz1, hc1, hf1⟩ := bfacts (k := 2) hb1 (hB _ _ _) (by simp)
  have hz1' : w.heap.size < w1.heap.size := by omega
  have hz1'' : w.heap.size + 1 < w1.heap.size := by omega
  go_wp2_with fail
  refine bodyPost_ret (v := .tuple #[.agg #[.int .i64 0, .int .i64 0], .bool false]) (by simp [results, Try.results13, go_sem, hc1]) rfl ⟨rfl, ?_⟩
  go_grown

theorem iFracAdd_f2 (a b c d : Int) (w : World) (h1 : Frp.fv a b = true) (h2 : Frp.fv c d = false) :
    Calls Try.prog 13 #[.agg #[.int .i64 a, .int .i64 b], .agg #[.int .i64 c, .int .i64 d]] w fun e w' => e = .returned (.tuple #[.agg #[.int .i64 0, .int .i64 0], .bool false]) ∧ Below w.heap.size w w' := by
  have hB : ∀ o o' o'', Below w.heap.size w (((w.alloc o).alloc o').alloc o'') := fun o o' o'' => by go_grown
  go_enter Try.func13, Try.ntmps13
  go_wp2_with fail
  refine (iFracValid_any _ _ _).mono ?_
  rintro e w1 ⟨rfl, hb1⟩
  obtain ⟨hbw1, hz1, hc1, hf1⟩ := bfacts (k := 2) hb1 (hB _ _ _) (by simp)
  have hz1' : w.heap.size < w1.heap.size := by omega
  have hz1'' : w.heap.size + 1 < w1.heap.size := by omega
  go_wp2_with fail
  refine (iFracValid_any _ _ _).mono ?_
  rintro e w2 ⟨rfl, hb2⟩
  obtain ⟨hbw2, hz2, hc2, hf2⟩ := bfacts (k := 2) hb2 hbw1 hz1
  have hz2' : w.heap.size < w2.heap.size := by omega
  have hz2'' : w.heap.size + 1 < w2.heap.size := by omega
  go_wp2_with fail
  refine bodyPost_ret (v := .tuple #[.agg #[.int .i64 0, .int .i64 0], .bool false]) (by simp [results, Try.results13, go_sem, hc2, hc1, hz1]) rfl ⟨rfl, ?_⟩
  go_grown

theorem iFracAdd_t (a b c d : Int) (w : World) (h1 : Frp.fv a b = true) (h2 : Frp.fv c d = true) (hv : Frp.fv (Frp.rN (a * d + c * b) (b * d)) (Frp.rD (a * d + c * b) (b * d)) = true) :
    Calls Try.prog 13 #[.agg #[.int .i64 a, .int .i64 b], .agg #[.int .i64 c, .int .i64 d]] w fun e w' => e = .returned (.tuple #[.agg #[.int .i64 (Frp.rN (a * d + c * b) (b * d)), .int .i64 (Frp.rD (a * d + c * b) (b * d))], .bool true]) ∧ Below w.heap.size w w' := by
  have hB : ∀ o o' o'', Below w.heap.size w (((w.alloc o).alloc o').alloc o'') := fun o o' o'' => by go_grown
  obtain ⟨f11, f12, f13, f14, _⟩ := Frp.fv_iff.1 h1
  obtain ⟨f21, f22, f23, f24, _⟩ := Frp.fv_iff.1 h2
  have p1 := Frp.prod_bound f11 f12 (show -9999999 ≤ d by omega) f24
  have p2 := Frp.prod_bound f21 f22 (show -9999999 ≤ b by omega) f14
  have p3 := Frp.prod_bound f11 f12 f21 f22
  have p4 := Frp.prod_bound (show -9999999 ≤ b by omega) f14 (show -9999999 ≤ d by omega) f24
  have p5 := Frp.one_le_mul f13 f23
  go_enter Try.func13, Try.ntmps13
  go_wp2_with fail
  refine (iFracValid_any _ _ _).mono ?_
  rintro e w1 ⟨rfl, hb1⟩
  obtain ⟨hbw1, hz1, hc1, hf1⟩ := bfacts (k := 2) hb1 (hB _ _ _) (by simp)
  have hz1' : w.heap.size < w1.heap.size := by omega
  have hz1'' : w.heap.size + 1 < w1.heap.size := by omega
  go_wp2_with fail
  refine (iFracValid_any _ _ _).mono ?_
  rintro e w2 ⟨rfl, hb2⟩
  obtain ⟨hbw2, hz2, hc2, hf2⟩ := bfacts (k := 2) hb2 hbw1 hz1
  have hz2' : w.heap.size < w2.heap.size := by omega
  have hz2'' : w.heap.size + 1 < w2.heap.size := by omega
  go_wp2_with fail
  refine (reduced_t (a * d + c * b) (b * d) _ (by omega) (by omega) (by omega) (by omega) hv).mono ?_
  rintro e w3 ⟨rfl, hb3⟩
  obtain ⟨hbw3, hz3, hc3, hf3⟩ := bfacts (k := 2) hb3 hbw2 hz2
  go_wp2_with fail
  refine bodyPost_ret (v := .tuple #[.agg #[.int .i64 (Frp.rN (a * d + c * b) (b * d)), .int .i64 (Frp.rD (a * d + c * b) (b * d))], .bool true]) (by simp [results, Try.results13, go_sem, hc3, hc2, hc1, hz1, hz2]) rfl ⟨rfl, ?_⟩
  go_grown

theorem iFracAdd_f3 (a b c d : Int) (w : World) (h1 : Frp.fv a b = true) (h2 : Frp.fv c d = true) (hv : Frp.fv (Frp.rN (a * d + c * b) (b * d)) (Frp.rD (a * d + c * b) (b * d)) = false) :
    Calls Try.prog 13 #[.agg #[.int .i64 a, .int .i64 b], .agg #[.int .i64 c, .int .i64 d]] w fun e w' => e = .returned (.tuple #[.agg #[.int .i64 0, .int .i64 0], .bool false]) ∧ Below w.heap.size w w' := by
  have hB : ∀ o o' o'', Below w.heap.size w (((w.alloc o).alloc o').alloc o'') := fun o o' o'' => by go_grown
  obtain ⟨f11, f12, f13, f14, _⟩ := Frp.fv_iff.1 h1
  obtain ⟨f21, f22, f23, f24, _⟩ := Frp.fv_iff.1 h2
  have p1 := Frp.prod_bound f11 f12 (show -9999999 ≤ d by omega) f24
  have p2 := Frp.prod_bound f21 f22 (show -9999999 ≤ b by omega) f14
  have p3 := Frp.prod_bound f11 f12 f21 f22
  have p4 := Frp.prod_bound (show -9999999 ≤ b by omega) f14 (show -9999999 ≤ d by omega) f24
  have p5 := Frp.one_le_mul f13 f23
  go_enter Try.func13, Try.ntmps13
  go_wp2_with fail
  refine (iFracValid_any _ _ _).mono ?_
  rintro e w1 ⟨rfl, hb1⟩
  obtain ⟨hbw1, hz1, hc1, hf1⟩ := bfacts (k := 2) hb1 (hB _ _ _) (by simp)
  have hz1' : w.heap.size < w1.heap.size := by omega
  have hz1'' : w.heap.size + 1 < w1.heap.size := by omega
  go_wp2_with fail
  refine (iFracValid_any _ _ _).mono ?_
  rintro e w2 ⟨rfl, hb2⟩
  obtain ⟨hbw2, hz2, hc2, hf2⟩ := bfacts (k := 2) hb2 hbw1 hz1
  have hz2' : w.heap.size < w2.heap.size := by omega
  have hz2'' : w.heap.size + 1 < w2.heap.size := by omega
  go_wp2_with fail
  refine (reduced_f (a * d + c * b) (b * d) _ (by omega) (by omega) (by omega) (by omega) hv).mono ?_
  rintro e w3 ⟨rfl, hb3⟩
  obtain ⟨hbw3, hz3, hc3, hf3⟩ := bfacts (k := 2) hb3 hbw2 hz2
  go_wp2_with fail
  refine bodyPost_ret (v := .tuple #[.agg #[.int .i64 0, .int .i64 0], .bool false]) (by simp [results, Try.results13, go_sem, hc3, hc2, hc1, hz1, hz2]) rfl ⟨rfl, ?_⟩
  go_grown

theorem sFracAdd_f1 (a b c d : Int) (w : World) (h1 : Frp.fv a b = false) :
    Calls Try.prog 15 #[.agg #[.int .i64 a, .int .i64 b], .agg #[.int .i64 c, .int .i64 d]] w fun e w' => e = .returned (.tuple #[.agg #[.int .i64 0, .int .i64 0], .bool false]) ∧ Below w.heap.size w w' := by
  have hB : ∀ o o' o'', Below w.heap.size w (((w.alloc o).alloc o').alloc o'') := fun o o' o'' => by go_grown
  go_enter Try.func15, Try.ntmps15
  go_wp2_with fail
  refine (sFracValid_any _ _ _).mono ?_
  rintro e w1 ⟨rfl, hb1⟩
  obtain ⟨hbw1, hz1, hc1, hf1⟩ := bfacts (k := 2) hb1 (hB _ _ _) (by simp)
  have hz1' : w.heap.size < w1.heap.size := by omega
  have hz1'' : w.heap.size + 1 < w1.heap.size := by omega
  go_wp2_with fail
  refine bodyPost_ret (v := .tuple #[.agg #[.int .i64 0, .int .i64 0], .bool false]) (by simp [results, Try.results15, go_sem, hc1]) rfl ⟨rfl, ?_⟩
  go_grown

theorem sFracAdd_f2 (a b c d : Int) (w : World) (h1 : Frp.fv a b = true) (h2 : Frp.fv c d = false) :
    Calls Try.prog 15 #[.agg #[.int .i64 a, .int .i64 b], .agg #[.int .i64 c, .int .i64 d]] w fun e w' => e = .returned (.tuple #[.agg #[.int .i64 0, .int .i64 0], .bool false]) ∧ Below w.heap.size w w' := by
  have hB : ∀ o o' o'', Below w.heap.size w (((w.alloc o).alloc o').alloc o'') := fun o o' o'' => by go_grown
  go_enter Try.func15, Try.ntmps15
  go_wp2_with fail
  refine (sFracValid_any _ _ _).mono ?_
  rintro e w1 ⟨rfl, hb1⟩
  obtain ⟨hbw1, hz1, hc1, hf1⟩ := bfacts (k := 2) hb1 (hB _ _ _) (by simp)
  have hz1' : w.heap.size < w1.heap.size := by omega
  have hz1'' : w.heap.size + 1 < w1.heap.size := by omega
  go_wp2_with fail
  refine (sFracValid_any _ _ _).mono ?_
  rintro e w2 ⟨rfl, hb2⟩
  obtain ⟨hbw2, hz2, hc2, hf2⟩ := bfacts (k := 2) hb2 hbw1 hz1
  have hz2' : w.heap.size < w2.heap.size := by omega
  have hz2'' : w.heap.size + 1 < w2.heap.size := by omega
  go_wp2_with fail
  refine bodyPost_ret (v := .tuple #[.agg #[.int .i64 0, .int .i64 0], .bool false]) (by simp [results, Try.results15, go_sem, hc2, hc1, hz1]) rfl ⟨rfl, ?_⟩
  go_grown

theorem sFracAdd_t (a b c d : Int) (w : World) (h1 : Frp.fv a b = true) (h2 : Frp.fv c d = true) (hv : Frp.fv (Frp.rN (a * d + c * b) (b * d)) (Frp.rD (a * d + c * b) (b * d)) = true) :
    Calls Try.prog 15 #[.agg #[.int .i64 a, .int .i64 b], .agg #[.int .i64 c, .int .i64 d]] w fun e w' => e = .returned (.tuple #[.agg #[.int .i64 (Frp.rN (a * d + c * b) (b * d)), .int .i64 (Frp.rD (a * d + c * b) (b * d))], .bool true]) ∧ Below w.heap.size w w' := by
  have hB : ∀ o o' o'', Below w.heap.size w (((w.alloc o).alloc o').alloc o'') := fun o o' o'' => by go_grown
  obtain ⟨f11, f12, f13, f14, _⟩ := Frp.fv_iff.1 h1
  obtain ⟨f21, f22, f23, f24, _⟩ := Frp.fv_iff.1 h2
  have p1 := Frp.prod_bound f11 f12 (show -9999999 ≤ d by omega) f24
  have p2 := Frp.prod_bound f21 f22 (show -9999999 ≤ b by omega) f14
  have p3 := Frp.prod_bound f11 f12 f21 f22
  have p4 := Frp.prod_bound (show -9999999 ≤ b by omega) f14 (show -9999999 ≤ d by omega) f24
  have p5 := Frp.one_le_mul f13 f23
  go_enter Try.func15, Try.ntmps15
  go_wp2_with fail
  refine (sFracValid_any _ _ _).mono ?_
  rintro e w1 ⟨rfl, hb1⟩
  obtain ⟨hbw1, hz1, hc1, hf1⟩ := bfacts (k := 2) hb1 (hB _ _ _) (by simp)
  have hz1' : w.heap.size < w1.heap.size := by omega
  have hz1'' : w.heap.size + 1 < w1.heap.size := by omega
  go_wp2_with fail
  refine (sFracValid_any _ _ _).mono ?_
  rintro e w2 ⟨rfl, hb2⟩
  obtain ⟨hbw2, hz2, hc2, hf2⟩ := bfacts (k := 2) hb2 hbw1 hz1
  have hz2' : w.heap.size < w2.heap.size := by omega
  have hz2'' : w.heap.size + 1 < w2.heap.size := by omega
  go_wp2_with fail
  refine (l5Of_any (a * d + c * b) (b * d) _ (by omega) (by omega) (by omega) (by omega)).mono ?_
  rintro e w3 ⟨rfl, hb3⟩
  obtain ⟨hbw3, hz3, hc3, hf3⟩ := bfacts (k := 2) hb3 hbw2 hz2
  have hz3' : w.heap.size < w3.heap.size := by omega
  have hB4 : ∀ o, Below w.heap.size w (w3.alloc o) := fun o => hbw3.alloc (by omega) o
  have hz3a : ∀ o, w.heap.size + 2 < (w3.alloc o).heap.size := fun o => by simp; omega
  go_wp2_with fail
  refine (sFracValid_any _ _ _).mono ?_
  rintro e w4 ⟨rfl, hb4⟩
  obtain ⟨hbw4, hz4, hc4, hf4⟩ := bfacts (k := 2) hb4 (hB4 _) (hz3a _)
  have hz4' : w.heap.size < w4.heap.size := by omega
  have hk4 : ∀ b o, b < w3.heap.size → w4.cell? ⟨b, o, none⟩ = w3.cell? ⟨b, o, none⟩ := fun b o hb => (hc4 b o (by simp; omega)).trans (by simp [World.cell?_alloc_lt _ _ ⟨b, o, none⟩ hb])
  have hkf4 : ∀ b o, b < w3.heap.size → w4.frozen? ⟨b, o, none⟩ = w3.frozen? ⟨b, o, none⟩ := fun b o hb => (hf4 b o (by simp; omega)).trans (World.frozen?_of_block (Below.heap_alloc _ _ _ hb))
  go_wp2_with fail
  refine bodyPost_ret (v := .tuple #[.agg #[.int .i64 (Frp.rN (a * d + c * b) (b * d)), .int .i64 (Frp.rD (a * d + c * b) (b * d))], .bool true]) (by simp [results, Try.results15, go_sem, hk4, hc3, hc2, hc1, hz1, hz2, hz3]) rfl ⟨rfl, ?_⟩
  go_grown

theorem sFracAdd_f3 (a b c d : Int) (w : World) (h1 : Frp.fv a b = true) (h2 : Frp.fv c d = true) (hv : Frp.fv (Frp.rN (a * d + c * b) (b * d)) (Frp.rD (a * d + c * b) (b * d)) = false) :
    Calls Try.prog 15 #[.agg #[.int .i64 a, .int .i64 b], .agg #[.int .i64 c, .int .i64 d]] w fun e w' => e = .returned (.tuple #[.agg #[.int .i64 0, .int .i64 0], .bool false]) ∧ Below w.heap.size w w' := by
  have hB : ∀ o o' o'', Below w.heap.size w (((w.alloc o).alloc o').alloc o'') := fun o o' o'' => by go_grown
  obtain ⟨f11, f12, f13, f14, _⟩ := Frp.fv_iff.1 h1
  obtain ⟨f21, f22, f23, f24, _⟩ := Frp.fv_iff.1 h2
  have p1 := Frp.prod_bound f11 f12 (show -9999999 ≤ d by omega) f24
  have p2 := Frp.prod_bound f21 f22 (show -9999999 ≤ b by omega) f14
  have p3 := Frp.prod_bound f11 f12 f21 f22
  have p4 := Frp.prod_bound (show -9999999 ≤ b by omega) f14 (show -9999999 ≤ d by omega) f24
  have p5 := Frp.one_le_mul f13 f23
  go_enter Try.func15, Try.ntmps15
  go_wp2_with fail
  refine (sFracValid_any _ _ _).mono ?_
  rintro e w1 ⟨rfl, hb1⟩
  obtain ⟨hbw1, hz1, hc1, hf1⟩ := bfacts (k := 2) hb1 (hB _ _ _) (by simp)
  have hz1' : w.heap.size < w1.heap.size := by omega
  have hz1'' : w.heap.size + 1 < w1.heap.size := by omega
  go_wp2_with fail
  refine (sFracValid_any _ _ _).mono ?_
  rintro e w2 ⟨rfl, hb2⟩
  obtain ⟨hbw2, hz2, hc2, hf2⟩ := bfacts (k := 2) hb2 hbw1 hz1
  have hz2' : w.heap.size < w2.heap.size := by omega
  have hz2'' : w.heap.size + 1 < w2.heap.size := by omega
  go_wp2_with fail
  refine (l5Of_any (a * d + c * b) (b * d) _ (by omega) (by omega) (by omega) (by omega)).mono ?_
  rintro e w3 ⟨rfl, hb3⟩
  obtain ⟨hbw3, hz3, hc3, hf3⟩ := bfacts (k := 2) hb3 hbw2 hz2
  have hz3' : w.heap.size < w3.heap.size := by omega
  have hB4 : ∀ o, Below w.heap.size w (w3.alloc o) := fun o => hbw3.alloc (by omega) o
  have hz3a : ∀ o, w.heap.size + 2 < (w3.alloc o).heap.size := fun o => by simp; omega
  go_wp2_with fail
  refine (sFracValid_any _ _ _).mono ?_
  rintro e w4 ⟨rfl, hb4⟩
  obtain ⟨hbw4, hz4, hc4, hf4⟩ := bfacts (k := 2) hb4 (hB4 _) (hz3a _)
  have hz4' : w.heap.size < w4.heap.size := by omega
  have hk4 : ∀ b o, b < w3.heap.size → w4.cell? ⟨b, o, none⟩ = w3.cell? ⟨b, o, none⟩ := fun b o hb => (hc4 b o (by simp; omega)).trans (by simp [World.cell?_alloc_lt _ _ ⟨b, o, none⟩ hb])
  have hkf4 : ∀ b o, b < w3.heap.size → w4.frozen? ⟨b, o, none⟩ = w3.frozen? ⟨b, o, none⟩ := fun b o hb => (hf4 b o (by simp; omega)).trans (World.frozen?_of_block (Below.heap_alloc _ _ _ hb))
  go_wp2_with fail
  refine bodyPost_ret (v := .tuple #[.agg #[.int .i64 0, .int .i64 0], .bool false]) (by simp [results, Try.results15, go_sem, hk4, hc3, hc2, hc1, hz1, hz2, hz3]) rfl ⟨rfl, ?_⟩
  go_grown

theorem keepc {W w1 : World} {b o : Nat} {v : Value} (hb : Below W.heap.size W w1) (hlt : b < W.heap.size) (h : W.cell? ⟨b, o, none⟩ = some v) : w1.cell? ⟨b, o, none⟩ = some v :=
  (hb.cell (p := ⟨b, o, none⟩) hlt).trans h

theorem below_undrew {W w1 : World} (h : Below W.drew.heap.size W.drew w1) : Below W.heap.size W w1 := ⟨h.os, h.tape, h.output, h.size, h.block⟩

theorem below_unalloc {W w1 : World} {o : Obj} (h : Below (W.alloc o).heap.size (W.alloc o) w1) : Below W.heap.size W w1 := ((Below.refl _ _).alloc (Nat.le_refl _) o).trans (h.mono (by simp))
/-- a box that was made just ahead of a call -/
theorem newbox {W w1 : World} {a b : Value} {T : TypeId} (h : Below (W.alloc (.cells #[a, b] T)).heap.size (W.alloc (.cells #[a, b] T)) w1) :
    W.heap.size < w1.heap.size ∧ w1.cell? ⟨W.heap.size, 0, none⟩ = some a ∧ w1.cell? ⟨W.heap.size, 1, none⟩ = some b ∧ w1.frozen? ⟨W.heap.size, 0, none⟩ = false ∧ w1.frozen? ⟨W.heap.size, 1, none⟩ = false := by
  refine ⟨by have := h.size; simp at this; omega, (h.cell (p := ⟨_, _, none⟩) (by simp)).trans (by simp [go_sem]), (h.cell (p := ⟨_, _, none⟩) (by simp)).trans (by simp [go_sem]), (h.frozen (p := ⟨_, _, none⟩) (by simp)).trans (by simp [go_sem]), (h.frozen (p := ⟨_, _, none⟩) (by simp)).trans (by simp [go_sem])⟩

theorem start2 (w : World) (a b c d : Value) (T T' : TypeId) : ∀ W, W = ((w.alloc (.cells #[a, b] T)).alloc (.cells #[c, d] T')).drew →
    Below w.heap.size w W ∧ w.heap.size + 1 < W.heap.size ∧ W.cell? ⟨w.heap.size, 0, none⟩ = some a ∧ W.cell? ⟨w.heap.size, 1, none⟩ = some b ∧ W.cell? ⟨w.heap.size + 1, 0, none⟩ = some c ∧ W.cell? ⟨w.heap.size + 1, 1, none⟩ = some d := by
  rintro W rfl
  refine ⟨by go_grown, ?_⟩
  simp [go_sem]
end Go.Proofs.Yticfncjhghjanaa
