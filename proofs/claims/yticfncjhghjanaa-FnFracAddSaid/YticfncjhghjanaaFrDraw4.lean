/- The functions that draw fractions for the laws. -/
import Derived.Test.YticfncjhghjanaaFrDraw3
namespace Go.Proofs.Yticfncjhghjanaa
open Go.RowKit
set_option linter.unusedSimpArgs false

def Frac1 (w : World) (e : Ending) (w' : World) : Prop := ∃ n d : Int, e = .returned (.agg #[.int .i64 n, .int .i64 d]) ∧ Below w.heap.size w w'

theorem isRow_alloc {k : IntKind} {w : World} {a : Option Addr} {n c : Nat} {z : List Int} (h : IsRow k w a n c z) (o : Obj) : IsRow k (w.alloc o) a n c z := by
  rcases h with h | ⟨x, h1, h2, h3, h4, h5, h6⟩
  · exact .inl h
  · exact .inr ⟨x, h1, h2, h3, h4, fun i hi => by
      have e := h5 i hi
      rw [World.cell?_alloc_some _ _ _ (by rw [e]; rfl)]; exact e, h6⟩

set_option maxHeartbeats 3200000 in
theorem drawFracValid_any (a : Option Addr) (n c : Nat) (z : List Int) (w : World) (h : IsRow .u8 w a n c z) :
    Calls Try.prog 7 #[.slice a n c] w (Frac1 w) := by
  go_enter Try.func7, Try.ntmps7
  go_wp2_with fail
  refine (l6Open_any a n c z _ (isRow_alloc h _)).mono ?_
  rintro e w1 ⟨rfl, hr1, hb1⟩
  clear h
  have b_0 : w1.cell? ⟨w.heap.size, 0, none⟩ = some (.int .i64 0) := (hb1.cell (p := ⟨w.heap.size, 0, none⟩) (by simp)).trans (by simp [go_sem])
  have b_1 : w1.cell? ⟨w.heap.size, 1, none⟩ = some (.int .i64 0) := (hb1.cell (p := ⟨w.heap.size, 1, none⟩) (by simp)).trans (by simp [go_sem])
  have b_2 : w1.frozen? ⟨w.heap.size, 0, none⟩ = false := (hb1.frozen (p := ⟨w.heap.size, 0, none⟩) (by simp)).trans (by simp [go_sem])
  have b_3 : w1.frozen? ⟨w.heap.size, 1, none⟩ = false := (hb1.frozen (p := ⟨w.heap.size, 1, none⟩) (by simp)).trans (by simp [go_sem])
  have hz1 : w.heap.size < w1.heap.size := by have h := hb1.size; simp at h; omega
  have hbw := Reg.unalloc hb1
  simp only [World.size_alloc] at hr1
  clear hb1
  go_wp2_with fail
  refine (l93Frac_any _ 0 w1 (by omega) hr1).mono ?_
  rintro e w2 ⟨n1, d1, rfl, hd⟩
  have hg2 := hd.2.1
  have c_0 := carry hg2 (Below.refl _ _) hz1 (by omega) b_0
  have c_1 := carry hg2 (Below.refl _ _) hz1 (by omega) b_1
  have c_2 := carryf hg2 (Below.refl _ _) hz1 (by omega) b_2
  have c_3 := carryf hg2 (Below.refl _ _) hz1 (by omega) b_3
  have hbw2 := hd.belowW hbw (by omega)
  have hst := stored2 c_0 c_1 (x := .int .i64 n1) (y := .int .i64 d1)
  clear hg2 hd b_0 b_1 b_2 b_3 hr1 hbw
  go_wp2_with fail
  exact bodyPost_ret (v := .agg #[.int .i64 n1, .int .i64 d1]) (by simp [results, Try.results7, go_sem, hst.1, hst.2]) rfl ⟨n1, d1, rfl, (hbw2.setCell (Nat.le_refl _) _).setCell (Nat.le_refl _) _⟩
end Go.Proofs.Yticfncjhghjanaa
