/- What the drawing functions over fractions and seals hand back. -/
import Derived.Test.YtfahgdindfggoaaDraw
import Derived.Test.YtfahgdindfggoaaFrWalkC
import Derived.Deep.RegionWith
namespace Go.Proofs.Ytfahgdindfggoaa
open Go.RowKit

theorem gcell {W w1 : World} {g : Nat} (hg : W.grownBy w1 (some g)) :
    (∀ b o, b < W.heap.size → ¬ b = g → w1.cell? ⟨b, o, none⟩ = W.cell? ⟨b, o, none⟩) ∧ (∀ b o, b < W.heap.size → ¬ b = g → w1.frozen? ⟨b, o, none⟩ = W.frozen? ⟨b, o, none⟩) :=
  ⟨fun b o h hne => World.cell?_of_block (hg.block b h (fun e => hne (by injection e))), fun b o h hne => World.frozen?_of_block (hg.block b h (fun e => hne (by injection e)))⟩

theorem lit3 (v : Int) (h0 : 0 ≤ v) (h3 : v < 3) (x y z : Int) : ∃ u : Int, ∀ h, ([Value.int .i64 x, Value.int .i64 y, Value.int .i64 z] : List Value)[v.toNat]'h = .int .i64 u := by
  rcases (show v = 0 ∨ v = 1 ∨ v = 2 by omega) with rfl | rfl | rfl
  · exact ⟨x, fun _ => rfl⟩
  · exact ⟨y, fun _ => rfl⟩
  · exact ⟨z, fun _ => rfl⟩

set_option linter.unusedSimpArgs false
def TwoInts (w : World) (e : Ending) (w' : World) : Prop := ∃ s q : Int, e = .returned (.tuple #[.int .i64 s, .int .i64 q]) ∧ Below w.heap.size w w'

set_option maxHeartbeats 6400000 in
theorem drawLotsSeal_any (a : Option Addr) (n c : Nat) (z : List Int) (w : World) (h : IsRow .u8 w a n c z) :
    Calls Try.prog 18 #[.slice a n c] w (TwoInts w) := by
  go_enter Try.func18, Try.ntmps18
  go_wp2_with fail
  refine (l6Open_any a n c z _ h).mono ?_
  rintro e w1 ⟨rfl, hr1, hb1⟩
  clear h
  go_wp2_with fail
  refine (pick_any _ 0 _ _ (by omega) hr1).mono ?_
  rintro e w2 ⟨v2, rfl, hv20, hv21, hr2, hg2, -⟩
  have hb2 : Below w.heap.size w w2 := hb1.grown hg2 hb1.size (fun k hk => by cases hk; omega)
  by_cases hv : v2 = 0
  · subst hv
    clear hv20 hv21
    have hlw : w.heap.size ≤ w2.heap.size := hb2.size
    go_wp2_with fail
    have hlt2 := hr2.lt
    have ne2 : ¬ w2.heap.size = w.heap.size := by omega
    have ne2' : ¬ w2.heap.size + 1 = w.heap.size := by omega
    have tokA : True := trivial
    have tokB : True := trivial
    go_region_with (first
      | (go_at_call 37; have _t := tokA; refine (pick_any _ 1 _ _ (by omega) (hr2.below (by go_grown))).mono ?_; clear tokA; rintro e w3 ⟨v3, rfl, hv30, hv31', hr3, hg3, -⟩; have hv31 := hv31' (by omega); clear hv31'; obtain ⟨x3, hx3⟩ := lit3 v3 hv30 hv31 (-1) 999 1000; have hb3 : Below w.heap.size w w3 := Below.grown (by go_grown) hg3 (by first | omega | (simp; omega)) (fun k hk => by cases hk; exact Nat.le_refl _); obtain ⟨hc3, hf3⟩ := gcell hg3; have hlt3 := hr3.lt; have ne3 : ¬ w3.heap.size = w.heap.size := (by omega); have hs3 := hg3.size; (try simp only [World.size_alloc, World.size_drew] at hs3); (try have q3_0 : w2.heap.size < w3.heap.size := (by omega)); (try have q3_1 : ¬ w2.heap.size = w3.heap.size := (by omega)); (try have q3_2 : ¬ w3.heap.size = w2.heap.size := (by omega)); (try have q3_3 : w2.heap.size + 1 < w3.heap.size := (by omega)); (try have q3_4 : ¬ w2.heap.size + 1 = w3.heap.size := (by omega)); (try have q3_5 : ¬ w3.heap.size = w2.heap.size + 1 := (by omega)); (try have q3_6 : ¬ w3.heap.size + 1 = w.heap.size := (by omega)))
      | (go_at_call 37; have _t := tokB; refine (pick_any _ 2 _ _ (by omega) (hr3.below (by go_grown))).mono ?_; clear tokB; rintro e w4 ⟨v4, rfl, hv40, hv41', hr4, hg4, -⟩; have hv41 := hv41' (by omega); clear hv41'; obtain ⟨x4, hx4⟩ := lit3 v4 hv40 hv41 (-1) 999 1000; have hb4 : Below w.heap.size w w4 := Below.grown (by go_grown) hg4 (by first | omega | (simp; omega)) (fun k hk => by cases hk; exact Nat.le_refl _); obtain ⟨hc4, hf4⟩ := gcell hg4; have hlt4 := hr4.lt; have ne4 : ¬ w4.heap.size = w.heap.size := (by omega); have hs4 := hg4.size; (try simp only [World.size_alloc] at hs4); (try have q4_0 : w2.heap.size < w4.heap.size := (by omega)); (try have q4_1 : ¬ w2.heap.size = w4.heap.size := (by omega)); (try have q4_2 : ¬ w4.heap.size = w2.heap.size := (by omega)); (try have q4_3 : w2.heap.size + 1 < w4.heap.size := (by omega)); (try have q4_4 : ¬ w2.heap.size + 1 = w4.heap.size := (by omega)); (try have q4_5 : ¬ w4.heap.size = w2.heap.size + 1 := (by omega)); (try have q4_6 : w3.heap.size < w4.heap.size := (by omega)); (try have q4_7 : ¬ w3.heap.size = w4.heap.size := (by omega)); (try have q4_8 : ¬ w4.heap.size = w3.heap.size := (by omega)); (try have q4_9 : w3.heap.size + 1 < w4.heap.size := (by omega)); (try have q4_10 : ¬ w3.heap.size + 1 = w4.heap.size := (by omega)); (try have q4_11 : ¬ w4.heap.size = w3.heap.size + 1 := (by omega)); (try have q4_12 : ¬ w4.heap.size + 1 = w.heap.size := (by omega))))
    all_goals
      go_wp2_with fail
      go_ret2
      exact ⟨_, _, rfl, by go_grown⟩
  · have hv' : (v2 == 0) = false := by simpa using hv
    go_wp2_with fail
    refine (pick_any _ 1 _ _ (by omega) hr2).mono ?_
    rintro e w3 ⟨v3, rfl, hv30, hv31, hr3, hg3, -⟩
    have hb3 : Below w.heap.size w w3 := hb2.grown hg3 hb2.size (fun k hk => by cases hk; omega)
    have hv31' := hv31 (by omega)
    clear hv31
    go_wp2_with fail
    refine (pick_any _ 2 _ _ (by omega) hr3).mono ?_
    rintro e w4 ⟨v4, rfl, hv40, hv41, hr4, hg4, -⟩
    have hb4 : Below w.heap.size w w4 := hb3.grown hg4 hb3.size (fun k hk => by cases hk; omega)
    have hv41' := hv41 (by omega)
    clear hv41
    go_wp2_with fail
    go_ret2
    exact ⟨_, _, rfl, hb4⟩
end Go.Proofs.Ytfahgdindfggoaa
