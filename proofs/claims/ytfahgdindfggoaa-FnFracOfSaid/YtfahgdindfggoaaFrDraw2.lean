/- What the drawing functions over fractions hand back. -/
import Derived.Test.YtfahgdindfggoaaFrDraw
namespace Go.Proofs.Ytfahgdindfggoaa
open Go.RowKit
set_option linter.unusedSimpArgs false

theorem lit4 (v : Int) (h0 : 0 ≤ v) (h3 : v < 4) (x y z t : Int) : ∃ u : Int, ∀ h, ([Value.int .i64 x, Value.int .i64 y, Value.int .i64 z, Value.int .i64 t] : List Value)[v.toNat]'h = .int .i64 u := by
  rcases (show v = 0 ∨ v = 1 ∨ v = 2 ∨ v = 3 by omega) with rfl | rfl | rfl | rfl
  · exact ⟨x, fun _ => rfl⟩
  · exact ⟨y, fun _ => rfl⟩
  · exact ⟨z, fun _ => rfl⟩
  · exact ⟨t, fun _ => rfl⟩

set_option maxHeartbeats 6400000 in
theorem drawFracOf_any (a : Option Addr) (n c : Nat) (z : List Int) (w : World) (h : IsRow .u8 w a n c z) :
    Calls Try.prog 33 #[.slice a n c] w (TwoInts w) := by
  go_enter Try.func33, Try.ntmps33
  go_wp2_with fail
  refine (l6Open_any a n c z _ h).mono ?_
  rintro e w1 ⟨rfl, hr1, hb1⟩
  clear h
  go_wp2_with fail
  refine (pick_any _ 0 _ _ (by omega) hr1).mono ?_
  rintro e w2 ⟨v2, rfl, hv20, hv21', hr2, hg2, -⟩
  have hv21 := hv21' (by omega)
  clear hv21'
  have hb2 : Below w.heap.size w w2 := hb1.grown hg2 hb1.size (fun k hk => by cases hk; omega)
  go_wp2_with fail
  refine (pick_any _ 1 _ _ (by omega) hr2).mono ?_
  rintro e w3 ⟨v3, rfl, hv30, hv31, hr3, hg3, -⟩
  have hb3 : Below w.heap.size w w3 := hb2.grown hg3 hb2.size (fun k hk => by cases hk; omega)
  by_cases hv : v3 = 0
  · subst hv
    clear hv30 hv31
    have hlw : w.heap.size ≤ w3.heap.size := hb3.size
    have hlt3 := hr3.lt
    have ne3 : ¬ w3.heap.size = w.heap.size := by omega
    have ne3' : ¬ w3.heap.size + 1 = w.heap.size := by omega
    go_wp2_with fail
    have tokA : True := trivial
    have tokB : True := trivial
    go_region_with (first
      | (go_at_call 37; have _t := tokA; refine (pick_any _ 2 _ _ (by omega) (hr3.below (by go_grown))).mono ?_; clear tokA; rintro e w4 ⟨v4, rfl, hv40, hv41', hr4, hg4, -⟩; have hv41 := hv41' (by omega); clear hv41'; obtain ⟨x4, hx4⟩ := lit4 v4 hv40 hv41 9999999 (-9999999) 10000000 0; have hb4 : Below w.heap.size w w4 := Below.grown (by go_grown) hg4 (by first | omega | (simp; omega)) (fun k hk => by cases hk; omega); obtain ⟨hc4, hf4⟩ := gcell hg4; have hlt4 := hr4.lt; have hs4 := hg4.size; (try simp only [World.size_alloc, World.size_drew] at hs4); (try have q4_0 : w3.heap.size < w4.heap.size := (by omega)); (try have q4_1 : ¬ w3.heap.size = w4.heap.size := (by omega)); (try have q4_2 : ¬ w4.heap.size = w3.heap.size := (by omega)); (try have q4_3 : w3.heap.size + 1 < w4.heap.size := (by omega)); (try have q4_4 : ¬ w3.heap.size + 1 = w4.heap.size := (by omega)); (try have q4_5 : ¬ w4.heap.size = w3.heap.size + 1 := (by omega)); (try have q4_6 : ¬ w4.heap.size + 1 = w.heap.size := (by omega)); (try have q4_7 : ¬ w4.heap.size = w.heap.size := (by omega)))
      | (go_at_call 37; have _t := tokB; refine (pick_any _ 3 _ _ (by omega) (hr4.below (by go_grown))).mono ?_; clear tokB; rintro e w5 ⟨v5, rfl, hv50, hv51', hr5, hg5, -⟩; have hv51 := hv51' (by omega); clear hv51'; obtain ⟨x5, hx5⟩ := lit4 v5 hv50 hv51 0 (-1) 9999999 10000000; have hb5 : Below w.heap.size w w5 := Below.grown (by go_grown) hg5 (by first | omega | (simp; omega)) (fun k hk => by cases hk; omega); obtain ⟨hc5, hf5⟩ := gcell hg5; have hlt5 := hr5.lt; have hs5 := hg5.size; (try simp only [World.size_alloc, World.size_drew] at hs5); (try have q5_0 : w3.heap.size < w5.heap.size := (by omega)); (try have q5_1 : ¬ w3.heap.size = w5.heap.size := (by omega)); (try have q5_2 : ¬ w5.heap.size = w3.heap.size := (by omega)); (try have q5_3 : w3.heap.size + 1 < w5.heap.size := (by omega)); (try have q5_4 : ¬ w3.heap.size + 1 = w5.heap.size := (by omega)); (try have q5_5 : ¬ w5.heap.size = w3.heap.size + 1 := (by omega)); (try have q5_6 : w4.heap.size < w5.heap.size := (by omega)); (try have q5_7 : ¬ w4.heap.size = w5.heap.size := (by omega)); (try have q5_8 : ¬ w5.heap.size = w4.heap.size := (by omega)); (try have q5_9 : w4.heap.size + 1 < w5.heap.size := (by omega)); (try have q5_10 : ¬ w4.heap.size + 1 = w5.heap.size := (by omega)); (try have q5_11 : ¬ w5.heap.size = w4.heap.size + 1 := (by omega)); (try have q5_12 : ¬ w5.heap.size + 1 = w.heap.size := (by omega)); (try have q5_13 : ¬ w5.heap.size = w.heap.size := (by omega))))
    all_goals
      go_wp2_with fail
      go_ret2
      exact ⟨_, _, rfl, by go_grown⟩
  · have hv' : (v3 == 0) = false := by simpa using hv
    go_wp2_with fail
    refine (pick_any _ 2 _ _ (by omega) hr3).mono ?_
    rintro e w4 ⟨v4, rfl, hv40, hv41', hr4, hg4, -⟩
    have hv41 := hv41' (by omega)
    clear hv41'
    have hb4 : Below w.heap.size w w4 := hb3.grown hg4 hb3.size (fun k hk => by cases hk; omega)
    go_wp2_with fail
    go_ret2
    exact ⟨_, _, rfl, hb4⟩
end Go.Proofs.Ytfahgdindfggoaa
