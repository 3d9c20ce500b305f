/- The walk of FnExactFracAdd, case by case. -/
import Derived.Test.YtfahgdindfggoaaReg
import Derived.Test.YtfahgdindfggoaaFrWalkC
namespace Go.Proofs.Ytfahgdindfggoaa.wFnExactFracAdd
open Go.RowKit

set_option maxHeartbeats 1600000 in
theorem walk_t (w : World) (n0 d0 n1 d1 : Int) (h1 : Frp.fv n0 d0 = true) (h2 : Frp.fv n1 d1 = true) (hv : Frp.fv (Frp.rN (n0 * d1 + n1 * d0) (d0 * d1)) (Frp.rD (n0 * d1 + n1 * d0) (d0 * d1)) = true) :
    Calls Try.prog 10 #[.agg #[.int .i64 n0, .int .i64 d0], .agg #[.int .i64 n1, .int .i64 d1]] w fun e w' => e = .returned (.bool true) ∧ Below w.heap.size w w' := by
  go_enter Try.func10, Try.ntmps10
  go_wp2_with fail
  go_cut [5, 6] (fun s5 s6 wx => ∃ g : Nat, s5 = .pointer (some ⟨g, 0, none⟩) ∧ s6 = .bool true ∧ w.heap.size + 1 < g ∧ g < wx.heap.size ∧ Below w.heap.size w wx ∧ wx.cell? ⟨w.heap.size, 0, none⟩ = some (.int .i64 n0) ∧ wx.cell? ⟨w.heap.size, 1, none⟩ = some (.int .i64 d0) ∧ wx.cell? ⟨w.heap.size + 1, 0, none⟩ = some (.int .i64 n1) ∧ wx.cell? ⟨w.heap.size + 1, 1, none⟩ = some (.int .i64 d1) ∧ wx.cell? ⟨g, 0, none⟩ = some (.int .i64 (Frp.rN (n0 * d1 + n1 * d0) (d0 * d1))) ∧ wx.cell? ⟨g, 1, none⟩ = some (.int .i64 (Frp.rD (n0 * d1 + n1 * d0) (d0 * d1))))
  case first =>
    obtain ⟨hbw, hz, c_0, c_1, c_2, c_3⟩ := Reg.start2 w (.int .i64 n0) (.int .i64 d0) (.int .i64 n1) (.int .i64 d1) 30 30 _ rfl
    have nf1 : ¬ w.heap.size = w.heap.size + 1 + 1 := by omega
    have nf2 : ¬ w.heap.size + 1 + 1 = w.heap.size := by omega
    have nf3 : ¬ w.heap.size + 1 = w.heap.size + 1 + 1 := by omega
    have nf4 : ¬ w.heap.size + 1 + 1 = w.heap.size + 1 := by omega
    go_region_held3 (fun w' => w'.cell? ⟨w.heap.size, 0, none⟩ = some (.int .i64 n0) ∧ w'.cell? ⟨w.heap.size, 1, none⟩ = some (.int .i64 d0) ∧ w'.cell? ⟨w.heap.size + 1, 0, none⟩ = some (.int .i64 n1) ∧ w'.cell? ⟨w.heap.size + 1, 1, none⟩ = some (.int .i64 d1))
      (go_keep)
      (first
        | (go_at_call_of 20 (Value.agg #[Value.int .i64 n0, Value.int .i64 d0]); refine (toFrac_any _ _ _).mono ?_; rintro e u ⟨rfl, hb⟩; (try have hb := Reg.undrew hb); (first | (have q := Reg.newbox (T := 32) hb; have hb := Reg.unalloc hb) | (have q := Reg.boxcarry hb q) | skip); (try simp only [World.size_alloc] at q); have c_0 := Reg.keepc hb (by omega) c_0; have c_1 := Reg.keepc hb (by omega) c_1; have c_2 := Reg.keepc hb (by omega) c_2; have c_3 := Reg.keepc hb (by omega) c_3; obtain ⟨hbw, hz⟩ := Reg.next hb hbw hz; have hz0 : w.heap.size < u.heap.size := (by omega); have ne_0 : ¬ w.heap.size = u.heap.size := (by omega); have ne_1 : ¬ w.heap.size + 1 = u.heap.size := (by omega); have ne_2 : ¬ u.heap.size = w.heap.size := (by omega); have ne_3 : ¬ u.heap.size = w.heap.size + 1 := (by omega))
        | (go_at_call_of 20 (Value.agg #[Value.int .i64 n1, Value.int .i64 d1]); refine (toFrac_any _ _ _).mono ?_; rintro e u ⟨rfl, hb⟩; (try have hb := Reg.undrew hb); (first | (have q := Reg.newbox (T := 32) hb; have hb := Reg.unalloc hb) | (have q := Reg.boxcarry hb q) | skip); (try simp only [World.size_alloc] at q); have c_0 := Reg.keepc hb (by omega) c_0; have c_1 := Reg.keepc hb (by omega) c_1; have c_2 := Reg.keepc hb (by omega) c_2; have c_3 := Reg.keepc hb (by omega) c_3; obtain ⟨hbw, hz⟩ := Reg.next hb hbw hz; have hz0 : w.heap.size < u.heap.size := (by omega); have ne_0 : ¬ w.heap.size = u.heap.size := (by omega); have ne_1 : ¬ w.heap.size + 1 = u.heap.size := (by omega); have ne_2 : ¬ u.heap.size = w.heap.size := (by omega); have ne_3 : ¬ u.heap.size = w.heap.size + 1 := (by omega))
        | (go_at_call 28; refine (sFracAdd_t _ _ _ _ _ h1 h2 hv).mono ?_; rintro e u ⟨rfl, hb⟩; (try have hb := Reg.undrew hb); (first | (have q := Reg.newbox (T := 32) hb; have hb := Reg.unalloc hb) | (have q := Reg.boxcarry hb q) | skip); (try simp only [World.size_alloc] at q); have c_0 := Reg.keepc hb (by omega) c_0; have c_1 := Reg.keepc hb (by omega) c_1; have c_2 := Reg.keepc hb (by omega) c_2; have c_3 := Reg.keepc hb (by omega) c_3; obtain ⟨hbw, hz⟩ := Reg.next hb hbw hz; have hz0 : w.heap.size < u.heap.size := (by omega); have ne_0 : ¬ w.heap.size = u.heap.size := (by omega); have ne_1 : ¬ w.heap.size + 1 = u.heap.size := (by omega); have ne_2 : ¬ u.heap.size = w.heap.size := (by omega); have ne_3 : ¬ u.heap.size = w.heap.size + 1 := (by omega)))
    all_goals
      go_wp2_with fail
      go_meet
      refine ⟨_, rfl, rfl, ?_, ?_, ?_, ?_, ?_, ?_, ?_, ?_, ?_⟩
      all_goals first
        | assumption
        | omega
        | (simp; omega)
        | (have hq := q.1; simp; omega)
        | (simp [*, go_sem]; done)
        | (go_grown; done)
        | exact Below.setCell (Below.setCell (by assumption) (by omega) _) (by omega) _
  case rest =>
    obtain ⟨g, rfl, rfl, hg, hgl, hbw, c_0, c_1, c_2, c_3, c_4, c_5⟩ := hcut
    have hz : w.heap.size + 1 < wc.heap.size := by omega
    have nf5 : ¬ w.heap.size = g := by omega
    have nf6 : ¬ g = w.heap.size := by omega
    have nf7 : ¬ w.heap.size + 1 = g := by omega
    have nf8 : ¬ g = w.heap.size + 1 := by omega
    have nf9 : ¬ g = wc.heap.size := by omega
    have nfa : ¬ wc.heap.size = g := by omega
    have nfb : ¬ w.heap.size = wc.heap.size := by omega
    have nfc : ¬ wc.heap.size = w.heap.size := by omega
    have nfd : ¬ w.heap.size + 1 = wc.heap.size := by omega
    have nfe : ¬ wc.heap.size = w.heap.size + 1 := by omega
    go_wp2_with fail
    go_cut [7, 8] (fun s7 s8 wx => ∃ g2 : Nat, s7 = .pointer (some ⟨g2, 0, none⟩) ∧ s8 = .bool true ∧ w.heap.size + 1 < g2 ∧ g2 < wx.heap.size ∧ Below w.heap.size w wx ∧ wx.cell? ⟨g, 0, none⟩ = some (.int .i64 (Frp.rN (n0 * d1 + n1 * d0) (d0 * d1))) ∧ wx.cell? ⟨g, 1, none⟩ = some (.int .i64 (Frp.rD (n0 * d1 + n1 * d0) (d0 * d1))) ∧ wx.cell? ⟨g2, 0, none⟩ = some (.int .i64 (Frp.rN (n0 * d1 + n1 * d0) (d0 * d1))) ∧ wx.cell? ⟨g2, 1, none⟩ = some (.int .i64 (Frp.rD (n0 * d1 + n1 * d0) (d0 * d1))))
    case first =>
      go_region_held3 (fun w' => w'.cell? ⟨w.heap.size, 0, none⟩ = some (.int .i64 n0) ∧ w'.cell? ⟨w.heap.size, 1, none⟩ = some (.int .i64 d0) ∧ w'.cell? ⟨w.heap.size + 1, 0, none⟩ = some (.int .i64 n1) ∧ w'.cell? ⟨w.heap.size + 1, 1, none⟩ = some (.int .i64 d1) ∧ w'.cell? ⟨g, 0, none⟩ = some (.int .i64 (Frp.rN (n0 * d1 + n1 * d0) (d0 * d1))) ∧ w'.cell? ⟨g, 1, none⟩ = some (.int .i64 (Frp.rD (n0 * d1 + n1 * d0) (d0 * d1))))
        (go_keep)
        (first
          | (go_at_call_of 20 (Value.agg #[Value.int .i64 n0, Value.int .i64 d0]); refine (toFrac_any _ _ _).mono ?_; rintro e u ⟨rfl, hb⟩; (try have hb := Reg.undrew hb); (first | (have q := Reg.newbox (T := 32) hb; have hb := Reg.unalloc hb) | (have q := Reg.boxcarry hb q) | skip); (try simp only [World.size_alloc] at q); have c_0 := Reg.keepc hb (by omega) c_0; have c_1 := Reg.keepc hb (by omega) c_1; have c_2 := Reg.keepc hb (by omega) c_2; have c_3 := Reg.keepc hb (by omega) c_3; have c_4 := Reg.keepc hb (by omega) c_4; have c_5 := Reg.keepc hb (by omega) c_5; obtain ⟨hbw, hz⟩ := Reg.next hb hbw hz; have hz0 : w.heap.size < u.heap.size := (by omega); have hgl : g < u.heap.size := (by have := hb.size; omega); have ne_0 : ¬ w.heap.size = u.heap.size := (by omega); have ne_1 : ¬ w.heap.size + 1 = u.heap.size := (by omega); have ne_2 : ¬ g = u.heap.size := (by omega); have ne_3 : ¬ u.heap.size = w.heap.size := (by omega); have ne_4 : ¬ u.heap.size = w.heap.size + 1 := (by omega); have ne_5 : ¬ u.heap.size = g := (by omega))
          | (go_at_call_of 20 (Value.agg #[Value.int .i64 n1, Value.int .i64 d1]); refine (toFrac_any _ _ _).mono ?_; rintro e u ⟨rfl, hb⟩; (try have hb := Reg.undrew hb); (first | (have q := Reg.newbox (T := 32) hb; have hb := Reg.unalloc hb) | (have q := Reg.boxcarry hb q) | skip); (try simp only [World.size_alloc] at q); have c_0 := Reg.keepc hb (by omega) c_0; have c_1 := Reg.keepc hb (by omega) c_1; have c_2 := Reg.keepc hb (by omega) c_2; have c_3 := Reg.keepc hb (by omega) c_3; have c_4 := Reg.keepc hb (by omega) c_4; have c_5 := Reg.keepc hb (by omega) c_5; obtain ⟨hbw, hz⟩ := Reg.next hb hbw hz; have hz0 : w.heap.size < u.heap.size := (by omega); have hgl : g < u.heap.size := (by have := hb.size; omega); have ne_0 : ¬ w.heap.size = u.heap.size := (by omega); have ne_1 : ¬ w.heap.size + 1 = u.heap.size := (by omega); have ne_2 : ¬ g = u.heap.size := (by omega); have ne_3 : ¬ u.heap.size = w.heap.size := (by omega); have ne_4 : ¬ u.heap.size = w.heap.size + 1 := (by omega); have ne_5 : ¬ u.heap.size = g := (by omega))
          | (go_at_call 29; refine (iFracAdd_t _ _ _ _ _ h1 h2 hv).mono ?_; rintro e u ⟨rfl, hb⟩; (try have hb := Reg.undrew hb); (first | (have q := Reg.newbox (T := 32) hb; have hb := Reg.unalloc hb) | (have q := Reg.boxcarry hb q) | skip); (try simp only [World.size_alloc] at q); have c_0 := Reg.keepc hb (by omega) c_0; have c_1 := Reg.keepc hb (by omega) c_1; have c_2 := Reg.keepc hb (by omega) c_2; have c_3 := Reg.keepc hb (by omega) c_3; have c_4 := Reg.keepc hb (by omega) c_4; have c_5 := Reg.keepc hb (by omega) c_5; obtain ⟨hbw, hz⟩ := Reg.next hb hbw hz; have hz0 : w.heap.size < u.heap.size := (by omega); have hgl : g < u.heap.size := (by have := hb.size; omega); have ne_0 : ¬ w.heap.size = u.heap.size := (by omega); have ne_1 : ¬ w.heap.size + 1 = u.heap.size := (by omega); have ne_2 : ¬ g = u.heap.size := (by omega); have ne_3 : ¬ u.heap.size = w.heap.size := (by omega); have ne_4 : ¬ u.heap.size = w.heap.size + 1 := (by omega); have ne_5 : ¬ u.heap.size = g := (by omega)))
      all_goals
        go_wp2_with fail
        go_meet
        refine ⟨_, rfl, rfl, ?_, ?_, ?_, ?_, ?_, ?_, ?_⟩
        all_goals first
          | assumption
          | omega
          | (simp; omega)
          | (have hq := q.1; simp; omega)
          | (simp [*, go_sem]; done)
          | (go_grown; done)
          | exact Below.setCell (Below.setCell (by assumption) (by omega) _) (by omega) _
    case rest =>
      obtain ⟨g2, rfl, rfl, hg2, hgl2, hbw2, x_0, x_1, y_0, y_1⟩ := hcut
      have hz2 : w.heap.size ≤ wc.heap.size := hbw2.size
      go_wp2_with fail
      refine (eqFrac_any _ _ _ _ _).mono ?_
      rintro e u3 ⟨rfl, hb3⟩
      have hbw3 : Below w.heap.size w u3 := hbw2.trans (hb3.mono hz2)
      go_wp2_with fail
      go_ret
      exact ⟨rfl, hbw3⟩

set_option maxHeartbeats 1600000 in
theorem walk_f3 (w : World) (n0 d0 n1 d1 : Int) (h1 : Frp.fv n0 d0 = true) (h2 : Frp.fv n1 d1 = true) (hv : Frp.fv (Frp.rN (n0 * d1 + n1 * d0) (d0 * d1)) (Frp.rD (n0 * d1 + n1 * d0) (d0 * d1)) = false) :
    Calls Try.prog 10 #[.agg #[.int .i64 n0, .int .i64 d0], .agg #[.int .i64 n1, .int .i64 d1]] w fun e w' => e = .returned (.bool true) ∧ Below w.heap.size w w' := by
  go_enter Try.func10, Try.ntmps10
  go_wp2_with fail
  go_cut [5, 6] (fun s5 s6 wx => ∃ g : Nat, s5 = .pointer (some ⟨g, 0, none⟩) ∧ s6 = .bool false ∧ w.heap.size + 1 < g ∧ g < wx.heap.size ∧ Below w.heap.size w wx ∧ wx.cell? ⟨w.heap.size, 0, none⟩ = some (.int .i64 n0) ∧ wx.cell? ⟨w.heap.size, 1, none⟩ = some (.int .i64 d0) ∧ wx.cell? ⟨w.heap.size + 1, 0, none⟩ = some (.int .i64 n1) ∧ wx.cell? ⟨w.heap.size + 1, 1, none⟩ = some (.int .i64 d1) ∧ wx.cell? ⟨g, 0, none⟩ = some (.int .i64 0) ∧ wx.cell? ⟨g, 1, none⟩ = some (.int .i64 0))
  case first =>
    obtain ⟨hbw, hz, c_0, c_1, c_2, c_3⟩ := Reg.start2 w (.int .i64 n0) (.int .i64 d0) (.int .i64 n1) (.int .i64 d1) 30 30 _ rfl
    have nf1 : ¬ w.heap.size = w.heap.size + 1 + 1 := by omega
    have nf2 : ¬ w.heap.size + 1 + 1 = w.heap.size := by omega
    have nf3 : ¬ w.heap.size + 1 = w.heap.size + 1 + 1 := by omega
    have nf4 : ¬ w.heap.size + 1 + 1 = w.heap.size + 1 := by omega
    go_region_held3 (fun w' => w'.cell? ⟨w.heap.size, 0, none⟩ = some (.int .i64 n0) ∧ w'.cell? ⟨w.heap.size, 1, none⟩ = some (.int .i64 d0) ∧ w'.cell? ⟨w.heap.size + 1, 0, none⟩ = some (.int .i64 n1) ∧ w'.cell? ⟨w.heap.size + 1, 1, none⟩ = some (.int .i64 d1))
      (go_keep)
      (first
        | (go_at_call_of 20 (Value.agg #[Value.int .i64 n0, Value.int .i64 d0]); refine (toFrac_any _ _ _).mono ?_; rintro e u ⟨rfl, hb⟩; (try have hb := Reg.undrew hb); (first | (have q := Reg.newbox (T := 32) hb; have hb := Reg.unalloc hb) | (have q := Reg.boxcarry hb q) | skip); (try simp only [World.size_alloc] at q); have c_0 := Reg.keepc hb (by omega) c_0; have c_1 := Reg.keepc hb (by omega) c_1; have c_2 := Reg.keepc hb (by omega) c_2; have c_3 := Reg.keepc hb (by omega) c_3; obtain ⟨hbw, hz⟩ := Reg.next hb hbw hz; have hz0 : w.heap.size < u.heap.size := (by omega); have ne_0 : ¬ w.heap.size = u.heap.size := (by omega); have ne_1 : ¬ w.heap.size + 1 = u.heap.size := (by omega); have ne_2 : ¬ u.heap.size = w.heap.size := (by omega); have ne_3 : ¬ u.heap.size = w.heap.size + 1 := (by omega))
        | (go_at_call_of 20 (Value.agg #[Value.int .i64 n1, Value.int .i64 d1]); refine (toFrac_any _ _ _).mono ?_; rintro e u ⟨rfl, hb⟩; (try have hb := Reg.undrew hb); (first | (have q := Reg.newbox (T := 32) hb; have hb := Reg.unalloc hb) | (have q := Reg.boxcarry hb q) | skip); (try simp only [World.size_alloc] at q); have c_0 := Reg.keepc hb (by omega) c_0; have c_1 := Reg.keepc hb (by omega) c_1; have c_2 := Reg.keepc hb (by omega) c_2; have c_3 := Reg.keepc hb (by omega) c_3; obtain ⟨hbw, hz⟩ := Reg.next hb hbw hz; have hz0 : w.heap.size < u.heap.size := (by omega); have ne_0 : ¬ w.heap.size = u.heap.size := (by omega); have ne_1 : ¬ w.heap.size + 1 = u.heap.size := (by omega); have ne_2 : ¬ u.heap.size = w.heap.size := (by omega); have ne_3 : ¬ u.heap.size = w.heap.size + 1 := (by omega))
        | (go_at_call 28; refine (sFracAdd_f3 _ _ _ _ _ h1 h2 hv).mono ?_; rintro e u ⟨rfl, hb⟩; (try have hb := Reg.undrew hb); (first | (have q := Reg.newbox (T := 32) hb; have hb := Reg.unalloc hb) | (have q := Reg.boxcarry hb q) | skip); (try simp only [World.size_alloc] at q); have c_0 := Reg.keepc hb (by omega) c_0; have c_1 := Reg.keepc hb (by omega) c_1; have c_2 := Reg.keepc hb (by omega) c_2; have c_3 := Reg.keepc hb (by omega) c_3; obtain ⟨hbw, hz⟩ := Reg.next hb hbw hz; have hz0 : w.heap.size < u.heap.size := (by omega); have ne_0 : ¬ w.heap.size = u.heap.size := (by omega); have ne_1 : ¬ w.heap.size + 1 = u.heap.size := (by omega); have ne_2 : ¬ u.heap.size = w.heap.size := (by omega); have ne_3 : ¬ u.heap.size = w.heap.size + 1 := (by omega)))
    all_goals
      go_wp2_with fail
      go_meet
      refine ⟨_, rfl, rfl, ?_, ?_, ?_, ?_, ?_, ?_, ?_, ?_, ?_⟩
      all_goals first
        | assumption
        | omega
        | (simp; omega)
        | (have hq := q.1; simp; omega)
        | (simp [*, go_sem]; done)
        | (go_grown; done)
        | exact Below.setCell (Below.setCell (by assumption) (by omega) _) (by omega) _
  case rest =>
    obtain ⟨g, rfl, rfl, hg, hgl, hbw, c_0, c_1, c_2, c_3, c_4, c_5⟩ := hcut
    have hz : w.heap.size + 1 < wc.heap.size := by omega
    have nf5 : ¬ w.heap.size = g := by omega
    have nf6 : ¬ g = w.heap.size := by omega
    have nf7 : ¬ w.heap.size + 1 = g := by omega
    have nf8 : ¬ g = w.heap.size + 1 := by omega
    have nf9 : ¬ g = wc.heap.size := by omega
    have nfa : ¬ wc.heap.size = g := by omega
    have nfb : ¬ w.heap.size = wc.heap.size := by omega
    have nfc : ¬ wc.heap.size = w.heap.size := by omega
    have nfd : ¬ w.heap.size + 1 = wc.heap.size := by omega
    have nfe : ¬ wc.heap.size = w.heap.size + 1 := by omega
    go_wp2_with fail
    go_cut [7, 8] (fun s7 s8 wx => ∃ g2 : Nat, s7 = .pointer (some ⟨g2, 0, none⟩) ∧ s8 = .bool false ∧ w.heap.size + 1 < g2 ∧ g2 < wx.heap.size ∧ Below w.heap.size w wx ∧ wx.cell? ⟨g, 0, none⟩ = some (.int .i64 0) ∧ wx.cell? ⟨g, 1, none⟩ = some (.int .i64 0) ∧ wx.cell? ⟨g2, 0, none⟩ = some (.int .i64 0) ∧ wx.cell? ⟨g2, 1, none⟩ = some (.int .i64 0))
    case first =>
      go_region_held3 (fun w' => w'.cell? ⟨w.heap.size, 0, none⟩ = some (.int .i64 n0) ∧ w'.cell? ⟨w.heap.size, 1, none⟩ = some (.int .i64 d0) ∧ w'.cell? ⟨w.heap.size + 1, 0, none⟩ = some (.int .i64 n1) ∧ w'.cell? ⟨w.heap.size + 1, 1, none⟩ = some (.int .i64 d1) ∧ w'.cell? ⟨g, 0, none⟩ = some (.int .i64 0) ∧ w'.cell? ⟨g, 1, none⟩ = some (.int .i64 0))
        (go_keep)
        (first
          | (go_at_call_of 20 (Value.agg #[Value.int .i64 n0, Value.int .i64 d0]); refine (toFrac_any _ _ _).mono ?_; rintro e u ⟨rfl, hb⟩; (try have hb := Reg.undrew hb); (first | (have q := Reg.newbox (T := 32) hb; have hb := Reg.unalloc hb) | (have q := Reg.boxcarry hb q) | skip); (try simp only [World.size_alloc] at q); have c_0 := Reg.keepc hb (by omega) c_0; have c_1 := Reg.keepc hb (by omega) c_1; have c_2 := Reg.keepc hb (by omega) c_2; have c_3 := Reg.keepc hb (by omega) c_3; have c_4 := Reg.keepc hb (by omega) c_4; have c_5 := Reg.keepc hb (by omega) c_5; obtain ⟨hbw, hz⟩ := Reg.next hb hbw hz; have hz0 : w.heap.size < u.heap.size := (by omega); have hgl : g < u.heap.size := (by have := hb.size; omega); have ne_0 : ¬ w.heap.size = u.heap.size := (by omega); have ne_1 : ¬ w.heap.size + 1 = u.heap.size := (by omega); have ne_2 : ¬ g = u.heap.size := (by omega); have ne_3 : ¬ u.heap.size = w.heap.size := (by omega); have ne_4 : ¬ u.heap.size = w.heap.size + 1 := (by omega); have ne_5 : ¬ u.heap.size = g := (by omega))
          | (go_at_call_of 20 (Value.agg #[Value.int .i64 n1, Value.int .i64 d1]); refine (toFrac_any _ _ _).mono ?_; rintro e u ⟨rfl, hb⟩; (try have hb := Reg.undrew hb); (first | (have q := Reg.newbox (T := 32) hb; have hb := Reg.unalloc hb) | (have q := Reg.boxcarry hb q) | skip); (try simp only [World.size_alloc] at q); have c_0 := Reg.keepc hb (by omega) c_0; have c_1 := Reg.keepc hb (by omega) c_1; have c_2 := Reg.keepc hb (by omega) c_2; have c_3 := Reg.keepc hb (by omega) c_3; have c_4 := Reg.keepc hb (by omega) c_4; have c_5 := Reg.keepc hb (by omega) c_5; obtain ⟨hbw, hz⟩ := Reg.next hb hbw hz; have hz0 : w.heap.size < u.heap.size := (by omega); have hgl : g < u.heap.size := (by have := hb.size; omega); have ne_0 : ¬ w.heap.size = u.heap.size := (by omega); have ne_1 : ¬ w.heap.size + 1 = u.heap.size := (by omega); have ne_2 : ¬ g = u.heap.size := (by omega); have ne_3 : ¬ u.heap.size = w.heap.size := (by omega); have ne_4 : ¬ u.heap.size = w.heap.size + 1 := (by omega); have ne_5 : ¬ u.heap.size = g := (by omega))
          | (go_at_call 29; refine (iFracAdd_f3 _ _ _ _ _ h1 h2 hv).mono ?_; rintro e u ⟨rfl, hb⟩; (try have hb := Reg.undrew hb); (first | (have q := Reg.newbox (T := 32) hb; have hb := Reg.unalloc hb) | (have q := Reg.boxcarry hb q) | skip); (try simp only [World.size_alloc] at q); have c_0 := Reg.keepc hb (by omega) c_0; have c_1 := Reg.keepc hb (by omega) c_1; have c_2 := Reg.keepc hb (by omega) c_2; have c_3 := Reg.keepc hb (by omega) c_3; have c_4 := Reg.keepc hb (by omega) c_4; have c_5 := Reg.keepc hb (by omega) c_5; obtain ⟨hbw, hz⟩ := Reg.next hb hbw hz; have hz0 : w.heap.size < u.heap.size := (by omega); have hgl : g < u.heap.size := (by have := hb.size; omega); have ne_0 : ¬ w.heap.size = u.heap.size := (by omega); have ne_1 : ¬ w.heap.size + 1 = u.heap.size := (by omega); have ne_2 : ¬ g = u.heap.size := (by omega); have ne_3 : ¬ u.heap.size = w.heap.size := (by omega); have ne_4 : ¬ u.heap.size = w.heap.size + 1 := (by omega); have ne_5 : ¬ u.heap.size = g := (by omega)))
      all_goals
        go_wp2_with fail
        go_meet
        refine ⟨_, rfl, rfl, ?_, ?_, ?_, ?_, ?_, ?_, ?_⟩
        all_goals first
          | assumption
          | omega
          | (simp; omega)
          | (have hq := q.1; simp; omega)
          | (simp [*, go_sem]; done)
          | (go_grown; done)
          | exact Below.setCell (Below.setCell (by assumption) (by omega) _) (by omega) _
    case rest =>
      obtain ⟨g2, rfl, rfl, hg2, hgl2, hbw2, x_0, x_1, y_0, y_1⟩ := hcut
      have hz2 : w.heap.size ≤ wc.heap.size := hbw2.size
      go_wp2_with fail
      refine (eqFrac_any _ _ _ _ _).mono ?_
      rintro e u3 ⟨rfl, hb3⟩
      have hbw3 : Below w.heap.size w u3 := hbw2.trans (hb3.mono hz2)
      go_wp2_with fail
      go_ret
      exact ⟨rfl, hbw3⟩

set_option maxHeartbeats 1600000 in
theorem walk_f2 (w : World) (n0 d0 n1 d1 : Int) (h1 : Frp.fv n0 d0 = true) (h2 : Frp.fv n1 d1 = false) :
    Calls Try.prog 10 #[.agg #[.int .i64 n0, .int .i64 d0], .agg #[.int .i64 n1, .int .i64 d1]] w fun e w' => e = .returned (.bool true) ∧ Below w.heap.size w w' := by
  go_enter Try.func10, Try.ntmps10
  go_wp2_with fail
  go_cut [5, 6] (fun s5 s6 wx => ∃ g : Nat, s5 = .pointer (some ⟨g, 0, none⟩) ∧ s6 = .bool false ∧ w.heap.size + 1 < g ∧ g < wx.heap.size ∧ Below w.heap.size w wx ∧ wx.cell? ⟨w.heap.size, 0, none⟩ = some (.int .i64 n0) ∧ wx.cell? ⟨w.heap.size, 1, none⟩ = some (.int .i64 d0) ∧ wx.cell? ⟨w.heap.size + 1, 0, none⟩ = some (.int .i64 n1) ∧ wx.cell? ⟨w.heap.size + 1, 1, none⟩ = some (.int .i64 d1) ∧ wx.cell? ⟨g, 0, none⟩ = some (.int .i64 0) ∧ wx.cell? ⟨g, 1, none⟩ = some (.int .i64 0))
  case first =>
    obtain ⟨hbw, hz, c_0, c_1, c_2, c_3⟩ := Reg.start2 w (.int .i64 n0) (.int .i64 d0) (.int .i64 n1) (.int .i64 d1) 30 30 _ rfl
    have nf1 : ¬ w.heap.size = w.heap.size + 1 + 1 := by omega
    have nf2 : ¬ w.heap.size + 1 + 1 = w.heap.size := by omega
    have nf3 : ¬ w.heap.size + 1 = w.heap.size + 1 + 1 := by omega
    have nf4 : ¬ w.heap.size + 1 + 1 = w.heap.size + 1 := by omega
    go_region_held3 (fun w' => w'.cell? ⟨w.heap.size, 0, none⟩ = some (.int .i64 n0) ∧ w'.cell? ⟨w.heap.size, 1, none⟩ = some (.int .i64 d0) ∧ w'.cell? ⟨w.heap.size + 1, 0, none⟩ = some (.int .i64 n1) ∧ w'.cell? ⟨w.heap.size + 1, 1, none⟩ = some (.int .i64 d1))
      (go_keep)
      (first
        | (go_at_call_of 20 (Value.agg #[Value.int .i64 n0, Value.int .i64 d0]); refine (toFrac_any _ _ _).mono ?_; rintro e u ⟨rfl, hb⟩; (try have hb := Reg.undrew hb); (first | (have q := Reg.newbox (T := 32) hb; have hb := Reg.unalloc hb) | (have q := Reg.boxcarry hb q) | skip); (try simp only [World.size_alloc] at q); have c_0 := Reg.keepc hb (by omega) c_0; have c_1 := Reg.keepc hb (by omega) c_1; have c_2 := Reg.keepc hb (by omega) c_2; have c_3 := Reg.keepc hb (by omega) c_3; obtain ⟨hbw, hz⟩ := Reg.next hb hbw hz; have hz0 : w.heap.size < u.heap.size := (by omega); have ne_0 : ¬ w.heap.size = u.heap.size := (by omega); have ne_1 : ¬ w.heap.size + 1 = u.heap.size := (by omega); have ne_2 : ¬ u.heap.size = w.heap.size := (by omega); have ne_3 : ¬ u.heap.size = w.heap.size + 1 := (by omega))
        | (go_at_call_of 20 (Value.agg #[Value.int .i64 n1, Value.int .i64 d1]); refine (toFrac_any _ _ _).mono ?_; rintro e u ⟨rfl, hb⟩; (try have hb := Reg.undrew hb); (first | (have q := Reg.newbox (T := 32) hb; have hb := Reg.unalloc hb) | (have q := Reg.boxcarry hb q) | skip); (try simp only [World.size_alloc] at q); have c_0 := Reg.keepc hb (by omega) c_0; have c_1 := Reg.keepc hb (by omega) c_1; have c_2 := Reg.keepc hb (by omega) c_2; have c_3 := Reg.keepc hb (by omega) c_3; obtain ⟨hbw, hz⟩ := Reg.next hb hbw hz; have hz0 : w.heap.size < u.heap.size := (by omega); have ne_0 : ¬ w.heap.size = u.heap.size := (by omega); have ne_1 : ¬ w.heap.size + 1 = u.heap.size := (by omega); have ne_2 : ¬ u.heap.size = w.heap.size := (by omega); have ne_3 : ¬ u.heap.size = w.heap.size + 1 := (by omega))
        | (go_at_call 28; refine (sFracAdd_f2 _ _ _ _ _ h1 h2).mono ?_; rintro e u ⟨rfl, hb⟩; (try have hb := Reg.undrew hb); (first | (have q := Reg.newbox (T := 32) hb; have hb := Reg.unalloc hb) | (have q := Reg.boxcarry hb q) | skip); (try simp only [World.size_alloc] at q); have c_0 := Reg.keepc hb (by omega) c_0; have c_1 := Reg.keepc hb (by omega) c_1; have c_2 := Reg.keepc hb (by omega) c_2; have c_3 := Reg.keepc hb (by omega) c_3; obtain ⟨hbw, hz⟩ := Reg.next hb hbw hz; have hz0 : w.heap.size < u.heap.size := (by omega); have ne_0 : ¬ w.heap.size = u.heap.size := (by omega); have ne_1 : ¬ w.heap.size + 1 = u.heap.size := (by omega); have ne_2 : ¬ u.heap.size = w.heap.size := (by omega); have ne_3 : ¬ u.heap.size = w.heap.size + 1 := (by omega)))
    all_goals
      go_wp2_with fail
      go_meet
      refine ⟨_, rfl, rfl, ?_, ?_, ?_, ?_, ?_, ?_, ?_, ?_, ?_⟩
      all_goals first
        | assumption
        | omega
        | (simp; omega)
        | (have hq := q.1; simp; omega)
        | (simp [*, go_sem]; done)
        | (go_grown; done)
        | exact Below.setCell (Below.setCell (by assumption) (by omega) _) (by omega) _
  case rest =>
    obtain ⟨g, rfl, rfl, hg, hgl, hbw, c_0, c_1, c_2, c_3, c_4, c_5⟩ := hcut
    have hz : w.heap.size + 1 < wc.heap.size := by omega
    have nf5 : ¬ w.heap.size = g := by omega
    have nf6 : ¬ g = w.heap.size := by omega
    have nf7 : ¬ w.heap.size + 1 = g := by omega
    have nf8 : ¬ g = w.heap.size + 1 := by omega
    have nf9 : ¬ g = wc.heap.size := by omega
    have nfa : ¬ wc.heap.size = g := by omega
    have nfb : ¬ w.heap.size = wc.heap.size := by omega
    have nfc : ¬ wc.heap.size = w.heap.size := by omega
    have nfd : ¬ w.heap.size + 1 = wc.heap.size := by omega
    have nfe : ¬ wc.heap.size = w.heap.size + 1 := by omega
    go_wp2_with fail
    go_cut [7, 8] (fun s7 s8 wx => ∃ g2 : Nat, s7 = .pointer (some ⟨g2, 0, none⟩) ∧ s8 = .bool false ∧ w.heap.size + 1 < g2 ∧ g2 < wx.heap.size ∧ Below w.heap.size w wx ∧ wx.cell? ⟨g, 0, none⟩ = some (.int .i64 0) ∧ wx.cell? ⟨g, 1, none⟩ = some (.int .i64 0) ∧ wx.cell? ⟨g2, 0, none⟩ = some (.int .i64 0) ∧ wx.cell? ⟨g2, 1, none⟩ = some (.int .i64 0))
    case first =>
      go_region_held3 (fun w' => w'.cell? ⟨w.heap.size, 0, none⟩ = some (.int .i64 n0) ∧ w'.cell? ⟨w.heap.size, 1, none⟩ = some (.int .i64 d0) ∧ w'.cell? ⟨w.heap.size + 1, 0, none⟩ = some (.int .i64 n1) ∧ w'.cell? ⟨w.heap.size + 1, 1, none⟩ = some (.int .i64 d1) ∧ w'.cell? ⟨g, 0, none⟩ = some (.int .i64 0) ∧ w'.cell? ⟨g, 1, none⟩ = some (.int .i64 0))
        (go_keep)
        (first
          | (go_at_call_of 20 (Value.agg #[Value.int .i64 n0, Value.int .i64 d0]); refine (toFrac_any _ _ _).mono ?_; rintro e u ⟨rfl, hb⟩; (try have hb := Reg.undrew hb); (first | (have q := Reg.newbox (T := 32) hb; have hb := Reg.unalloc hb) | (have q := Reg.boxcarry hb q) | skip); (try simp only [World.size_alloc] at q); have c_0 := Reg.keepc hb (by omega) c_0; have c_1 := Reg.keepc hb (by omega) c_1; have c_2 := Reg.keepc hb (by omega) c_2; have c_3 := Reg.keepc hb (by omega) c_3; have c_4 := Reg.keepc hb (by omega) c_4; have c_5 := Reg.keepc hb (by omega) c_5; obtain ⟨hbw, hz⟩ := Reg.next hb hbw hz; have hz0 : w.heap.size < u.heap.size := (by omega); have hgl : g < u.heap.size := (by have := hb.size; omega); have ne_0 : ¬ w.heap.size = u.heap.size := (by omega); have ne_1 : ¬ w.heap.size + 1 = u.heap.size := (by omega); have ne_2 : ¬ g = u.heap.size := (by omega); have ne_3 : ¬ u.heap.size = w.heap.size := (by omega); have ne_4 : ¬ u.heap.size = w.heap.size + 1 := (by omega); have ne_5 : ¬ u.heap.size = g := (by omega))
          | (go_at_call_of 20 (Value.agg #[Value.int .i64 n1, Value.int .i64 d1]); refine (toFrac_any _ _ _).mono ?_; rintro e u ⟨rfl, hb⟩; (try have hb := Reg.undrew hb); (first | (have q := Reg.newbox (T := 32) hb; have hb := Reg.unalloc hb) | (have q := Reg.boxcarry hb q) | skip); (try simp only [World.size_alloc] at q); have c_0 := Reg.keepc hb (by omega) c_0; have c_1 := Reg.keepc hb (by omega) c_1; have c_2 := Reg.keepc hb (by omega) c_2; have c_3 := Reg.keepc hb (by omega) c_3; have c_4 := Reg.keepc hb (by omega) c_4; have c_5 := Reg.keepc hb (by omega) c_5; obtain ⟨hbw, hz⟩ := Reg.next hb hbw hz; have hz0 : w.heap.size < u.heap.size := (by omega); have hgl : g < u.heap.size := (by have := hb.size; omega); have ne_0 : ¬ w.heap.size = u.heap.size := (by omega); have ne_1 : ¬ w.heap.size + 1 = u.heap.size := (by omega); have ne_2 : ¬ g = u.heap.size := (by omega); have ne_3 : ¬ u.heap.size = w.heap.size := (by omega); have ne_4 : ¬ u.heap.size = w.heap.size + 1 := (by omega); have ne_5 : ¬ u.heap.size = g := (by omega))
          | (go_at_call 29; refine (iFracAdd_f2 _ _ _ _ _ h1 h2).mono ?_; rintro e u ⟨rfl, hb⟩; (try have hb := Reg.undrew hb); (first | (have q := Reg.newbox (T := 32) hb; have hb := Reg.unalloc hb) | (have q := Reg.boxcarry hb q) | skip); (try simp only [World.size_alloc] at q); have c_0 := Reg.keepc hb (by omega) c_0; have c_1 := Reg.keepc hb (by omega) c_1; have c_2 := Reg.keepc hb (by omega) c_2; have c_3 := Reg.keepc hb (by omega) c_3; have c_4 := Reg.keepc hb (by omega) c_4; have c_5 := Reg.keepc hb (by omega) c_5; obtain ⟨hbw, hz⟩ := Reg.next hb hbw hz; have hz0 : w.heap.size < u.heap.size := (by omega); have hgl : g < u.heap.size := (by have := hb.size; omega); have ne_0 : ¬ w.heap.size = u.heap.size := (by omega); have ne_1 : ¬ w.heap.size + 1 = u.heap.size := (by omega); have ne_2 : ¬ g = u.heap.size := (by omega); have ne_3 : ¬ u.heap.size = w.heap.size := (by omega); have ne_4 : ¬ u.heap.size = w.heap.size + 1 := (by omega); have ne_5 : ¬ u.heap.size = g := (by omega)))
      all_goals
        go_wp2_with fail
        go_meet
        refine ⟨_, rfl, rfl, ?_, ?_, ?_, ?_, ?_, ?_, ?_⟩
        all_goals first
          | assumption
          | omega
          | (simp; omega)
          | (have hq := q.1; simp; omega)
          | (simp [*, go_sem]; done)
          | (go_grown; done)
          | exact Below.setCell (Below.setCell (by assumption) (by omega) _) (by omega) _
    case rest =>
      obtain ⟨g2, rfl, rfl, hg2, hgl2, hbw2, x_0, x_1, y_0, y_1⟩ := hcut
      have hz2 : w.heap.size ≤ wc.heap.size := hbw2.size
      go_wp2_with fail
      refine (eqFrac_any _ _ _ _ _).mono ?_
      rintro e u3 ⟨rfl, hb3⟩
      have hbw3 : Below w.heap.size w u3 := hbw2.trans (hb3.mono hz2)
      go_wp2_with fail
      go_ret
      exact ⟨rfl, hbw3⟩

set_option maxHeartbeats 1600000 in
theorem walk_f1 (w : World) (n0 d0 n1 d1 : Int) (h1 : Frp.fv n0 d0 = false) :
    Calls Try.prog 10 #[.agg #[.int .i64 n0, .int .i64 d0], .agg #[.int .i64 n1, .int .i64 d1]] w fun e w' => e = .returned (.bool true) ∧ Below w.heap.size w w' := by
  go_enter Try.func10, Try.ntmps10
  go_wp2_with fail
  go_cut [5, 6] (fun s5 s6 wx => ∃ g : Nat, s5 = .pointer (some ⟨g, 0, none⟩) ∧ s6 = .bool false ∧ w.heap.size + 1 < g ∧ g < wx.heap.size ∧ Below w.heap.size w wx ∧ wx.cell? ⟨w.heap.size, 0, none⟩ = some (.int .i64 n0) ∧ wx.cell? ⟨w.heap.size, 1, none⟩ = some (.int .i64 d0) ∧ wx.cell? ⟨w.heap.size + 1, 0, none⟩ = some (.int .i64 n1) ∧ wx.cell? ⟨w.heap.size + 1, 1, none⟩ = some (.int .i64 d1) ∧ wx.cell? ⟨g, 0, none⟩ = some (.int .i64 0) ∧ wx.cell? ⟨g, 1, none⟩ = some (.int .i64 0))
  case first =>
    obtain ⟨hbw, hz, c_0, c_1, c_2, c_3⟩ := Reg.start2 w (.int .i64 n0) (.int .i64 d0) (.int .i64 n1) (.int .i64 d1) 30 30 _ rfl
    have nf1 : ¬ w.heap.size = w.heap.size + 1 + 1 := by omega
    have nf2 : ¬ w.heap.size + 1 + 1 = w.heap.size := by omega
    have nf3 : ¬ w.heap.size + 1 = w.heap.size + 1 + 1 := by omega
    have nf4 : ¬ w.heap.size + 1 + 1 = w.heap.size + 1 := by omega
    go_region_held3 (fun w' => w'.cell? ⟨w.heap.size, 0, none⟩ = some (.int .i64 n0) ∧ w'.cell? ⟨w.heap.size, 1, none⟩ = some (.int .i64 d0) ∧ w'.cell? ⟨w.heap.size + 1, 0, none⟩ = some (.int .i64 n1) ∧ w'.cell? ⟨w.heap.size + 1, 1, none⟩ = some (.int .i64 d1))
      (go_keep)
      (first
        | (go_at_call_of 20 (Value.agg #[Value.int .i64 n0, Value.int .i64 d0]); refine (toFrac_any _ _ _).mono ?_; rintro e u ⟨rfl, hb⟩; (try have hb := Reg.undrew hb); (first | (have q := Reg.newbox (T := 32) hb; have hb := Reg.unalloc hb) | (have q := Reg.boxcarry hb q) | skip); (try simp only [World.size_alloc] at q); have c_0 := Reg.keepc hb (by omega) c_0; have c_1 := Reg.keepc hb (by omega) c_1; have c_2 := Reg.keepc hb (by omega) c_2; have c_3 := Reg.keepc hb (by omega) c_3; obtain ⟨hbw, hz⟩ := Reg.next hb hbw hz; have hz0 : w.heap.size < u.heap.size := (by omega); have ne_0 : ¬ w.heap.size = u.heap.size := (by omega); have ne_1 : ¬ w.heap.size + 1 = u.heap.size := (by omega); have ne_2 : ¬ u.heap.size = w.heap.size := (by omega); have ne_3 : ¬ u.heap.size = w.heap.size + 1 := (by omega))
        | (go_at_call_of 20 (Value.agg #[Value.int .i64 n1, Value.int .i64 d1]); refine (toFrac_any _ _ _).mono ?_; rintro e u ⟨rfl, hb⟩; (try have hb := Reg.undrew hb); (first | (have q := Reg.newbox (T := 32) hb; have hb := Reg.unalloc hb) | (have q := Reg.boxcarry hb q) | skip); (try simp only [World.size_alloc] at q); have c_0 := Reg.keepc hb (by omega) c_0; have c_1 := Reg.keepc hb (by omega) c_1; have c_2 := Reg.keepc hb (by omega) c_2; have c_3 := Reg.keepc hb (by omega) c_3; obtain ⟨hbw, hz⟩ := Reg.next hb hbw hz; have hz0 : w.heap.size < u.heap.size := (by omega); have ne_0 : ¬ w.heap.size = u.heap.size := (by omega); have ne_1 : ¬ w.heap.size + 1 = u.heap.size := (by omega); have ne_2 : ¬ u.heap.size = w.heap.size := (by omega); have ne_3 : ¬ u.heap.size = w.heap.size + 1 := (by omega))
        | (go_at_call 28; refine (sFracAdd_f1 _ _ _ _ _ h1).mono ?_; rintro e u ⟨rfl, hb⟩; (try have hb := Reg.undrew hb); (first | (have q := Reg.newbox (T := 32) hb; have hb := Reg.unalloc hb) | (have q := Reg.boxcarry hb q) | skip); (try simp only [World.size_alloc] at q); have c_0 := Reg.keepc hb (by omega) c_0; have c_1 := Reg.keepc hb (by omega) c_1; have c_2 := Reg.keepc hb (by omega) c_2; have c_3 := Reg.keepc hb (by omega) c_3; obtain ⟨hbw, hz⟩ := Reg.next hb hbw hz; have hz0 : w.heap.size < u.heap.size := (by omega); have ne_0 : ¬ w.heap.size = u.heap.size := (by omega); have ne_1 : ¬ w.heap.size + 1 = u.heap.size := (by omega); have ne_2 : ¬ u.heap.size = w.heap.size := (by omega); have ne_3 : ¬ u.heap.size = w.heap.size + 1 := (by omega)))
    all_goals
      go_wp2_with fail
      go_meet
      refine ⟨_, rfl, rfl, ?_, ?_, ?_, ?_, ?_, ?_, ?_, ?_, ?_⟩
      all_goals first
        | assumption
        | omega
        | (simp; omega)
        | (have hq := q.1; simp; omega)
        | (simp [*, go_sem]; done)
        | (go_grown; done)
        | exact Below.setCell (Below.setCell (by assumption) (by omega) _) (by omega) _
  case rest =>
    obtain ⟨g, rfl, rfl, hg, hgl, hbw, c_0, c_1, c_2, c_3, c_4, c_5⟩ := hcut
    have hz : w.heap.size + 1 < wc.heap.size := by omega
    have nf5 : ¬ w.heap.size = g := by omega
    have nf6 : ¬ g = w.heap.size := by omega
    have nf7 : ¬ w.heap.size + 1 = g := by omega
    have nf8 : ¬ g = w.heap.size + 1 := by omega
    have nf9 : ¬ g = wc.heap.size := by omega
    have nfa : ¬ wc.heap.size = g := by omega
    have nfb : ¬ w.heap.size = wc.heap.size := by omega
    have nfc : ¬ wc.heap.size = w.heap.size := by omega
    have nfd : ¬ w.heap.size + 1 = wc.heap.size := by omega
    have nfe : ¬ wc.heap.size = w.heap.size + 1 := by omega
    go_wp2_with fail
    go_cut [7, 8] (fun s7 s8 wx => ∃ g2 : Nat, s7 = .pointer (some ⟨g2, 0, none⟩) ∧ s8 = .bool false ∧ w.heap.size + 1 < g2 ∧ g2 < wx.heap.size ∧ Below w.heap.size w wx ∧ wx.cell? ⟨g, 0, none⟩ = some (.int .i64 0) ∧ wx.cell? ⟨g, 1, none⟩ = some (.int .i64 0) ∧ wx.cell? ⟨g2, 0, none⟩ = some (.int .i64 0) ∧ wx.cell? ⟨g2, 1, none⟩ = some (.int .i64 0))
    case first =>
      go_region_held3 (fun w' => w'.cell? ⟨w.heap.size, 0, none⟩ = some (.int .i64 n0) ∧ w'.cell? ⟨w.heap.size, 1, none⟩ = some (.int .i64 d0) ∧ w'.cell? ⟨w.heap.size + 1, 0, none⟩ = some (.int .i64 n1) ∧ w'.cell? ⟨w.heap.size + 1, 1, none⟩ = some (.int .i64 d1) ∧ w'.cell? ⟨g, 0, none⟩ = some (.int .i64 0) ∧ w'.cell? ⟨g, 1, none⟩ = some (.int .i64 0))
        (go_keep)
        (first
          | (go_at_call_of 20 (Value.agg #[Value.int .i64 n0, Value.int .i64 d0]); refine (toFrac_any _ _ _).mono ?_; rintro e u ⟨rfl, hb⟩; (try have hb := Reg.undrew hb); (first | (have q := Reg.newbox (T := 32) hb; have hb := Reg.unalloc hb) | (have q := Reg.boxcarry hb q) | skip); (try simp only [World.size_alloc] at q); have c_0 := Reg.keepc hb (by omega) c_0; have c_1 := Reg.keepc hb (by omega) c_1; have c_2 := Reg.keepc hb (by omega) c_2; have c_3 := Reg.keepc hb (by omega) c_3; have c_4 := Reg.keepc hb (by omega) c_4; have c_5 := Reg.keepc hb (by omega) c_5; obtain ⟨hbw, hz⟩ := Reg.next hb hbw hz; have hz0 : w.heap.size < u.heap.size := (by omega); have hgl : g < u.heap.size := (by have := hb.size; omega); have ne_0 : ¬ w.heap.size = u.heap.size := (by omega); have ne_1 : ¬ w.heap.size + 1 = u.heap.size := (by omega); have ne_2 : ¬ g = u.heap.size := (by omega); have ne_3 : ¬ u.heap.size = w.heap.size := (by omega); have ne_4 : ¬ u.heap.size = w.heap.size + 1 := (by omega); have ne_5 : ¬ u.heap.size = g := (by omega))
          | (go_at_call_of 20 (Value.agg #[Value.int .i64 n1, Value.int .i64 d1]); refine (toFrac_any _ _ _).mono ?_; rintro e u ⟨rfl, hb⟩; (try have hb := Reg.undrew hb); (first | (have q := Reg.newbox (T := 32) hb; have hb := Reg.unalloc hb) | (have q := Reg.boxcarry hb q) | skip); (try simp only [World.size_alloc] at q); have c_0 := Reg.keepc hb (by omega) c_0; have c_1 := Reg.keepc hb (by omega) c_1; have c_2 := Reg.keepc hb (by omega) c_2; have c_3 := Reg.keepc hb (by omega) c_3; have c_4 := Reg.keepc hb (by omega) c_4; have c_5 := Reg.keepc hb (by omega) c_5; obtain ⟨hbw, hz⟩ := Reg.next hb hbw hz; have hz0 : w.heap.size < u.heap.size := (by omega); have hgl : g < u.heap.size := (by have := hb.size; omega); have ne_0 : ¬ w.heap.size = u.heap.size := (by omega); have ne_1 : ¬ w.heap.size + 1 = u.heap.size := (by omega); have ne_2 : ¬ g = u.heap.size := (by omega); have ne_3 : ¬ u.heap.size = w.heap.size := (by omega); have ne_4 : ¬ u.heap.size = w.heap.size + 1 := (by omega); have ne_5 : ¬ u.heap.size = g := (by omega))
          | (go_at_call 29; refine (iFracAdd_f1 _ _ _ _ _ h1).mono ?_; rintro e u ⟨rfl, hb⟩; (try have hb := Reg.undrew hb); (first | (have q := Reg.newbox (T := 32) hb; have hb := Reg.unalloc hb) | (have q := Reg.boxcarry hb q) | skip); (try simp only [World.size_alloc] at q); have c_0 := Reg.keepc hb (by omega) c_0; have c_1 := Reg.keepc hb (by omega) c_1; have c_2 := Reg.keepc hb (by omega) c_2; have c_3 := Reg.keepc hb (by omega) c_3; have c_4 := Reg.keepc hb (by omega) c_4; have c_5 := Reg.keepc hb (by omega) c_5; obtain ⟨hbw, hz⟩ := Reg.next hb hbw hz; have hz0 : w.heap.size < u.heap.size := (by omega); have hgl : g < u.heap.size := (by have := hb.size; omega); have ne_0 : ¬ w.heap.size = u.heap.size := (by omega); have ne_1 : ¬ w.heap.size + 1 = u.heap.size := (by omega); have ne_2 : ¬ g = u.heap.size := (by omega); have ne_3 : ¬ u.heap.size = w.heap.size := (by omega); have ne_4 : ¬ u.heap.size = w.heap.size + 1 := (by omega); have ne_5 : ¬ u.heap.size = g := (by omega)))
      all_goals
        go_wp2_with fail
        go_meet
        refine ⟨_, rfl, rfl, ?_, ?_, ?_, ?_, ?_, ?_, ?_⟩
        all_goals first
          | assumption
          | omega
          | (simp; omega)
          | (have hq := q.1; simp; omega)
          | (simp [*, go_sem]; done)
          | (go_grown; done)
          | exact Below.setCell (Below.setCell (by assumption) (by omega) _) (by omega) _
    case rest =>
      obtain ⟨g2, rfl, rfl, hg2, hgl2, hbw2, x_0, x_1, y_0, y_1⟩ := hcut
      have hz2 : w.heap.size ≤ wc.heap.size := hbw2.size
      go_wp2_with fail
      refine (eqFrac_any _ _ _ _ _).mono ?_
      rintro e u3 ⟨rfl, hb3⟩
      have hbw3 : Below w.heap.size w u3 := hbw2.trans (hb3.mono hz2)
      go_wp2_with fail
      go_ret
      exact ⟨rfl, hbw3⟩

end Go.Proofs.Ytfahgdindfggoaa.wFnExactFracAdd
