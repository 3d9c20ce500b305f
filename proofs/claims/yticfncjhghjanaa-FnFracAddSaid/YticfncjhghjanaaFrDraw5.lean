/- DrawFracAdd, DrawFracLess. -/
import Derived.Test.YticfncjhghjanaaFrDraw4
import Derived.Test.YticfncjhghjanaaOrd
namespace Go.Proofs.Yticfncjhghjanaa
open Go.RowKit
set_option linter.unusedSimpArgs false

def Frac2 (w : World) (e : Ending) (w' : World) : Prop := ∃ n d m f : Int, e = .returned (.tuple #[.agg #[.int .i64 n, .int .i64 d], .agg #[.int .i64 m, .int .i64 f]]) ∧ Below w.heap.size w w'

theorem exec_l93 {o : Oper} {a : Act} {w : World} {g : Nat} (x : Operand) (ts : Array TypeId)
    (ho : o.op = .call { callee := .value (.func 16), args := #[x], argTypes := ts }) (hx : a.eval x = .pointer (some ⟨g, 0, none⟩)) :
    (execOp a.eval o).run Try.prog w = .ok (.enter 16 #[.pointer (some ⟨g, 0, none⟩)]) w := by
  unfold execOp
  have hf : a.eval (.func 16) = .func (.func 16) #[] #[] := rfl
  simp only [ho, resolve, Deferred.ofValue, hf, invoke, Sem.run_bind, Sem.run_pure, Result.andThen_ok, List.map_toArray, List.map_cons, List.map_nil, hx]
  have hr : (callFunc 16 #[Value.pointer (some ⟨g, 0, none⟩)]).run Try.prog w = .ok (.enter 16 #[.pointer (some ⟨g, 0, none⟩)]) w := by
    have h := Try.func16
    go_simp
  simp only [Array.append_empty, Array.empty_append] at hr ⊢
  rw [hr]

/-- a block of two numbers that may be written -/
def Box2 (w : World) (b : Nat) : Prop := b < w.heap.size ∧ ∃ n d : Int, w.cell? ⟨b, 0, none⟩ = some (.int .i64 n) ∧ w.cell? ⟨b, 1, none⟩ = some (.int .i64 d) ∧ w.frozen? ⟨b, 0, none⟩ = false ∧ w.frozen? ⟨b, 1, none⟩ = false
theorem Box2.grown {w w' : World} {b g : Nat} (h : Box2 w b) (hg : w.grownBy w' (some g)) (hne : b ≠ g) : Box2 w' b := by
  obtain ⟨h0, n, d, h1, h2, h3, h4⟩ := h
  exact ⟨Nat.lt_of_lt_of_le h0 hg.size, n, d, carry hg (Below.refl _ _) h0 hne h1, carry hg (Below.refl _ _) h0 hne h2, carryf hg (Below.refl _ _) h0 hne h3, carryf hg (Below.refl _ _) h0 hne h4⟩
theorem Box2.set {w : World} {b c : Nat} (x y : Int) (h : Box2 w b) : Box2 ((w.setCell ⟨c, 0, none⟩ (.int .i64 x)).setCell ⟨c, 1, none⟩ (.int .i64 y)) b := by
  obtain ⟨h0, n, d, h1, h2, h3, h4⟩ := h
  refine ⟨by simpa [World.setCell] using h0, ?_⟩
  by_cases e : b = c
  · subst e
    have hst := stored2 h1 h2 (x := .int .i64 x) (y := .int .i64 y)
    exact ⟨x, y, hst.1, hst.2, by simp [go_sem, h3], by simp [go_sem, h4]⟩
  · refine ⟨n, d, ?_, ?_, by simp [go_sem, h3], by simp [go_sem, h4]⟩
    · rw [World.cell?_setCell_other _ _ _ _ (by simp [e]), World.cell?_setCell_other _ _ _ _ (by simp [e])]; exact h1
    · rw [World.cell?_setCell_other _ _ _ _ (by simp [e]), World.cell?_setCell_other _ _ _ _ (by simp [e])]; exact h2
theorem stored4 {w : World} {b c : Nat} (hne : b ≠ c) (hb : Box2 w b) (hc : Box2 w c) (x y u v : Int) :
    ((((w.setCell ⟨b, 0, none⟩ (.int .i64 x)).setCell ⟨b, 1, none⟩ (.int .i64 y)).setCell ⟨c, 0, none⟩ (.int .i64 u)).setCell ⟨c, 1, none⟩ (.int .i64 v)).cell? ⟨b, 0, none⟩ = some (.int .i64 x) ∧
    ((((w.setCell ⟨b, 0, none⟩ (.int .i64 x)).setCell ⟨b, 1, none⟩ (.int .i64 y)).setCell ⟨c, 0, none⟩ (.int .i64 u)).setCell ⟨c, 1, none⟩ (.int .i64 v)).cell? ⟨b, 1, none⟩ = some (.int .i64 y) ∧
    ((((w.setCell ⟨b, 0, none⟩ (.int .i64 x)).setCell ⟨b, 1, none⟩ (.int .i64 y)).setCell ⟨c, 0, none⟩ (.int .i64 u)).setCell ⟨c, 1, none⟩ (.int .i64 v)).cell? ⟨c, 0, none⟩ = some (.int .i64 u) ∧
    ((((w.setCell ⟨b, 0, none⟩ (.int .i64 x)).setCell ⟨b, 1, none⟩ (.int .i64 y)).setCell ⟨c, 0, none⟩ (.int .i64 u)).setCell ⟨c, 1, none⟩ (.int .i64 v)).cell? ⟨c, 1, none⟩ = some (.int .i64 v) := by
  obtain ⟨-, n, d, h1, h2, -, -⟩ := hb
  obtain ⟨-, n', d', k1, k2, -, -⟩ := hc.set (c := b) x y
  have s1 := stored2 h1 h2 (x := .int .i64 x) (y := .int .i64 y)
  have s2 := stored2 k1 k2 (x := .int .i64 u) (y := .int .i64 v)
  refine ⟨?_, ?_, s2.1, s2.2⟩
  · rw [World.cell?_setCell_other _ _ _ _ (fun e => hne (congrArg Addr.block e).symm), World.cell?_setCell_other _ _ _ _ (fun e => hne (congrArg Addr.block e).symm)]; exact s1.1
  · rw [World.cell?_setCell_other _ _ _ _ (fun e => hne (congrArg Addr.block e).symm), World.cell?_setCell_other _ _ _ _ (fun e => hne (congrArg Addr.block e).symm)]; exact s1.2

/-- a block that is not the reader's, nor its code's -/
theorem Rdr.setB {w : World} {g P c o : Nat} (h : Rdr w g P) (hc : c ≠ g) (hu : ∃ u, w.cell? ⟨c, o, none⟩ = some (.int .i64 u)) (v : Value) : Rdr (w.setCell ⟨c, o, none⟩ v) g P := by
  obtain ⟨a, n, cp, z, p, h1, h2, h3, h4, h5, h6, h7, h8, h9⟩ := h
  have hk : ∀ k, k ≠ c → (w.setCell ⟨c, o, none⟩ v).heap[k]? = w.heap[k]? := fun k hk => Below.heap_setCell w ⟨c, o, none⟩ v k hk
  refine ⟨a, n, cp, z, p, h1, by simpa [World.setCell] using h2, (World.cell?_of_block (hk g (Ne.symm hc))).trans h3, (World.cell?_of_block (hk g (Ne.symm hc))).trans h4, (World.frozen?_of_block (hk g (Ne.symm hc))).trans h5, h6, h7, fun hn => ?_, h9⟩
  obtain ⟨b, off, e1, e2, e3⟩ := h8 hn
  refine ⟨b, off, e1, e2, fun j hj => ?_⟩
  have e := e3 j hj
  by_cases hb : (⟨b, off + j, none⟩ : Addr) = ⟨c, o, none⟩
  · obtain ⟨u, hu⟩ := hu
    rw [hb, hu] at e
    cases e
  · rw [World.cell?_setCell_other _ _ _ _ (Ne.symm hb)]; exact e
theorem Rdr.set2 {w : World} {g P c : Nat} (h : Rdr w g P) (hc : c ≠ g) (hb : Box2 w c) (x y : Int) : Rdr ((w.setCell ⟨c, 0, none⟩ (.int .i64 x)).setCell ⟨c, 1, none⟩ (.int .i64 y)) g P := by
  obtain ⟨h0, n, d, h1, h2, h3, h4⟩ := hb
  exact (h.setB hc ⟨n, h1⟩ _).setB hc ⟨d, (World.cell?_setCell_other _ _ _ _ (by simp)).trans h2⟩ _

/-- what each operation of the last region yields; what stays -/
def F2R (g : Nat) : Nat → Value → World → Prop
  | 0, v, _ | 2, v, _ => ∃ n d, v = .agg #[.int .i64 n, .int .i64 d]
  | 1, v, _ => v = .pointer (some ⟨g, 0, none⟩)
  | _, _, _ => True
def F2J (w : World) (b g P : Nat) (k : Nat) (wr : World) : Prop := Rdr wr g (P + 13 * k) ∧ Below w.heap.size w wr ∧ Box2 wr w.heap.size ∧ Box2 wr (w.heap.size + 1) ∧ Box2 wr b
theorem F2J.same {w wr : World} {b g P k : Nat} (h : F2J w b g P k wr) : F2J w b g P (k + 1) wr := ⟨h.1.mono (by omega), h.2⟩
theorem F2J.store {w wr : World} {b g P k c : Nat} (h : F2J w b g P k wr) (hc : c ≠ g) (hB : w.heap.size ≤ c) (hb : Box2 wr c) (x y : Int) : F2J w b g P (k + 1) ((wr.setCell ⟨c, 0, none⟩ (.int .i64 x)).setCell ⟨c, 1, none⟩ (.int .i64 y)) :=
  ⟨(h.1.mono (by omega)).set2 hc hb x y, (h.2.1.setCell hB _).setCell hB _, h.2.2.1.set x y, h.2.2.2.1.set x y, h.2.2.2.2.set x y⟩

set_option maxHeartbeats 6400000 in
theorem drawFracAdd_any (a : Option Addr) (n c : Nat) (z : List Int) (w : World) (h : IsRow .u8 w a n c z) :
    Calls Try.prog 14 #[.slice a n c] w (Frac2 w) := by
  go_enter Try.func14, Try.ntmps14
  go_wp2_with fail
  refine (l6Open_any a n c z _ (isRow_alloc (isRow_alloc h _) _)).mono ?_
  rintro e w1 ⟨rfl, hr1, hb1⟩
  clear h
  have hs := hb1.size
  have b_0 : w1.cell? ⟨w.heap.size, 0, none⟩ = some (.int .i64 0) := (hb1.cell (p := ⟨w.heap.size, 0, none⟩) (by simp; omega)).trans (by simp [go_sem])
  have b_1 : w1.cell? ⟨w.heap.size, 1, none⟩ = some (.int .i64 0) := (hb1.cell (p := ⟨w.heap.size, 1, none⟩) (by simp; omega)).trans (by simp [go_sem])
  have b_2 : w1.frozen? ⟨w.heap.size, 0, none⟩ = false := (hb1.frozen (p := ⟨w.heap.size, 0, none⟩) (by simp; omega)).trans (by simp [go_sem])
  have b_3 : w1.frozen? ⟨w.heap.size, 1, none⟩ = false := (hb1.frozen (p := ⟨w.heap.size, 1, none⟩) (by simp; omega)).trans (by simp [go_sem])
  have b_4 : w1.cell? ⟨w.heap.size + 1, 0, none⟩ = some (.int .i64 0) := (hb1.cell (p := ⟨w.heap.size + 1, 0, none⟩) (by simp)).trans (by simp [go_sem])
  have b_5 : w1.cell? ⟨w.heap.size + 1, 1, none⟩ = some (.int .i64 0) := (hb1.cell (p := ⟨w.heap.size + 1, 1, none⟩) (by simp)).trans (by simp [go_sem])
  have b_6 : w1.frozen? ⟨w.heap.size + 1, 0, none⟩ = false := (hb1.frozen (p := ⟨w.heap.size + 1, 0, none⟩) (by simp)).trans (by simp [go_sem])
  have b_7 : w1.frozen? ⟨w.heap.size + 1, 1, none⟩ = false := (hb1.frozen (p := ⟨w.heap.size + 1, 1, none⟩) (by simp)).trans (by simp [go_sem])
  simp only [World.size_alloc] at hs hr1
  have hbw := Reg.unalloc (Reg.unalloc hb1)
  clear hb1
  have hz1 : w.heap.size < w1.heap.size := by omega
  have hz1' : w.heap.size + 1 < w1.heap.size := by omega
  go_wp2_with fail
  refine (l93Frac_any _ 0 w1 (by omega) hr1).mono ?_
  rintro e w2 ⟨n1, d1, rfl, hd⟩
  have hg2 := hd.2.1
  have c_0 := carry hg2 (Below.refl _ _) hz1 (by omega) b_0
  have c_1 := carry hg2 (Below.refl _ _) hz1 (by omega) b_1
  have c_2 := carryf hg2 (Below.refl _ _) hz1 (by omega) b_2
  have c_3 := carryf hg2 (Below.refl _ _) hz1 (by omega) b_3
  have c_4 := carry hg2 (Below.refl _ _) hz1' (by omega) b_4
  have c_5 := carry hg2 (Below.refl _ _) hz1' (by omega) b_5
  have c_6 := carryf hg2 (Below.refl _ _) hz1' (by omega) b_6
  have c_7 := carryf hg2 (Below.refl _ _) hz1' (by omega) b_7
  have hz2 : w.heap.size < w2.heap.size := Nat.lt_of_lt_of_le hz1 hg2.size
  have hz2' : w.heap.size + 1 < w2.heap.size := Nat.lt_of_lt_of_le hz1' hg2.size
  have hgw2 : w.heap.size + 1 + 1 < w2.heap.size := Nat.lt_of_lt_of_le hr1.lt hg2.size
  have hbw2 := hd.belowW hbw (by omega)
  have hr2 := hd.rdr
  have n2_1 : ¬ w2.heap.size = w.heap.size := by omega
  have n2_2 : ¬ w2.heap.size = w.heap.size + 1 := by omega
  have n2_3 : ¬ w2.heap.size = w.heap.size + 1 + 1 := by omega
  have n2_4 : ¬ w.heap.size = w2.heap.size := by omega
  have n2_5 : ¬ w.heap.size + 1 = w2.heap.size := by omega
  clear hg2 hd b_0 b_1 b_2 b_3 b_4 b_5 b_6 b_7 hr1 hbw
  go_wp2_with fail
  have hJ0 : F2J w w2.heap.size (w.heap.size + 1 + 1) 13 0 (w2.alloc (.cells #[.int .i64 n1, .int .i64 d1] 24)).drew := by
    refine ⟨(hr2.below (by go_grown)).mono (by omega), hbw2.trans (by go_grown), ⟨by simp; omega, 0, 0, ?_, ?_, ?_, ?_⟩, ⟨by simp; omega, 0, 0, ?_, ?_, ?_, ?_⟩, ⟨by simp, n1, d1, ?_, ?_, ?_, ?_⟩⟩
    all_goals simp [go_sem, *]
  have hbg : w2.heap.size ≠ w.heap.size + 1 + 1 := by omega
  clear c_0 c_1 c_2 c_3 c_4 c_5 c_6 c_7 hr2 hbw2 hz2 hz2' hgw2 n2_1 n2_2 n2_3 n2_4 n2_5
  refine wp_region_ord (F2R (w.heap.size + 1 + 1)) (F2J w w2.heap.size (w.heap.size + 1 + 1) 13) (fun _ _ => True) (by kernel_rfl) (by kernel_rfl) hJ0 ?_ ?_ ?_
  · intro j v w3 w4 _ h
    match j, h with
    | 0, h => exact h
    | 1, h => exact h
    | 2, h => exact h
    | n + 3, _ => trivial
  · clear hJ0
    refine ⟨?_, ?_, ?_, ?_, ?_, trivial⟩
    case refine_1 =>
      intro a w k hk hJ hold hdep K hK
      have hp := hold 5 (by kernel_rfl)
      have hp' : a.eval (.tmp 5) = .pointer (some ⟨w2.heap.size, 0, none⟩) := hp
      obtain ⟨-, n, d, h1, h2, h3, h4⟩ := hJ.2.2.2.2
      exact ord_value rfl (v := .agg #[.int .i64 n, .int .i64 d]) (by simp only [execOp, hp']; simp [h1, h2, go_sem]) (hK _ _ hJ.same trivial ⟨n, d, rfl⟩)
    case refine_2 =>
      intro a w k hk hJ hold hdep K hK
      have h0 := hold 4 (by kernel_rfl)
      refine ord_value rfl (by simp [execOp, h0]; rfl) (hK _ _ hJ.same trivial rfl)
    case refine_3 =>
      intro a w3 k hk hJ hold hdep K hK
      have hx : a.eval (.tmp 11) = .pointer (some ⟨w.heap.size + 1 + 1, 0, none⟩) := hdep 1 _ 11 rfl rfl (by kernel_rfl)
      have hk12 : k < 5 := hk
      refine ord_enter rfl (exec_l93 _ _ rfl hx) ((l93Frac_any _ _ _ (by omega) hJ.1).mono ?_)
      rintro e w4 ⟨n, d, rfl, hd⟩
      obtain ⟨j1, j2, j3, j4, j5⟩ := hJ
      exact ⟨_, rfl, hK _ _ ⟨hd.rdr.mono (by omega), hd.belowW j2 (by omega), j3.grown hd.2.1 (by omega), j4.grown hd.2.1 (by omega), j5.grown hd.2.1 hbg⟩ trivial ⟨n, d, rfl⟩⟩
    case refine_4 =>
      intro a w3 k hk hJ hold hdep K hK
      obtain ⟨n, d, hv⟩ := hdep 0 _ 10 rfl rfl (by kernel_rfl)
      have hp := hold 2 (by kernel_rfl)
      have hp' : a.eval (.tmp 2) = .pointer (some ⟨w.heap.size, 0, none⟩) := hp
      have hS := hJ.store (c := w.heap.size) (by omega) (Nat.le_refl _) hJ.2.2.1 n d
      obtain ⟨-, n0, d0, h1, h2, h3, h4⟩ := hJ.2.2.1
      exact ord_skip rfl (by simp only [execOp, hp', hv]; simp [h1, h2, h3, h4, go_sem]) (hK _ _ hS trivial trivial)
    case refine_5 =>
      intro a w3 k hk hJ hold hdep K hK
      obtain ⟨n, d, hv⟩ := hdep 2 _ 12 rfl rfl (by kernel_rfl)
      have hp := hold 3 (by kernel_rfl)
      have hp' : a.eval (.tmp 3) = .pointer (some ⟨w.heap.size + 1, 0, none⟩) := hp
      have hS := hJ.store (c := w.heap.size + 1) (by omega) (by omega) hJ.2.2.2.1 n d
      obtain ⟨-, n0, d0, h1, h2, h3, h4⟩ := hJ.2.2.2.1
      exact ord_skip rfl (by simp only [execOp, hp', hv]; simp [h1, h2, h3, h4, go_sem]) (hK _ _ hS trivial trivial)
  · rintro us w3 hl ⟨-, hbw, ⟨-, n, d, r1, r2, -, -⟩, ⟨-, m, f, r3, r4, -, -⟩, -⟩ -
    obtain ⟨u0, u1, u2, u3, u4, rfl⟩ : ∃ u0 u1 u2 u3 u4, us = [u0, u1, u2, u3, u4] := by
      match us, hl with
      | [u0, u1, u2, u3, u4], _ => exact ⟨_, _, _, _, _, rfl⟩
    clear hl hJ0
    simp only [List.map_cons, List.map_nil, ordFill, Act.put]
    go_wp2_with fail
    exact bodyPost_ret (v := .tuple #[.agg #[.int .i64 n, .int .i64 d], .agg #[.int .i64 m, .int .i64 f]]) (by simp [results, Try.results14, go_sem, r1, r2, r3, r4]) rfl ⟨n, d, m, f, rfl, hbw⟩

set_option maxHeartbeats 1600000 in
theorem drawFracLess_any (a : Option Addr) (n c : Nat) (z : List Int) (w : World) (h : IsRow .u8 w a n c z) :
    Calls Try.prog 10 #[.slice a n c] w (Frac2 w) := by
  go_enter Try.func10, Try.ntmps10
  go_wp2_with fail
  refine (drawFracAdd_any a n c z _ (isRow_alloc (isRow_alloc h _) _)).mono ?_
  rintro e w1 ⟨n1, d1, m1, f1, rfl, hb1⟩
  clear h
  have b_0 : w1.cell? ⟨w.heap.size, 0, none⟩ = some (.int .i64 0) := (hb1.cell (p := ⟨w.heap.size, 0, none⟩) (by simp; omega)).trans (by simp [go_sem])
  have b_1 : w1.cell? ⟨w.heap.size, 1, none⟩ = some (.int .i64 0) := (hb1.cell (p := ⟨w.heap.size, 1, none⟩) (by simp; omega)).trans (by simp [go_sem])
  have b_2 : w1.frozen? ⟨w.heap.size, 0, none⟩ = false := (hb1.frozen (p := ⟨w.heap.size, 0, none⟩) (by simp; omega)).trans (by simp [go_sem])
  have b_3 : w1.frozen? ⟨w.heap.size, 1, none⟩ = false := (hb1.frozen (p := ⟨w.heap.size, 1, none⟩) (by simp; omega)).trans (by simp [go_sem])
  have b_4 : w1.cell? ⟨w.heap.size + 1, 0, none⟩ = some (.int .i64 0) := (hb1.cell (p := ⟨w.heap.size + 1, 0, none⟩) (by simp)).trans (by simp [go_sem])
  have b_5 : w1.cell? ⟨w.heap.size + 1, 1, none⟩ = some (.int .i64 0) := (hb1.cell (p := ⟨w.heap.size + 1, 1, none⟩) (by simp)).trans (by simp [go_sem])
  have b_6 : w1.frozen? ⟨w.heap.size + 1, 0, none⟩ = false := (hb1.frozen (p := ⟨w.heap.size + 1, 0, none⟩) (by simp)).trans (by simp [go_sem])
  have b_7 : w1.frozen? ⟨w.heap.size + 1, 1, none⟩ = false := (hb1.frozen (p := ⟨w.heap.size + 1, 1, none⟩) (by simp)).trans (by simp [go_sem])
  have hbw := Reg.unalloc (Reg.unalloc hb1)
  have q1 : Box2 w1 w.heap.size := ⟨by have := hb1.size; simp at this; omega, 0, 0, b_0, b_1, b_2, b_3⟩
  have q2 : Box2 w1 (w.heap.size + 1) := ⟨by have := hb1.size; simp at this; omega, 0, 0, b_4, b_5, b_6, b_7⟩
  have hne : w.heap.size ≠ w.heap.size + 1 := by omega
  obtain ⟨r1, r2, r3, r4⟩ := stored4 hne q1 q2 n1 d1 m1 f1
  have hbe := (((hbw.setCell (p := ⟨w.heap.size, 0, none⟩) (Nat.le_refl _) (.int .i64 n1)).setCell (p := ⟨w.heap.size, 1, none⟩) (Nat.le_refl _) (.int .i64 d1)).setCell (p := ⟨w.heap.size + 1, 0, none⟩) (Nat.le_succ _) (.int .i64 m1)).setCell (p := ⟨w.heap.size + 1, 1, none⟩) (Nat.le_succ _) (.int .i64 f1)
  clear hb1 q1 q2 hbw
  go_wp2_with fail
  exact bodyPost_ret (v := .tuple #[.agg #[.int .i64 n1, .int .i64 d1], .agg #[.int .i64 m1, .int .i64 f1]]) (by simp [results, Try.results10, go_sem, r1, r2, r3, r4]) rfl ⟨n1, d1, m1, f1, rfl, hbe⟩
end Go.Proofs.Yticfncjhghjanaa
