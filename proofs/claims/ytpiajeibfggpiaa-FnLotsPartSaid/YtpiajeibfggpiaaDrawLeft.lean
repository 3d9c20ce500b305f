/- A slice of bools that the call owns; append onto it; l91Left draws one. -/
import Derived.Test.YtpiajeibfggpiaaBools
import Derived.Test.YtpiajeibfggpiaaDrawKit
namespace Go.Proofs.Ytpiajeibfggpiaa
open Go.RowKit

/-- the slice at A, of n elements and capacity c, owns the bools xs, in a block from B on (or it is nil and they are none) -/
def OwB (W : World) (B : Nat) (A : Option Addr) (n c : Nat) (xs : List Bool) : Prop := W.ownsRow B 4 1 (.slice A n c) n (xs.map (Value.bool))

section
variable {W W' : World} {B B' n c : Nat} {A : Option Addr} {xs : List Bool}
theorem OwB.nil (W : World) (B : Nat) : OwB W B none 0 0 [] := World.ownsRow_nil _ _ _ _
theorem OwB.len (h : OwB W B A n c xs) : xs.length = n := by have := h.1; simpa using this
theorem OwB.parts (h : OwB W B A n c xs) : (A = none ∧ n = 0 ∧ c = 0) ∨ ∃ g cur, A = some ⟨g, 0, none⟩ ∧ B ≤ g ∧ W.heap[g]? = some (.cells cur 4 (0, 0)) ∧ n ≤ c ∧ c ≤ maxLen ∧ cur.size = c ∧ cur.toList.take n = xs.map (Value.bool) := by
  rcases h.2 with ⟨h1, _⟩ | ⟨g, cap, cur, h1, h2, h3, h4, h5, h6, h7⟩
  · injection h1 with e1 e2 e3
    exact .inl ⟨e1, e2, e3⟩
  · injection h1 with e1 e2 e3
    subst e3
    exact .inr ⟨g, cur, e1, h2, h3, h4, h5, by simpa using h6, by simpa using h7⟩
theorem OwB.cap (h : OwB W B A n c xs) : n ≤ c ∧ c ≤ maxLen := by
  rcases h.parts with ⟨_, rfl, rfl⟩ | ⟨g, cur, _, _, _, h4, h5, _⟩
  · exact ⟨Nat.le_refl _, by unfold maxLen; omega⟩
  · exact ⟨h4, h5⟩
theorem OwB.at_ (h : OwB W B A n c xs) (hn : 0 < n) : ∃ g, A = some ⟨g, 0, none⟩ ∧ B ≤ g ∧ g < W.heap.size ∧ ∀ k, k < n → W.cell? ⟨g, k, none⟩ = some (.bool (xs.getD k false)) ∧ W.frozen? ⟨g, k, none⟩ = false := by
  rcases h.parts with ⟨_, rfl, _⟩ | ⟨g, cur, rfl, h2, h3, h4, h5, h6, h7⟩
  · omega
  · refine ⟨g, rfl, h2, (Array.getElem?_eq_some_iff.1 h3).1, fun k hk => ⟨?_, by simp [World.frozen?, h3]⟩⟩
    rw [cell_of_row W g k cur 4 (0, 0) h3]
    have hl := h.len
    have e : (cur.toList.take n)[k]? = (xs.map (Value.bool))[k]? := by rw [h7]
    have hk2 : k < xs.length := by omega
    rw [List.getElem?_take, if_pos hk, List.getElem?_map, List.getElem?_eq_getElem (l := xs) hk2] at e
    rw [← Array.getElem?_toList, e, List.getD_eq_getElem?_getD, List.getElem?_eq_getElem (l := xs) hk2]
    rfl
theorem OwB.rd (h : OwB W B A n c xs) : RdB W W.heap.size A n xs :=
  ⟨h.len, fun hn => by
    obtain ⟨g, e, _, hl, hc⟩ := h.at_ hn
    exact ⟨g, 0, e, hl, fun j hj => by rw [Nat.zero_add]; exact (hc j hj).1⟩⟩
theorem OwB.keep (h : OwB W B A n c xs) (hk : ∀ g, A = some ⟨g, 0, none⟩ → g < W.heap.size → W'.heap[g]? = W.heap[g]?) : OwB W' B A n c xs := by
  refine ⟨h.1, ?_⟩
  rcases h.2 with h1 | ⟨g, cap, cur, h1, h2, h3, rest⟩
  · exact .inl h1
  · refine .inr ⟨g, cap, cur, h1, h2, ?_, rest⟩
    injection h1 with e1 _ _
    rw [hk g e1 (Array.getElem?_eq_some_iff.1 h3).1]
    exact h3
theorem OwB.below (h : OwB W B A n c xs) (hb : Below W.heap.size W W') : OwB W' B A n c xs := h.keep fun g _ hg => hb.block g hg
theorem OwB.drewN (h : OwB W B A n c xs) (q : Nat) : OwB (W.drewN q) B A n c xs := h
theorem OwB.alloc (h : OwB W B A n c xs) (o : Obj) : OwB (W.alloc o) B A n c xs := h.keep fun g _ hg => Below.heap_alloc W o g hg
theorem OwB.drew (h : OwB W B A n c xs) : OwB W.drew B A n c xs := h
theorem OwB.other {r : Option Nat} (h : OwB W B A n c xs) (hg : W.grownBy W' r) (hne : ∀ g, A = some ⟨g, 0, none⟩ → r ≠ some g) : OwB W' B A n c xs :=
  h.keep fun g hA hlt => hg.block g hlt (fun e => hne g hA e.symm)
theorem OwB.lt (h : OwB W B A n c xs) {g : Nat} (hg : A = some ⟨g, 0, none⟩) : g < W.heap.size := by
  rcases h.parts with ⟨h1, _⟩ | ⟨g', cur, h1, _, h3, _⟩
  · rw [h1] at hg; cases hg
  · have e : g' = g := by rw [h1] at hg; injection hg with e; injection e
    subst e
    exact (Array.getElem?_eq_some_iff.1 h3).1
/-- where the slice behind an append lies: from block H on, if the one ahead of it did -/
theorem OwB.from_ {H : Nat} {A' : Option Addr} (h : OwB W B A n c xs) (h1 : ∀ g', A = some ⟨g', 0, none⟩ → H ≤ g') (h2 : ∀ g', A' = some ⟨g', 0, none⟩ → Value.ownBlock (.slice A n c) = some g' ∨ W.heap.size ≤ g') (hH : H ≤ W.heap.size) : ∀ g', A' = some ⟨g', 0, none⟩ → H ≤ g' := by
  intro g' hg'
  rcases h2 g' hg' with h3 | h3
  · rcases h.parts with ⟨rfl, _⟩ | ⟨g'', cur, rfl, _⟩
    · cases h3
    · have e : g'' = g' := Option.some.inj h3
      exact h1 g' (by rw [e])
  · omega
theorem OwB.row_ne {g : Nat} (h : OwB W B A n c xs) (h1 : ∀ g', A = some ⟨g', 0, none⟩ → g < g') : Value.ownBlock (.slice A n c) ≠ some g := by
  intro e
  rcases h.parts with ⟨rfl, _⟩ | ⟨g'', cur, rfl, _⟩
  · cases e
  · have e : g'' = g := Option.some.inj e
    have := h1 g'' rfl
    omega
theorem OwB.base (h : OwB W B A n c xs) (hB : B' ≤ B) : OwB W B' A n c xs := by
  refine ⟨h.1, ?_⟩
  rcases h.2 with h1 | ⟨g, cap, cur, h1, h2, rest⟩
  · exact .inl h1
  · exact .inr ⟨g, cap, cur, h1, Nat.le_trans hB h2, rest⟩
end

/-- append of one bool, laid ahead in a box of its own -/
theorem wpList_app1B {ops : Array Oper} {rest : List Oper} {o : Oper} {a : Act} {Q : Exit → Act → World → Prop} {wr : World} (hgd : o.guard = none) (s x : Operand)
    (ho : o.op = .call { callee := .builtin .append, args := #[s, x], argTypes := #[39, 39] }) (T : TypeId)
    (B : Nat) (A : Option Addr) (n c : Nat) (xs : List Bool) (y : Bool) (hs : a.eval s = .slice A n c) (hown : OwB wr B A n c xs) (hx : a.eval x = .slice (some ⟨wr.heap.size, 0, none⟩) 1 1) (hn : n ≤ 4194304) (hB : B ≤ wr.heap.size)
    (h : ∀ g cap w', OwB w' B (some ⟨g, 0, none⟩) (n + 1) cap (xs ++ [y]) → Below B wr w' → wr.grownBy w' (Value.ownBlock (.slice A n c)) → (Value.ownBlock (.slice A n c) = some g ∨ wr.heap.size ≤ g) → wpList Try.prog ops Q rest (a.put o.dst (.slice (some ⟨g, 0, none⟩) (n + 1) cap)) w') :
    wpList Try.prog ops Q (o :: rest) a (wr.alloc (.cells #[Value.bool y] T)) := by
  obtain ⟨i, hi, hz, hs1, hb1⟩ := info_parts bool_info
  refine wpList_append_lies _ hgd s x 39 ho B 4 i (.bool false) 1 1 Try.underlying39 hi hz hs1 hb1 rfl (by decide) _ n (xs.map (Value.bool)) hs (hown.alloc _) ⟨wr.heap.size, 0, none⟩ 1 1 [.bool y] hx rfl ?_ ?_ (by decide) (by unfold maxLen; omega) (by omega) (by simp; omega) (wr.heap.size + 1) (by simp) ?_
  · intro j u hj
    match j, hj with
    | 0, hj => simp at hj; subst hj; simp [Addr.add, go_sem]
  · intro u hu; simp at hu; subst hu; rfl
  · intro g cap w' hown' hgrow hat _
    have hg2 : wr.grownBy w' (Value.ownBlock (.slice A n c)) := ⟨hgrow.os, hgrow.tape, hgrow.output, Nat.le_trans (by simp) hgrow.size, fun k hk hne => (hgrow.block k (by simp; omega) hne).trans (Below.heap_alloc wr _ k hk)⟩
    refine h g cap w' (by unfold OwB; rw [List.map_append]; exact hown') ((Below.refl _ _).grown hg2 hB ?_) hg2 (hat.imp id (fun e => by omega))
    intro k hk
    rcases hown.parts with ⟨rfl, _, _⟩ | ⟨g', cur, rfl, h2, _⟩
    · simp [Value.ownBlock] at hk
    · simp [Value.ownBlock] at hk; omega

/-- a list in a block from B on, where only a block below B is written -/
theorem OwB.above {W W' : World} {B n c g : Nat} {A : Option Addr} {xs : List Bool} (h : OwB W B A n c xs) (hg : W.grownBy W' (some g)) (hlt : g < B) : OwB W' B A n c xs := by
  refine ⟨h.1, ?_⟩
  rcases h.2 with h1 | ⟨g', cap, cur, h1, h2, h3, rest⟩
  · exact .inl h1
  · refine .inr ⟨g', cap, cur, h1, h2, ?_, rest⟩
    rw [hg.block g' (Array.getElem?_eq_some_iff.1 h3).1 (fun e => by injection e with e; omega)]
    exact h3

theorem OwB.empty (W : World) (B : Nat) (hB : B ≤ W.heap.size) : OwB (W.alloc (.cells #[] 4)) B (some ⟨W.heap.size, 0, none⟩) 0 0 [] :=
  World.ownsRow_made _ _ _ hB (Nat.zero_le _) rfl
theorem OwB.pick {w1 w2 : World} {g B n c : Nat} {A : Option Addr} {xs : List Bool} (h : OwB w1 B A n c xs) (hg : w1.grownBy w2 (some g)) (hlt : g < B) : OwB w2 B A n c xs := h.above hg hlt

/-- a list of bools in new memory, drawn by the reader -/
def DrawB (W : World) (g P : Nat) (m : Int) (e : Ending) (w' : World) : Prop :=
  ∃ A n c xs, e = .returned (.slice A n c) ∧ OwB w' W.heap.size A n c xs ∧ (n : Int) = m ∧ Dr W g P w'

set_option maxHeartbeats 1600000 in
theorem l91Left_any (g P : Nat) (m : Int) (W : World) (hP : P ≤ 900000) (hr : Rdr W g P) (h0 : 0 ≤ m) (h1 : m ≤ 1000) :
    Calls Try.prog 52 #[.pointer (some ⟨g, 0, none⟩), .int .i64 m] W (DrawB W g (P + m.toNat) m) := by
  have hd := Dr.start hr
  have hgl := hr.lt
  have HE := Lib.hid (OwB.empty W W.heap.size (Nat.le_refl _))
  clear hr
  go_enter Try.func52, Try.ntmps52
  go_wp2_with fail
  go_loopw [5, 6] (fun v i wr => ∃ (k : Nat) (A : Option Addr) (c : Nat) (xs : List Bool), (k : Int) ≤ m ∧ i = .int .i64 k ∧ v = .slice A k c ∧ OwB wr W.heap.size A k c xs ∧ Dr W g (P + k) wr) (fun _ i _ => m.toNat - (intOf i).toNat)
  case atStart => exact ⟨0, _, _, _, by omega, rfl, rfl, HE.out, hd.alloc _⟩
  case round =>
    obtain ⟨k, A, c, xs, hk, rfl, rfl, ho, hd⟩ := hrel
    have HO := Lib.hid ho
    clear ho
    have hBs := hd.size
    by_cases hlt : (k : Int) < m
    · go_wp2_with fail
      refine (pickD_any _ hd (by omega)).mono ?_
      rintro e w2 ⟨v, rfl, -, -, hd2, hg2, -⟩
      have HO2 := Lib.hid (HO.out.pick hg2 hgl)
      have hBs2 := hd2.size
      clear hg2 hd
      go_wp2_with (at_builtin; refine wpList_app1B (by rfl) _ _ (by rfl) _ W.heap.size A k c _ _ (by rfl) HO2.out (by rfl) (by omega) hBs2 ?_)
      intro g2 cap w4 ho4 hb4 _ _
      have hd4 := hd2.belowB hb4
      have HO4 := Lib.hid ho4
      clear ho4 hb4
      go_wp2_with fail
      go_roundw
      case rel => exact ⟨k + 1, _, _, _, by omega, by go_num, rfl, HO4.out, hd4.mono (by omega)⟩
      case measure => simp [intOf]; omega
    · go_wp2_with fail
      go_ret
      exact ⟨_, k, c, xs, rfl, HO.out, by omega, hd.mono (by omega)⟩
end Go.Proofs.Ytpiajeibfggpiaa
