/- A slice of numbers that the call owns; append onto it. -/
import Derived.Test.YtnolnlhoedafcaaCopy
import Derived.Deep.AppendLies
namespace Go.Proofs.Ytnolnlhoedafcaa
open Go.RowKit

/-- the slice at A, of n elements and capacity c, owns the numbers xs, in a block from B on (or it is nil and they are none) -/
def OwA (W : World) (B : Nat) (A : Option Addr) (n c : Nat) (xs : List Int) : Prop := W.ownsRow B 3 1 (.slice A n c) n (xs.map (Value.int .i64))

section
variable {W W' : World} {B B' n c : Nat} {A : Option Addr} {xs : List Int}
theorem OwA.nil (W : World) (B : Nat) : OwA W B none 0 0 [] := World.ownsRow_nil _ _ _ _
theorem OwA.len (h : OwA W B A n c xs) : xs.length = n := by have := h.1; simpa using this
theorem OwA.parts (h : OwA W B A n c xs) : (A = none ∧ n = 0 ∧ c = 0) ∨ ∃ g cur, A = some ⟨g, 0, none⟩ ∧ B ≤ g ∧ W.heap[g]? = some (.cells cur 3 (0, 0)) ∧ n ≤ c ∧ c ≤ maxLen ∧ cur.size = c ∧ cur.toList.take n = xs.map (Value.int .i64) := by
  rcases h.2 with ⟨h1, _⟩ | ⟨g, cap, cur, h1, h2, h3, h4, h5, h6, h7⟩
  · injection h1 with e1 e2 e3
    exact .inl ⟨e1, e2, e3⟩
  · injection h1 with e1 e2 e3
    subst e3
    exact .inr ⟨g, cur, e1, h2, h3, h4, h5, by simpa using h6, by simpa using h7⟩
theorem OwA.cap (h : OwA W B A n c xs) : n ≤ c ∧ c ≤ maxLen := by
  rcases h.parts with ⟨_, rfl, rfl⟩ | ⟨g, cur, _, _, _, h4, h5, _⟩
  · exact ⟨Nat.le_refl _, by unfold maxLen; omega⟩
  · exact ⟨h4, h5⟩
theorem OwA.at_ (h : OwA W B A n c xs) (hn : 0 < n) : ∃ g, A = some ⟨g, 0, none⟩ ∧ B ≤ g ∧ g < W.heap.size ∧ ∀ k, k < n → W.cell? ⟨g, k, none⟩ = some (.int .i64 (xs.getD k 0)) ∧ W.frozen? ⟨g, k, none⟩ = false := by
  rcases h.parts with ⟨_, rfl, _⟩ | ⟨g, cur, rfl, h2, h3, h4, h5, h6, h7⟩
  · omega
  · refine ⟨g, rfl, h2, (Array.getElem?_eq_some_iff.1 h3).1, fun k hk => ⟨?_, by simp [World.frozen?, h3]⟩⟩
    rw [cell_of_row W g k cur 3 (0, 0) h3]
    have hl := h.len
    have e : (cur.toList.take n)[k]? = (xs.map (Value.int .i64))[k]? := by rw [h7]
    have hk2 : k < xs.length := by omega
    rw [List.getElem?_take, if_pos hk, List.getElem?_map, List.getElem?_eq_getElem (l := xs) hk2] at e
    rw [← Array.getElem?_toList, e, List.getD_eq_getElem?_getD, List.getElem?_eq_getElem (l := xs) hk2]
    rfl
theorem OwA.rd (h : OwA W B A n c xs) : RdI W W.heap.size A n xs :=
  ⟨h.len, fun hn => by
    obtain ⟨g, e, _, hl, hc⟩ := h.at_ hn
    exact ⟨g, 0, e, hl, fun j hj => by rw [Nat.zero_add]; exact (hc j hj).1⟩⟩
theorem OwA.keep (h : OwA W B A n c xs) (hk : ∀ g, A = some ⟨g, 0, none⟩ → g < W.heap.size → W'.heap[g]? = W.heap[g]?) : OwA W' B A n c xs := by
  refine ⟨h.1, ?_⟩
  rcases h.2 with h1 | ⟨g, cap, cur, h1, h2, h3, rest⟩
  · exact .inl h1
  · refine .inr ⟨g, cap, cur, h1, h2, ?_, rest⟩
    injection h1 with e1 _ _
    rw [hk g e1 (Array.getElem?_eq_some_iff.1 h3).1]
    exact h3
theorem OwA.below (h : OwA W B A n c xs) (hb : Below W.heap.size W W') : OwA W' B A n c xs := h.keep fun g _ hg => hb.block g hg
theorem OwA.drewN (h : OwA W B A n c xs) (q : Nat) : OwA (W.drewN q) B A n c xs := h
theorem OwA.alloc (h : OwA W B A n c xs) (o : Obj) : OwA (W.alloc o) B A n c xs := h.keep fun g _ hg => Below.heap_alloc W o g hg
theorem OwA.drew (h : OwA W B A n c xs) : OwA W.drew B A n c xs := h
theorem OwA.other {r : Option Nat} (h : OwA W B A n c xs) (hg : W.grownBy W' r) (hne : ∀ g, A = some ⟨g, 0, none⟩ → r ≠ some g) : OwA W' B A n c xs :=
  h.keep fun g hA hlt => hg.block g hlt (fun e => hne g hA e.symm)
theorem OwA.lt (h : OwA W B A n c xs) {g : Nat} (hg : A = some ⟨g, 0, none⟩) : g < W.heap.size := by
  rcases h.parts with ⟨h1, _⟩ | ⟨g', cur, h1, _, h3, _⟩
  · rw [h1] at hg; cases hg
  · have e : g' = g := by rw [h1] at hg; injection hg with e; injection e
    subst e
    exact (Array.getElem?_eq_some_iff.1 h3).1
/-- where the slice behind an append lies: from block H on, if the one ahead of it did -/
theorem OwA.from_ {H : Nat} {A' : Option Addr} (h : OwA W B A n c xs) (h1 : ∀ g', A = some ⟨g', 0, none⟩ → H ≤ g') (h2 : ∀ g', A' = some ⟨g', 0, none⟩ → Value.ownBlock (.slice A n c) = some g' ∨ W.heap.size ≤ g') (hH : H ≤ W.heap.size) : ∀ g', A' = some ⟨g', 0, none⟩ → H ≤ g' := by
  intro g' hg'
  rcases h2 g' hg' with h3 | h3
  · rcases h.parts with ⟨rfl, _⟩ | ⟨g'', cur, rfl, _⟩
    · cases h3
    · have e : g'' = g' := Option.some.inj h3
      exact h1 g' (by rw [e])
  · omega
theorem OwA.row_ne {g : Nat} (h : OwA W B A n c xs) (h1 : ∀ g', A = some ⟨g', 0, none⟩ → g < g') : Value.ownBlock (.slice A n c) ≠ some g := by
  intro e
  rcases h.parts with ⟨rfl, _⟩ | ⟨g'', cur, rfl, _⟩
  · cases e
  · have e : g'' = g := Option.some.inj e
    have := h1 g'' rfl
    omega
theorem OwA.base (h : OwA W B A n c xs) (hB : B' ≤ B) : OwA W B' A n c xs := by
  refine ⟨h.1, ?_⟩
  rcases h.2 with h1 | ⟨g, cap, cur, h1, h2, rest⟩
  · exact .inl h1
  · exact .inr ⟨g, cap, cur, h1, Nat.le_trans hB h2, rest⟩
theorem OwA.set_ {g : Nat} (h : OwA W B (some ⟨g, 0, none⟩) n c xs) (k : Nat) (v : Int) : OwA (W.setCell ⟨g, k, none⟩ (.int .i64 v)) B (some ⟨g, 0, none⟩) n c (xs.set k v) := by
  rcases h.parts with ⟨h1, _⟩ | ⟨g', cur, h1, h2, h3, h4, h5, h6, h7⟩
  · cases h1
  · have e : g' = g := by injection h1 with e; injection e with e1; exact e1.symm
    subst e
    refine ⟨by have := h.1; simpa using this, .inr ⟨g', c, cur.setIfInBounds k (.int .i64 v), rfl, h2, ?_, h4, h5, by simpa using h6, ?_⟩⟩
    · simp [World.setCell, Array.getElem?_modify, h3]
    · have h8 : (cur.toList.set k (Value.int .i64 v)).take n = (cur.toList.take n).set k (.int .i64 v) := by rw [List.take_set]
      rw [Array.toList_setIfInBounds]
      simp only [Nat.mul_one]
      rw [h8, h7, List.map_set]
end

/-- append of one number, laid ahead in a box of its own -/
theorem wpList_app1 {ops : Array Oper} {rest : List Oper} {o : Oper} {a : Act} {Q : Exit → Act → World → Prop} {wr : World} (hgd : o.guard = none) (s x : Operand)
    (ho : o.op = .call { callee := .builtin .append, args := #[s, x], argTypes := #[24, 24] }) (T : TypeId)
    (B : Nat) (A : Option Addr) (n c : Nat) (xs : List Int) (y : Int) (hs : a.eval s = .slice A n c) (hown : OwA wr B A n c xs) (hx : a.eval x = .slice (some ⟨wr.heap.size, 0, none⟩) 1 1) (hn : n ≤ 4194304) (hB : B ≤ wr.heap.size)
    (h : ∀ g cap w', OwA w' B (some ⟨g, 0, none⟩) (n + 1) cap (xs ++ [y]) → Below B wr w' → wr.grownBy w' (Value.ownBlock (.slice A n c)) → (Value.ownBlock (.slice A n c) = some g ∨ wr.heap.size ≤ g) → wpList Try.prog ops Q rest (a.put o.dst (.slice (some ⟨g, 0, none⟩) (n + 1) cap)) w') :
    wpList Try.prog ops Q (o :: rest) a (wr.alloc (.cells #[Value.int .i64 y] T)) := by
  obtain ⟨i, hi, hz, hs1, hb1⟩ := info_parts int_info
  refine wpList_append_lies _ hgd s x 24 ho B 3 i (.int .i64 0) 1 8 Try.underlying24 hi hz hs1 hb1 rfl (by decide) _ n (xs.map (Value.int .i64)) hs (hown.alloc _) ⟨wr.heap.size, 0, none⟩ 1 1 [.int .i64 y] hx rfl ?_ ?_ (by decide) (by unfold maxLen; omega) (by omega) (by simp; omega) (wr.heap.size + 1) (by simp) ?_
  · intro j u hj
    match j, hj with
    | 0, hj => simp at hj; subst hj; simp [Addr.add, go_sem]
  · intro u hu; simp at hu; subst hu; rfl
  · intro g cap w' hown' hgrow hat _
    have hg2 : wr.grownBy w' (Value.ownBlock (.slice A n c)) := ⟨hgrow.os, hgrow.tape, hgrow.output, Nat.le_trans (by simp) hgrow.size, fun k hk hne => (hgrow.block k (by simp; omega) hne).trans (Below.heap_alloc wr _ k hk)⟩
    refine h g cap w' (by unfold OwA; rw [List.map_append]; exact hown') ((Below.refl _ _).grown hg2 hB ?_) hg2 (hat.imp id (fun e => by omega))
    intro k hk
    rcases hown.parts with ⟨rfl, _, _⟩ | ⟨g', cur, rfl, h2, _⟩
    · simp [Value.ownBlock] at hk
    · simp [Value.ownBlock] at hk; omega

/-- a list in a block from B on, where only a block below B is written -/
theorem OwA.above {W W' : World} {B n c g : Nat} {A : Option Addr} {xs : List Int} (h : OwA W B A n c xs) (hg : W.grownBy W' (some g)) (hlt : g < B) : OwA W' B A n c xs := by
  refine ⟨h.1, ?_⟩
  rcases h.2 with h1 | ⟨g', cap, cur, h1, h2, h3, rest⟩
  · exact .inl h1
  · refine .inr ⟨g', cap, cur, h1, h2, ?_, rest⟩
    rw [hg.block g' (Array.getElem?_eq_some_iff.1 h3).1 (fun e => by injection e with e; omega)]
    exact h3
theorem addr_add (b o j : Nat) : (⟨b, o, none⟩ : Addr).add j = ⟨b, o + j, none⟩ := by unfold Addr.add; split <;> simp_all
theorem src_take {W : World} {B b off n : Nat} {xs : List Int} (h : RdI W B (some ⟨b, off, none⟩) n xs) (i : Nat) (hi : i ≤ n) : ∀ j, j < i → W.cell? ((⟨b, off, none⟩ : Addr).add j) = some (.int .i64 ((xs.take i).getD j 0)) := by
  intro j hj
  obtain ⟨b', off', e, _, hc⟩ := h.2 (by omega)
  injection e with e; injection e with e1 e2; subst e1; subst e2
  rw [addr_add, hc j (by omega), List.getD_eq_getElem?_getD, List.getD_eq_getElem?_getD, List.getElem?_take, if_pos hj]
theorem src_drop {W : World} {B b off n : Nat} {xs : List Int} (h : RdI W B (some ⟨b, off, none⟩) n xs) (i : Nat) (hi : i ≤ n) : ∀ j, j < n - i → W.cell? ((⟨b, off + i, none⟩ : Addr).add j) = some (.int .i64 ((xs.drop i).getD j 0)) := by
  intro j hj
  obtain ⟨b', off', e, _, hc⟩ := h.2 (by omega)
  injection e with e; injection e with e1 e2; subst e1; subst e2
  rw [addr_add, Nat.add_assoc, hc (i + j) (by omega), List.getD_eq_getElem?_getD, List.getD_eq_getElem?_getD, List.getElem?_drop]
/-- append of a whole list that lies at a2: how it runs -/
theorem run_appN {W : World} {B n c : Nat} {A : Option Addr} {xs ys : List Int} (T2 : TypeId) (hown : OwA W B A n c xs) (a2 : Addr) (m c2 : Nat) (hlen : ys.length = m) (hsrc : ∀ j, j < m → W.cell? (a2.add j) = some (.int .i64 (ys.getD j 0)))
    (N : Nat) (hN : n + m = N) (hnm : N ≤ 4194304) (hB : B ≤ W.heap.size) :
    ∃ A' c' w', (Builtin.append_ #[24, 24] T2 #[.slice A n c, .slice (some a2) m c2]).run Try.prog W = .ok (.slice A' N c') w' ∧ OwA w' B A' N c' (xs ++ ys) ∧ Below B W w' ∧
      W.grownBy w' (Value.ownBlock (.slice A n c)) ∧ (∀ g', A' = some ⟨g', 0, none⟩ → Value.ownBlock (.slice A n c) = some g' ∨ W.heap.size ≤ g') := by
  subst hN
  obtain ⟨i, hi, hz, hs1, hb1⟩ := info_parts int_info
  obtain ⟨v', w', hr, hown', hgrow, hnil, hat⟩ := run_append_own_at (P := Try.prog) W B 24 T2 3 i (.int .i64 0) 1 8 Try.underlying24 hi hz hs1 hb1 rfl (by decide) _ n (xs.map (Value.int .i64)) hown a2 m c2 (ys.map (Value.int .i64)) (by simpa using hlen) (fun j u hj => by
    rw [List.getElem?_map] at hj
    have hj' : j < ys.length := by
      rcases Nat.lt_or_ge j ys.length with h | h
      · exact h
      · rw [List.getElem?_eq_none h] at hj; cases hj
    rw [hsrc j (by omega), List.getD_eq_getElem?_getD]
    rw [List.getElem?_eq_getElem hj'] at hj ⊢
    exact hj) (fun u hu => by obtain ⟨y, _, rfl⟩ := List.mem_map.1 hu; rfl) (by unfold maxLen; omega) (by omega) hB
  have hrow : ∀ k, Value.ownBlock (.slice A n c) = some k → B ≤ k := by
    intro k hk
    rcases hown.parts with ⟨rfl, _, _⟩ | ⟨g', cur, rfl, h2, _⟩
    · simp [Value.ownBlock] at hk
    · simp [Value.ownBlock] at hk; omega
  obtain ⟨A', c', rfl⟩ : ∃ A' c', v' = .slice A' (n + m) c' := by
    rcases hown'.2 with ⟨h1, h2⟩ | ⟨g, cap, cur, h1, _⟩
    · exact ⟨none, 0, by rw [h1, h2]⟩
    · exact ⟨_, _, h1⟩
  refine ⟨A', c', w', hr, by unfold OwA; rw [List.map_append]; exact hown', (Below.refl _ _).grown hgrow hB hrow, hgrow, fun g' hg => ?_⟩
  subst hg
  rcases hat with h | h
  · left; rw [← h]; rfl
  · right; simp [Value.ownBlock] at h; omega

/-- the same, as one step of a region that draws -/
theorem step_appN {ops : Array Oper} {o : Oper} {a : Act} {K : Act → World → Prop} {Q : Exit → Act → World → Prop} {E : Prop} {W : World} (hgd : o.guard = none) (s x : Operand)
    (ho : o.op = .call { callee := .builtin .append, args := #[s, x], argTypes := #[24, 24] })
    {B n c : Nat} {A : Option Addr} {xs ys : List Int} (hs : a.eval s = .slice A n c) (a2 : Addr) (m c2 : Nat) (hx : a.eval x = .slice (some a2) m c2) (hown : OwA W B A n c xs) (hlen : ys.length = m) (hsrc : ∀ j, j < m → W.cell? (a2.add j) = some (.int .i64 (ys.getD j 0)))
    (N : Nat) (hN : n + m = N) (hnm : N ≤ 4194304) (hB : B ≤ W.heap.size)
    (h : ∀ A' c' w', OwA w' B A' N c' (xs ++ ys) → Below B W w' → W.grownBy w' (Value.ownBlock (.slice A n c)) → (∀ g', A' = some ⟨g', 0, none⟩ → Value.ownBlock (.slice A n c) = some g' ∨ W.heap.size ≤ g') → K (a.put o.dst (.slice A' N c')) w') :
    if Region.wanted o (yielded ops a.tmps) = true then Oper.wp Try.prog o a W K Q else E := by
  have hw : Region.wanted o (yielded ops a.tmps) = true := by simp [Region.wanted, hgd]
  rw [if_pos hw]
  obtain ⟨A', c', w', hr, h1, h2, h3, h4⟩ := run_appN o.type hown a2 m c2 hlen hsrc N hN hnm hB
  unfold Oper.wp execOp
  simp only [ho, resolve, invoke, builtin, Sem.run_bind, Sem.run_pure, Result.andThen_ok, List.map_toArray, List.map_cons, List.map_nil, hs, hx, hr]
  exact h A' c' w' h1 h2 h3 h4

/-- append of one number that lies in a box, as one step of a region that draws -/
theorem step_app1 {ops : Array Oper} {o : Oper} {a : Act} {K : Act → World → Prop} {Q : Exit → Act → World → Prop} {E : Prop} {W : World} (hgd : o.guard = none) (s x : Operand)
    (ho : o.op = .call { callee := .builtin .append, args := #[s, x], argTypes := #[24, 24] })
    {B n c : Nat} {A : Option Addr} {xs : List Int} {y : Int} (hs : a.eval s = .slice A n c) (b c2 : Nat) (hx : a.eval x = .slice (some ⟨b, 0, none⟩) 1 c2) (hown : OwA W B A n c xs) (hcell : W.cell? ⟨b, 0, none⟩ = some (.int .i64 y))
    (hn : n ≤ 4194303) (hB : B ≤ W.heap.size)
    (h : ∀ A' c' w', OwA w' B A' (n + 1) c' (xs ++ [y]) → Below B W w' → W.grownBy w' (Value.ownBlock (.slice A n c)) → (∀ g', A' = some ⟨g', 0, none⟩ → Value.ownBlock (.slice A n c) = some g' ∨ W.heap.size ≤ g') → K (a.put o.dst (.slice A' (n + 1) c')) w') :
    if Region.wanted o (yielded ops a.tmps) = true then Oper.wp Try.prog o a W K Q else E :=
  step_appN hgd s x ho (ys := [y]) hs ⟨b, 0, none⟩ 1 c2 hx hown rfl (fun j hj => by obtain rfl : j = 0 := (by omega); rw [addr_add]; exact hcell) (n + 1) rfl (by omega) hB h
/-- and at the list of a plain region's operations -/
theorem wpList_appN {ops : Array Oper} {rest : List Oper} {o : Oper} {a : Act} {Q : Exit → Act → World → Prop} {W : World} (hgd : o.guard = none) (s x : Operand)
    (ho : o.op = .call { callee := .builtin .append, args := #[s, x], argTypes := #[24, 24] })
    {B n c : Nat} {A : Option Addr} {xs ys : List Int} (hs : a.eval s = .slice A n c) (a2 : Addr) (m c2 : Nat) (hx : a.eval x = .slice (some a2) m c2) (hown : OwA W B A n c xs) (hlen : ys.length = m) (hsrc : ∀ j, j < m → W.cell? (a2.add j) = some (.int .i64 (ys.getD j 0)))
    (N : Nat) (hN : n + m = N) (hnm : N ≤ 4194304) (hB : B ≤ W.heap.size)
    (h : ∀ A' c' w', OwA w' B A' N c' (xs ++ ys) → Below B W w' → W.grownBy w' (Value.ownBlock (.slice A n c)) → (∀ g', A' = some ⟨g', 0, none⟩ → Value.ownBlock (.slice A n c) = some g' ∨ W.heap.size ≤ g') → wpList Try.prog ops Q rest (a.put o.dst (.slice A' N c')) w') :
    wpList Try.prog ops Q (o :: rest) a W :=
  wpList_plain hgd fun _ hK => by
    obtain ⟨A', c', w', hr, h1, h2, h3, h4⟩ := run_appN o.type hown a2 m c2 hlen hsrc N hN hnm hB
    unfold Oper.wp execOp
    simp only [ho, resolve, invoke, builtin, Sem.run_bind, Sem.run_pure, Result.andThen_ok, List.map_toArray, List.map_cons, List.map_nil, hs, hx, hr]
    exact hK _ _ (h A' c' w' h1 h2 h3 h4)

/-- a list of numbers in new memory, and whether it is one -/
def ResI (W : World) (xs : List Int) (ok : Bool) (e : Ending) (w' : World) : Prop :=
  ∃ A n c, e = .returned (.tuple #[.slice A n c, .bool ok]) ∧ OwA w' W.heap.size A n c xs ∧ Below W.heap.size W w'

theorem OwA.empty (W : World) (B : Nat) (hB : B ≤ W.heap.size) : OwA (W.alloc (.cells #[] 3)) B (some ⟨W.heap.size, 0, none⟩) 0 0 [] :=
  World.ownsRow_made _ _ _ hB (Nat.zero_le _) rfl

theorem ret_pair {v : Value} {a b : Bool} (h : a = b) : Ending.returned (.tuple #[v, .bool a]) = .returned (.tuple #[v, .bool b]) := by rw [h]
theorem OwnI.own {W : World} {g : Nat} {xs : List Int} (h : OwnI W g xs) (B : Nat) (hB : B ≤ g) (n : Nat) (hn : xs.length = n) (hm : n ≤ 4194304) : OwA W B (some ⟨g, 0, none⟩) n n xs :=
  ⟨by simpa using hn, .inr ⟨g, n, _, rfl, hB, h, Nat.le_refl _, by unfold maxLen; omega, by simpa using hn, by simp only [Nat.mul_one]; exact List.take_of_length_le (by simp [hn])⟩⟩
theorem RdI.drop_ {W : World} {B b off n : Nat} {xs : List Int} (h : RdI W B (some ⟨b, off, none⟩) n xs) (k : Nat) (hk : k ≤ n) (A' : Option Addr) (hA : 0 < n - k → A' = some ⟨b, off + k, none⟩) : RdI W B A' (n - k) (xs.drop k) := by
  refine ⟨by rw [List.length_drop]; have := h.1; omega, fun h0 => ?_⟩
  obtain ⟨b', off', e, hb, hc⟩ := h.2 (by omega)
  injection e with e; injection e with e1 e2; subst e1; subst e2
  refine ⟨b, off + k, hA h0, hb, fun j hj => ?_⟩
  rw [Nat.add_assoc, hc (k + j) (by omega), List.getD_eq_getElem?_getD, List.getD_eq_getElem?_getD, List.getElem?_drop]
end Go.Proofs.Ytnolnlhoedafcaa
