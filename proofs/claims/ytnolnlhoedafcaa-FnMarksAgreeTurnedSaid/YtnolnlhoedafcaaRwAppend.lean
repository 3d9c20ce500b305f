/- Rows laid to the end of a slice of rows, several at once, as one step of a region that draws; a call of one argument there. -/
import Derived.Test.YtnolnlhoedafcaaRwBox
namespace Go.Proofs.Ytnolnlhoedafcaa
open Go.RowKit
set_option linter.unusedSimpArgs false

/-- the cells from a2 on read as the rows Ys, each in a block of its own that is not the one at A -/
def SrcQ (W : World) (B : Nat) (A : Option Addr) (a2 : Addr) (Ys : List Rw) : Prop :=
  ∀ j (hj : j < Ys.length), ∃ Aj cj, W.cell? (a2.add j) = some (.slice Aj Ys[j].length cj) ∧ OwA W B Aj Ys[j].length cj Ys[j] ∧ ∀ g, Aj = some ⟨g, 0, none⟩ → A ≠ some ⟨g, 0, none⟩
theorem OwQ.srcD {u W : World} {B G n c : Nat} {Xs : List Rw} {A : Option Addr} (h : OwQ u B (some ⟨G, 0, none⟩) n c Xs) (k : Nat) (hb : Below u.heap.size u W) (hA : ∀ g, A = some ⟨g, 0, none⟩ → u.heap.size ≤ g) : SrcQ W B A ⟨G, k, none⟩ (Xs.drop k) := by
  intro j hj
  have hkj : k + j < Xs.length := by simp at hj; omega
  obtain ⟨⟨Aj, cj, q1, q2⟩, -⟩ := h.at_ (k + j) hkj
  have e : (Xs.drop k)[j] = Xs[k + j] := by simp
  rw [e]
  refine ⟨Aj, cj, ?_, q2.below hb, fun g hg e2 => ?_⟩
  · rw [rw_addr]; exact (hb.cell (p := ⟨G, k + j, none⟩) h.fromB.2).trans q1
  · have h1 := q2.lt hg; have h2 := hA g e2; omega
theorem SrcQ.nil {W : World} {B : Nat} {A : Option Addr} {a2 : Addr} {Ys : List Rw} (h : Ys.length = 0) : SrcQ W B A a2 Ys := fun j hj => by omega
theorem SrcQ.one {U W : World} {B b l cj : Nat} {A Aj : Option Addr} {y : Rw} (hl : y.length = l) (ho : OwA U B Aj l cj y) (hc : W.cell? ⟨b, 0, none⟩ = some (.slice Aj l cj)) (hb : Below U.heap.size U W) (hA : ∀ g, A = some ⟨g, 0, none⟩ → U.heap.size ≤ g) : SrcQ W B A ⟨b, 0, none⟩ [y] := by
  subst hl
  intro j hj
  obtain rfl : j = 0 := by simp at hj; omega
  exact ⟨Aj, cj, by rw [rw_addr]; exact hc, ho.below hb, fun g hg e => by have h1 := ho.lt hg; have h2 := hA g e; omega⟩

/-- append of rows: how it runs -/
theorem run_appQs {W : World} {B n c : Nat} {A : Option Addr} {Xs Ys : List Rw} (T2 : TypeId) (h : OwQ W B A n c Xs) (a2 : Addr) (m c2 : Nat) (hlen : Ys.length = m) (hs : SrcQ W B A a2 Ys)
    (N : Nat) (hN : n + m = N) (hn : N ≤ 4194304) (hB : B ≤ W.heap.size) :
    ∃ A' c' w', (Builtin.append_ #[22, 22] T2 #[.slice A n c, .slice (some a2) m c2]).run Try.prog W = .ok (.slice A' N c') w' ∧ OwQ w' B A' N c' (Xs ++ Ys) ∧ Below B W w' ∧
      W.grownBy w' (Value.ownBlock (.slice A n c)) ∧ (∀ g', A' = some ⟨g', 0, none⟩ → Value.ownBlock (.slice A n c) = some g' ∨ W.heap.size ≤ g') := by
  subst hN
  obtain ⟨vs, h1, h2, h3⟩ := h
  obtain ⟨i, hi, hz, hs1, hb1⟩ := info_parts rw_info'
  have hat : ∀ (j : Nat) (u : Value), ((List.range m).map fun j => (W.cell? (a2.add j)).getD undef)[j]? = some u → ∃ hj : j < Ys.length, W.cell? (a2.add j) = some u ∧ RowV W B A u Ys[j] := by
    intro j u hu
    rw [List.getElem?_map] at hu
    have hjm : j < m := by
      rcases Nat.lt_or_ge j m with h | h
      · exact h
      · rw [List.getElem?_eq_none (by simpa using h)] at hu; cases hu
    rw [List.getElem?_range hjm] at hu
    obtain ⟨Aj, cj, q1, q2, q3⟩ := hs j (by omega)
    simp [q1] at hu
    subst hu
    exact ⟨by omega, q1, Aj, cj, rfl, q2, q3⟩
  obtain ⟨v', w', hr, hown', hgrow, hnil, hblk⟩ := run_append_own_at (P := Try.prog) W B 22 T2 24 i _ 1 24 Try.underlying22 hi hz hs1 hb1 rfl (by decide) _ n vs h1 a2 m c2 ((List.range m).map fun j => (W.cell? (a2.add j)).getD undef) (by simp)
    (fun j u hj => (hat j u hj).2.1)
    (fun u hu => by
      obtain ⟨j, hj⟩ := List.mem_iff_getElem?.1 hu
      obtain ⟨-, -, _, _, rfl, -⟩ := hat j u hj
      rfl) (by unfold maxLen; omega) (by omega) hB
  have hrow : ∀ k, Value.ownBlock (.slice A n c) = some k → B ≤ k := fun k hk => (h1.lt k hk).1
  have hbl := (Below.refl B W).grown hgrow hB hrow
  obtain ⟨A', c', rfl⟩ : ∃ A' c', v' = .slice A' (n + m) c' := by
    rcases hown'.2 with ⟨e, e0⟩ | ⟨g', c', cur, e, _⟩
    · exact ⟨none, 0, by rw [e, e0]⟩
    · exact ⟨_, _, e⟩
  have hA' : ∀ g', A' = some ⟨g', 0, none⟩ → Value.ownBlock (.slice A n c) = some g' ∨ W.heap.size ≤ g' := fun g' hg' => by
    subst hg'
    rcases hblk with h | h
    · left; rw [← h]; simp [Value.ownBlock]
    · right; simp [Value.ownBlock] at h; omega
  refine ⟨A', c', w', hr, ⟨_, hown', by simp [h2, hlen], fun j v y hv hy => ?_⟩, hbl, hgrow, hA'⟩
  have hgA : ∀ {v : Value} {y : Rw}, RowV W B A v y → RowV w' B A' v y := fun ⟨Ak, ck, q1, q2, q3⟩ => by
    have hown : ∀ i, Ak = some ⟨i, 0, none⟩ → Value.ownBlock (.slice A n c) ≠ some i := fun i hi e => by
      cases A with
      | none => simp [Value.ownBlock] at e
      | some a =>
        rcases h1.2 with ⟨e2, _⟩ | ⟨g2, _, _, e2, _⟩
        · cases e2
        · injection e2 with e2 _ _
          rw [e2] at e q3
          simp [Value.ownBlock] at e
          exact q3 i hi (by rw [e])
    refine ⟨Ak, ck, q1, q2.keep fun i hi hl => hgrow.block i hl (fun e => hown i hi e.symm), fun i hi e => ?_⟩
    have hlt := q2.lt hi
    rcases hA' i e with h | h
    · exact hown i hi h
    · omega
  have hl := h1.1
  by_cases hj : j < n
  · rw [List.getElem?_append_left (by omega)] at hv hy
    exact hgA (h3 j v y hv hy)
  · rw [List.getElem?_append_right (by omega)] at hv hy
    have e1 : j - vs.length = j - n := by omega
    have e2 : j - Xs.length = j - n := by omega
    rw [e1] at hv; rw [e2] at hy
    obtain ⟨hj2, -, hrow2⟩ := hat _ _ hv
    rw [List.getElem?_eq_getElem hj2] at hy
    injection hy with hy
    subst hy
    exact hgA hrow2

/-- rows that were laid to one another behind the world U: none of its blocks has turned -/
def Aft (U : World) (B : Nat) (A : Option Addr) (n c : Nat) (Xs : List Rw) (W : World) : Prop := OwQ W B A n c Xs ∧ Below U.heap.size U W ∧ ∀ g, A = some ⟨g, 0, none⟩ → U.heap.size ≤ g
theorem Aft.alloc {U W : World} {B n c : Nat} {A : Option Addr} {Xs : List Rw} (h : Aft U B A n c Xs W) (o : Obj) : Aft U B A n c Xs (W.alloc o) := ⟨h.1.alloc o, h.2.1.alloc h.2.1.size o, h.2.2⟩
theorem Aft.lit {U W : World} {B : Nat} (h : Below U.heap.size U W) (hB : B ≤ U.heap.size) : Aft U B (some ⟨W.heap.size, 0, none⟩) 0 0 [] (W.alloc (.cells #[] 24)) :=
  ⟨OwQ.empty W B (Nat.le_trans hB h.size), h.alloc h.size _, fun g hg => by injection hg with e; injection e with e; have := h.size; omega⟩
theorem Aft.rd {U W : World} {B n c : Nat} {A : Option Addr} {Xs : List Rw} (h : Aft U B A n c Xs W) : RdR W W.heap.size A n Xs := h.1.rd
/-- as one step of a region that draws -/
theorem step_appQs {ops : Array Oper} {o : Oper} {a : Act} {K : Act → World → Prop} {Q : Exit → Act → World → Prop} {E : Prop} {W : World} (hgd : o.guard = none) (s x : Operand)
    (ho : o.op = .call { callee := .builtin .append, args := #[s, x], argTypes := #[22, 22] })
    {B n c : Nat} {A : Option Addr} {Xs Ys : List Rw} (hs : a.eval s = .slice A n c) (a2 : Addr) (m c2 : Nat) (hx : a.eval x = .slice (some a2) m c2) (hown : OwQ W B A n c Xs) (hlen : Ys.length = m) (hsrc : SrcQ W B A a2 Ys)
    (N : Nat) (hN : n + m = N) (hnm : N ≤ 4194304) (hB : B ≤ W.heap.size)
    (h : ∀ A' c' w', OwQ w' B A' N c' (Xs ++ Ys) → Below B W w' → W.grownBy w' (Value.ownBlock (.slice A n c)) → (∀ g', A' = some ⟨g', 0, none⟩ → Value.ownBlock (.slice A n c) = some g' ∨ W.heap.size ≤ g') → K (a.put o.dst (.slice A' N c')) w') :
    if Region.wanted o (yielded ops a.tmps) = true then Oper.wp Try.prog o a W K Q else E := by
  have hw : Region.wanted o (yielded ops a.tmps) = true := by simp [Region.wanted, hgd]
  rw [if_pos hw]
  obtain ⟨A', c', w', hr, h1, h2, h3, h4⟩ := run_appQs o.type hown a2 m c2 hlen hsrc N hN hnm hB
  unfold Oper.wp execOp
  simp only [ho, resolve, invoke, builtin, Sem.run_bind, Sem.run_pure, Result.andThen_ok, List.map_toArray, List.map_cons, List.map_nil, hs, hx, hr]
  exact h A' c' w' h1 h2 h3 h4
theorem step_lay {ops : Array Oper} {o : Oper} {a : Act} {K : Act → World → Prop} {Q : Exit → Act → World → Prop} {E : Prop} {W : World} (hgd : o.guard = none) (s x : Operand)
    (ho : o.op = .call { callee := .builtin .append, args := #[s, x], argTypes := #[22, 22] })
    {U : World} {B n c : Nat} {A : Option Addr} {Xs Ys : List Rw} (hs : a.eval s = .slice A n c) (a2 : Addr) (m c2 : Nat) (hx : a.eval x = .slice (some a2) m c2) (hown : Aft U B A n c Xs W) (hlen : Ys.length = m)
    (hsrc : Below U.heap.size U W → (∀ g, A = some ⟨g, 0, none⟩ → U.heap.size ≤ g) → SrcQ W B A a2 Ys)
    (N : Nat) (hN : n + m = N) (hnm : N ≤ 4194304) (hB : B ≤ U.heap.size)
    (h : ∀ A' c' w', Aft U B A' N c' (Xs ++ Ys) w' → (∀ b v, b < W.heap.size → A ≠ some ⟨b, 0, none⟩ → W.cell? ⟨b, 0, none⟩ = some v → w'.cell? ⟨b, 0, none⟩ = some v) → K (a.put o.dst (.slice A' N c')) w') :
    if Region.wanted o (yielded ops a.tmps) = true then Oper.wp Try.prog o a W K Q else E := by
  have hU := hown.2.1.size
  have hblk : ∀ k, Value.ownBlock (.slice A n c) = some k → A = some ⟨k, 0, none⟩ := fun k hk => by
    obtain ⟨vs, h1, -⟩ := hown.1
    rcases h1.2 with ⟨e, -⟩ | ⟨g, cap, cur, e, -⟩
    · injection e with e1; subst e1; simp [Value.ownBlock] at hk
    · injection e with e1; subst e1; simp [Value.ownBlock] at hk; rw [hk]
  refine step_appQs hgd s x ho hs a2 m c2 hx hown.1 hlen (hsrc hown.2.1 hown.2.2) N hN hnm (by omega) fun A' c' w' h1 _ h3 h4 => h A' c' w' ⟨h1, hown.2.1.grown h3 hU fun k hk => hown.2.2 k (hblk k hk), fun g hg => ?_⟩ fun b v hb hne hc => ?_
  · rcases h4 g hg with e | e
    · exact hown.2.2 g (hblk g e)
    · omega
  · exact (h3.cell_far ⟨b, 0, none⟩ hb (fun e => hne (hblk b e.symm))).trans hc
/-- a call of one argument, as one step of a region that draws -/
theorem step_callQ {ops : Array Oper} {o : Oper} {a : Act} {K : Act → World → Prop} {Q : Exit → Act → World → Prop} {E : Prop} {w1 : World} {f : FuncId} {p : Value} {S : Ending → World → Prop} (hgd : o.guard = none) (x : Operand) (ts : Array TypeId)
    (ho : o.op = .call { callee := .value (.func f), args := #[x], argTypes := ts }) (hr : (callFunc f #[p]).run Try.prog w1 = .ok (.enter f #[p]) w1) (hx : a.eval x = p) (hc : Calls Try.prog f #[p] w1 S)
    (h : ∀ e w2, S e w2 → ∃ v, e = .returned v ∧ K (a.put o.dst v) w2) :
    if Region.wanted o (yielded ops a.tmps) = true then Oper.wp Try.prog o a w1 K Q else E := by
  have hw : Region.wanted o (yielded ops a.tmps) = true := by simp [Region.wanted, hgd]
  rw [if_pos hw]
  unfold Oper.wp execOp
  have hf : a.eval (.func f) = .func (.func f) #[] #[] := rfl
  simp only [ho, resolve, Deferred.ofValue, hf, invoke, Sem.run_bind, Sem.run_pure, Result.andThen_ok, List.map_toArray, List.map_cons, List.map_nil, hx]
  simp only [Array.append_empty, Array.empty_append] at hr ⊢
  rw [hr, Oper.upon_enter]
  refine hc.mono ?_
  intro e w2 hS
  obtain ⟨v, rfl, hK⟩ := h e w2 hS
  exact hK
theorem run_iMarksAgree (v : Value) (w : World) : (callFunc 10 #[v]).run Try.prog w = .ok (.enter 10 #[v]) w := by
  have h := Try.func10
  go_simp
theorem ag_turned {Xs : List Rw} (h : 0 < Xs.length) : Rw2.agOk (Xs.drop 1 ++ [Xs.getD 0 []]) = Rw2.agOk Xs ∧ Rw2.agL (Xs.drop 1 ++ [Xs.getD 0 []]) = Rw2.agL Xs := by
  cases Xs with
  | nil => simp at h
  | cons x Xs => exact Rw2.ag_turn x Xs
theorem iMarksAgree_turned (A : Option Addr) (n c : Nat) (Xs : List Rw) (W : World) (h : RdR W W.heap.size A n (Xs.drop 1 ++ [Xs.getD 0 []])) (h0 : 0 < Xs.length) (hn : n ≤ 4194304) (hm : ∀ x ∈ Xs, x.length ≤ 4194304) :
    Calls Try.prog 10 #[.slice A n c] W (ResI W (Rw2.agL Xs) (Rw2.agOk Xs)) := by
  have hc := iMarksAgree_any A n c _ W h hn fun x hx => by
    rcases List.mem_append.1 hx with hx | hx
    · exact hm x (List.mem_of_mem_drop hx)
    · rw [List.mem_singleton.1 hx, List.getD_eq_getElem?_getD, List.getElem?_eq_getElem h0]
      exact hm _ (List.getElem_mem h0)
  rw [(ag_turned h0).1, (ag_turned h0).2] at hc
  exact hc
theorem agL_le5 (Xs : List Rw) : (Rw2.agL Xs).length ≤ 5 := by
  cases h : Rw2.agOk Xs with
  | false => rw [Rw2.agL_f h]; simp
  | true => have h1 := (Rw2.ag_out h).2.1; have h2 := wide_le (Rw2.agOk_iff.1 h).1; omega
end Go.Proofs.Ytnolnlhoedafcaa
