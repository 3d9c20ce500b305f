/- A slice of rows that a call makes: rows are laid to its end, or in another's place. -/
import Derived.Test.YtnolnlhoedafcaaRwWalk
import Derived.Test.YtnolnlhoedafcaaDrawKit
namespace Go.Proofs.Ytnolnlhoedafcaa
open Go.RowKit
set_option linter.unusedSimpArgs false

/-- v is a slice that reads as x, in a block of its own that is not the one at A -/
def RowV (W : World) (B : Nat) (A : Option Addr) (v : Value) (x : Rw) : Prop :=
  ∃ Aj cj, v = .slice Aj x.length cj ∧ OwA W B Aj x.length cj x ∧ ∀ g, Aj = some ⟨g, 0, none⟩ → A ≠ some ⟨g, 0, none⟩
/-- the slice of rows (A, n, c) is the call's own, and so are its rows -/
def OwQ (W : World) (B : Nat) (A : Option Addr) (n c : Nat) (Xs : List Rw) : Prop :=
  ∃ vs : List Value, W.ownsRow B 24 1 (.slice A n c) n vs ∧ Xs.length = n ∧ ∀ (j : Nat) (v : Value) (x : Rw), vs[j]? = some v → Xs[j]? = some x → RowV W B A v x
section
variable {W W' : World} {B B' n c : Nat} {A : Option Addr} {Xs : List Rw}
theorem RowV.keep {v : Value} {x : Rw} (h : RowV W B A v x) (hk : ∀ g, B ≤ g → g < W.heap.size → A ≠ some ⟨g, 0, none⟩ → W'.heap[g]? = W.heap[g]?) : RowV W' B A v x := by
  obtain ⟨Aj, cj, h1, h2, h3⟩ := h
  refine ⟨Aj, cj, h1, h2.keep fun g hg hl => hk g ?_ hl (h3 g hg), h3⟩
  rcases h2.parts with ⟨hx, _⟩ | ⟨g', cur, hx, hx2, _⟩
  · rw [hx] at hg; cases hg
  · rw [hx] at hg; injection hg with e; injection e with e; omega
theorem OwQ.len (h : OwQ W B A n c Xs) : Xs.length = n := by obtain ⟨vs, _, h2, _⟩ := h; exact h2
theorem rowKeep {vs : List Value} (h : W.ownsRow B 24 1 (.slice A n c) n vs) (hk : ∀ g, A = some ⟨g, 0, none⟩ → g < W.heap.size → W'.heap[g]? = W.heap[g]?) : W'.ownsRow B 24 1 (.slice A n c) n vs := by
  refine ⟨h.1, ?_⟩
  rcases h.2 with h1 | ⟨g, cap, cur, h1, h2, h3, rest⟩
  · exact .inl h1
  · refine .inr ⟨g, cap, cur, h1, h2, ?_, rest⟩
    injection h1 with e1 _ _
    rw [hk g e1 (Array.getElem?_eq_some_iff.1 h3).1]
    exact h3
theorem OwQ.keep (h : OwQ W B A n c Xs) (hk : ∀ g, B ≤ g → g < W.heap.size → W'.heap[g]? = W.heap[g]?) : OwQ W' B A n c Xs := by
  obtain ⟨vs, h1, h2, h3⟩ := h
  refine ⟨vs, rowKeep h1 fun g hg hl => hk g ?_ hl, h2, fun j v x hv hx => (h3 j v x hv hx).keep fun g hB hl _ => hk g hB hl⟩
  have := (h1.lt g (by rw [hg]; rfl)).1
  exact this
theorem OwQ.below (h : OwQ W B A n c Xs) (hb : Below W.heap.size W W') : OwQ W' B A n c Xs := h.keep fun g _ hl => hb.block g hl
theorem OwQ.alloc (h : OwQ W B A n c Xs) (o : Obj) : OwQ (W.alloc o) B A n c Xs := h.keep fun g _ hl => Below.heap_alloc W o g hl
theorem OwQ.above {g : Nat} (h : OwQ W B A n c Xs) (hg : W.grownBy W' (some g)) (hlt : g < B) : OwQ W' B A n c Xs := h.keep fun i hB hl => hg.block i hl (fun e => by injection e with e; omega)
theorem OwQ.base (h : OwQ W B A n c Xs) (hB : B' ≤ B) : OwQ W B' A n c Xs := by
  obtain ⟨vs, h1, h2, h3⟩ := h
  refine ⟨vs, ⟨h1.1, ?_⟩, h2, fun j v x hv hx => ?_⟩
  · rcases h1.2 with h | ⟨g, cap, cur, q1, q2, rest⟩
    · exact .inl h
    · exact .inr ⟨g, cap, cur, q1, Nat.le_trans hB q2, rest⟩
  · obtain ⟨Aj, cj, q1, q2, q3⟩ := h3 j v x hv hx
    exact ⟨Aj, cj, q1, q2.base hB, q3⟩
theorem OwQ.empty (W : World) (B : Nat) (hB : B ≤ W.heap.size) : OwQ (W.alloc (.cells #[] 24)) B (some ⟨W.heap.size, 0, none⟩) 0 0 [] :=
  ⟨[], World.ownsRow_made _ _ _ hB (Nat.zero_le _) rfl, rfl, fun j v x hv _ => by simp at hv⟩
theorem OwQ.fromB {g : Nat} (h : OwQ W B (some ⟨g, 0, none⟩) n c Xs) : B ≤ g ∧ g < W.heap.size := by
  obtain ⟨vs, h1, _⟩ := h
  exact h1.lt g rfl
theorem OwQ.cap (h : OwQ W B A n c Xs) : n ≤ c ∧ c ≤ maxLen := by
  obtain ⟨vs, h1, _⟩ := h
  rcases h1.2 with ⟨e, rfl⟩ | ⟨g, cap, cur, e, _, _, h4, h5, _⟩
  · injection e with _ _ e3; subst e3; exact ⟨Nat.le_refl _, by unfold maxLen; omega⟩
  · injection e with _ _ e3; subst e3; exact ⟨h4, h5⟩
theorem OwQ.at_ {g : Nat} (h : OwQ W B (some ⟨g, 0, none⟩) n c Xs) : ∀ j (hj : j < Xs.length), (∃ Aj cj, W.cell? ⟨g, j, none⟩ = some (.slice Aj Xs[j].length cj) ∧ OwA W B Aj Xs[j].length cj Xs[j]) ∧ W.frozen? ⟨g, j, none⟩ = false := by
  intro j hj
  obtain ⟨vs, h1, h2, h3⟩ := h
  have hl := h1.1
  rcases h1.2 with ⟨e, _⟩ | ⟨g', cap, cur, e, _, hg, _, _, _, h7⟩
  · cases e
  · injection e with e1 _ e3
    injection e1 with e1; injection e1 with e1
    subst e1
    have hjv : j < vs.length := by omega
    obtain ⟨Aj, cj, q1, q2, _⟩ := h3 j vs[j] Xs[j] (List.getElem?_eq_getElem hjv) (List.getElem?_eq_getElem hj)
    refine ⟨⟨Aj, cj, ?_, q2⟩, by simp [World.frozen?, hg]⟩
    rw [cell_of_row W g j cur 24 (0, 0) hg, ← q1]
    have e2 : (cur.toList.take (n * 1))[j]? = vs[j]? := by rw [h7]
    rw [List.getElem?_take, if_pos (by omega), List.getElem?_eq_getElem hjv] at e2
    rw [← Array.getElem?_toList, e2]
theorem OwQ.rd (h : OwQ W B A n c Xs) : RdR W W.heap.size A n Xs := by
  refine ⟨h.len, fun hn => ?_⟩
  obtain ⟨vs, h1, h2, h3⟩ := id h
  rcases h1.2 with ⟨_, e⟩ | ⟨g, cap, cur, e, _, hg, _⟩
  · omega
  · injection e with e1 _ e3
    subst e1
    refine ⟨g, 0, rfl, (Array.getElem?_eq_some_iff.1 hg).1, fun j hj => ?_⟩
    obtain ⟨⟨Aj, cj, q1, q2⟩, _⟩ := h.at_ j hj
    rw [Nat.zero_add]
    exact ⟨Aj, cj, q1, q2.rd, q2.cap.1, q2.cap.2⟩
/-- another row in a row's place -/
theorem OwQ.set_ {g : Nat} (h : OwQ W B (some ⟨g, 0, none⟩) n c Xs) (k : Nat) (x : Rw) (Aj : Option Addr) (cj : Nat) (ho : OwA W B Aj x.length cj x) (hne : ∀ g', Aj = some ⟨g', 0, none⟩ → g' ≠ g) :
    OwQ (W.setCell ⟨g, k, none⟩ (.slice Aj x.length cj)) B (some ⟨g, 0, none⟩) n c (Xs.set k x) := by
  obtain ⟨vs, h1, h2, h3⟩ := h
  have hkeep : ∀ i, i ≠ g → (W.setCell ⟨g, k, none⟩ (.slice Aj x.length cj)).heap[i]? = W.heap[i]? := fun i hi => Below.heap_setCell _ _ _ _ hi
  refine ⟨vs.set k (.slice Aj x.length cj), ?_, by simpa using h2, fun j v y hv hy => ?_⟩
  · rcases h1.2 with ⟨e, _⟩ | ⟨g', cap, cur, e, hB, hg, h4, h5, h6, h7⟩
    · cases e
    · injection e with e1 _ e3
      injection e1 with e1; injection e1 with e1
      subst e1 e3
      refine ⟨by simpa using h1.1, .inr ⟨g, c, cur.setIfInBounds k (.slice Aj x.length cj), rfl, hB, ?_, h4, h5, by simpa using h6, ?_⟩⟩
      · simp [World.setCell, Array.getElem?_modify, hg]
      · rw [Array.toList_setIfInBounds]
        have h8 : (cur.toList.set k (Value.slice Aj x.length cj)).take (n * 1) = (cur.toList.take (n * 1)).set k (.slice Aj x.length cj) := by rw [List.take_set]
        rw [h8, h7]
  · rw [List.getElem?_set] at hv hy
    by_cases e : k = j
    · rw [if_pos e] at hv hy
      split at hv
      · split at hy
        · injection hv with hv; injection hy with hy
          subst hv hy
          exact ⟨Aj, cj, rfl, ho.keep fun i hi _ => hkeep i (hne i hi), fun g' hg' e => by injection e with e; injection e with e; exact hne g' hg' e.symm⟩
        · cases hy
      · cases hv
    · rw [if_neg e] at hv hy
      exact (h3 j v y hv hy).keep fun i _ _ hi => hkeep i (fun e => hi (by rw [e]))
end
theorem rw_info' : (Try.prog.info? 24).map (fun i => (i.zero, i.size, i.bytes)) = some (some (.slice none 0 0), 1, 24) := by kernel_rfl
/-- append of one row, whose slice lies in a box at b: how it runs -/
theorem run_appQ {W : World} {B n c b : Nat} {A : Option Addr} {Xs : List Rw} (T2 : TypeId) (h : OwQ W B A n c Xs) (x : Rw) (Aj : Option Addr) (cj c2 : Nat) (ho : OwA W B Aj x.length cj x) (hne : ∀ g, Aj = some ⟨g, 0, none⟩ → A ≠ some ⟨g, 0, none⟩)
    (hc : W.cell? ⟨b, 0, none⟩ = some (.slice Aj x.length cj)) (hn : n ≤ 4194303) (hB : B ≤ W.heap.size) :
    ∃ g' c' w', (Builtin.append_ #[22, 22] T2 #[.slice A n c, .slice (some ⟨b, 0, none⟩) 1 c2]).run Try.prog W = .ok (.slice (some ⟨g', 0, none⟩) (n + 1) c') w' ∧ OwQ w' B (some ⟨g', 0, none⟩) (n + 1) c' (Xs ++ [x]) ∧ Below B W w' := by
  obtain ⟨vs, h1, h2, h3⟩ := h
  obtain ⟨i, hi, hz, hs1, hb1⟩ := info_parts rw_info'
  obtain ⟨v', w', hr, hown', hgrow, hnil, hat⟩ := run_append_own_at (P := Try.prog) W B 22 T2 24 i _ 1 24 Try.underlying22 hi hz hs1 hb1 rfl (by decide) _ n vs h1 ⟨b, 0, none⟩ 1 c2 [.slice Aj x.length cj] rfl
    (fun j u hj => by
      rw [addr_add]
      match j with
      | 0 => simp at hj; subst hj; exact hc
      | j + 1 => simp at hj)
    (fun u hu => by rw [List.mem_singleton.1 hu]; rfl) (by unfold maxLen; omega) (by omega) hB
  have hrow : ∀ k, Value.ownBlock (.slice A n c) = some k → B ≤ k := fun k hk => (h1.lt k hk).1
  have hbl := (Below.refl B W).grown hgrow hB hrow
  rcases hown'.2 with ⟨_, e⟩ | ⟨g', c', cur, e, _⟩
  · omega
  · subst e
    refine ⟨g', c', w', hr, ⟨vs ++ [.slice Aj x.length cj], hown', by simp [h2], fun j v y hv hy => ?_⟩, hbl⟩
    have hgA : ∀ {v : Value} {y : Rw}, RowV W B A v y → RowV w' B (some ⟨g', 0, none⟩) v y := fun ⟨Ak, ck, q1, q2, q3⟩ => by
      refine ⟨Ak, ck, q1, q2.keep fun i hi hl => hgrow.block i hl (fun e => ?_), fun i hi e => ?_⟩
      · cases A with
        | none => simp [Value.ownBlock] at e
        | some a =>
          rcases h1.2 with ⟨e2, _⟩ | ⟨g2, _, _, e2, _⟩
          · cases e2
          · injection e2 with e2 _ _
            rw [e2] at e q3
            simp [Value.ownBlock] at e
            exact q3 i hi (by rw [e])
      · injection e with e; injection e with e
        subst e
        have hlt := q2.lt hi
        rcases hat with h | h
        · cases A with
          | none => simp [Value.ownBlock] at h
          | some a =>
            rcases h1.2 with ⟨e2, _⟩ | ⟨g2, _, _, e2, _⟩
            · cases e2
            · injection e2 with e2 _ _
              rw [e2] at h q3
              simp [Value.ownBlock] at h
              exact q3 g' hi (by rw [h])
        · simp [Value.ownBlock] at h; omega
    have hl := h1.1
    by_cases hj : j < n
    · rw [List.getElem?_append_left (by omega)] at hv hy
      exact hgA (h3 j v y hv hy)
    · have hjn : j = n := by
        have := (List.getElem?_eq_some_iff.1 hy).1
        simp at this; omega
      subst hjn
      rw [List.getElem?_append_right (by omega)] at hv hy
      have e1 : j - vs.length = 0 := by omega
      have e2 : j - Xs.length = 0 := by omega
      rw [e1] at hv; rw [e2] at hy
      simp at hv hy
      subst hv hy
      exact hgA ⟨Aj, cj, rfl, ho, hne⟩
end Go.Proofs.Ytnolnlhoedafcaa
