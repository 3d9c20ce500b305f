/- A slice of piles that the call owns; append of piles onto it. -/
import Derived.Test.YtlfgmljgoolbeaaPiWalk
import Derived.Test.YtlfgmljgoolbeaaBaText
namespace Go.Proofs.Ytlfgmljgoolbeaa
open Go.RowKit

/-- the cells of piles -/
def pcells : List Pil.Pl → List Value
  | [] => []
  | p :: ps => .string p.1 :: .int .i64 p.2 :: pcells ps
theorem pcells_len : ∀ ps : List Pil.Pl, (pcells ps).length = ps.length * 2
  | [] => rfl
  | p :: ps => by simp [pcells, pcells_len ps]; omega
theorem pcells_append : ∀ ps qs : List Pil.Pl, pcells (ps ++ qs) = pcells ps ++ pcells qs
  | [], _ => rfl
  | p :: ps, qs => by simp [pcells, pcells_append ps qs]
theorem pcells_at : ∀ (ps : List Pil.Pl) (j : Nat) (h : j < ps.length), (pcells ps)[j * 2]? = some (.string ps[j].1) ∧ (pcells ps)[j * 2 + 1]? = some (.int .i64 ps[j].2)
  | [], _, h => by simp at h
  | p :: ps, 0, _ => by simp [pcells]
  | p :: ps, j + 1, h => by
    have := pcells_at ps j (by simpa using h)
    have e1 : (j + 1) * 2 = j * 2 + 1 + 1 := by omega
    rw [e1]
    simpa [pcells] using this
theorem pcells_set : ∀ (ps : List Pil.Pl) (j : Nat) (s : ByteArray) (m : Int), j < ps.length → ((pcells ps).set (j * 2) (.string s)).set (j * 2 + 1) (.int .i64 m) = pcells (ps.set j (s, m))
  | [], _, _, _, h => by simp at h
  | p :: ps, 0, _, _, _ => by simp [pcells]
  | p :: ps, j + 1, s, m, h => by
    have := pcells_set ps j s m (by simpa using h)
    have e1 : (j + 1) * 2 = j * 2 + 1 + 1 := by omega
    rw [e1]
    simp [pcells, this]
theorem pcells_take : ∀ (ps : List Pil.Pl) (k : Nat), (pcells ps).take (k * 2) = pcells (ps.take k)
  | [], k => by simp [pcells]
  | p :: ps, 0 => by simp [pcells]
  | p :: ps, k + 1 => by
    have e1 : (k + 1) * 2 = k * 2 + 1 + 1 := by omega
    rw [e1]
    simp [pcells, pcells_take ps k]
theorem pcells_one (ps : List Pil.Pl) : ∀ u ∈ pcells ps, u.oneCell' = true := by
  induction ps with
  | nil => intro u hu; cases hu
  | cons p ps ih =>
    intro u hu
    simp only [pcells, List.mem_cons] at hu
    rcases hu with rfl | rfl | hu
    · rfl
    · rfl
    · exact ih u hu
theorem pcells_inv {ps : List Pil.Pl} {i : Nat} {u : Value} (h : (pcells ps)[i]? = some u) : ∃ j, ∃ hj : j < ps.length, (i = j * 2 ∧ u = .string ps[j].1) ∨ (i = j * 2 + 1 ∧ u = .int .i64 ps[j].2) := by
  have hi : i < (pcells ps).length := by
    rcases Nat.lt_or_ge i (pcells ps).length with h' | h'
    · exact h'
    · rw [List.getElem?_eq_none h'] at h; cases h
  rw [pcells_len] at hi
  have hj : i / 2 < ps.length := by omega
  obtain ⟨h1, h2⟩ := pcells_at ps (i / 2) hj
  refine ⟨i / 2, hj, ?_⟩
  rcases Nat.mod_two_eq_zero_or_one i with e | e
  · have e2 : i / 2 * 2 = i := by omega
    rw [e2, h] at h1
    exact .inl ⟨e2.symm, by injection h1⟩
  · have e2 : i / 2 * 2 + 1 = i := by omega
    rw [e2, h] at h2
    exact .inr ⟨e2.symm, by injection h2⟩

/-- the slice at A, of n piles and capacity c, owns the piles ps, in a block from B on (or it is nil and they are none) -/
def OwP (W : World) (B : Nat) (A : Option Addr) (n c : Nat) (ps : List Pil.Pl) : Prop := W.ownsRow B 44 2 (.slice A n c) n (pcells ps)

section
variable {W W' : World} {B B' n c : Nat} {A : Option Addr} {ps : List Pil.Pl}
theorem OwP.nil (W : World) (B : Nat) : OwP W B none 0 0 [] := World.ownsRow_nil _ _ _ _
theorem OwP.len (h : OwP W B A n c ps) : ps.length = n := by have := h.1; rw [pcells_len] at this; omega
theorem OwP.parts (h : OwP W B A n c ps) : (A = none ∧ n = 0 ∧ c = 0) ∨ ∃ g cur, A = some ⟨g, 0, none⟩ ∧ B ≤ g ∧ W.heap[g]? = some (.cells cur 44 (0, 0)) ∧ n ≤ c ∧ c ≤ maxLen ∧ cur.size = c * 2 ∧ cur.toList.take (n * 2) = pcells ps := by
  rcases h.2 with ⟨h1, _⟩ | ⟨g, cap, cur, h1, h2, h3, h4, h5, h6, h7⟩
  · injection h1 with e1 e2 e3
    exact .inl ⟨e1, e2, e3⟩
  · injection h1 with e1 e2 e3
    subst e3
    exact .inr ⟨g, cur, e1, h2, h3, h4, h5, h6, h7⟩
theorem OwP.cap (h : OwP W B A n c ps) : n ≤ c ∧ c ≤ maxLen := by
  rcases h.parts with ⟨_, rfl, rfl⟩ | ⟨g, cur, _, _, _, h4, h5, _⟩
  · exact ⟨Nat.le_refl _, by unfold maxLen; omega⟩
  · exact ⟨h4, h5⟩
theorem OwP.at_ (h : OwP W B A n c ps) (hn : 0 < n) : ∃ g, A = some ⟨g, 0, none⟩ ∧ B ≤ g ∧ g < W.heap.size ∧ ∀ k (hk : k < ps.length), W.cell? ⟨g, k * 2, none⟩ = some (.string ps[k].1) ∧ W.cell? ⟨g, k * 2 + 1, none⟩ = some (.int .i64 ps[k].2) ∧ W.frozen? ⟨g, k * 2, none⟩ = false ∧ W.frozen? ⟨g, k * 2 + 1, none⟩ = false := by
  rcases h.parts with ⟨_, rfl, _⟩ | ⟨g, cur, rfl, h2, h3, h4, h5, h6, h7⟩
  · omega
  · refine ⟨g, rfl, h2, (Array.getElem?_eq_some_iff.1 h3).1, fun k hk => ?_⟩
    obtain ⟨e1, e2⟩ := pcells_at ps k hk
    have hl := h.len
    rw [← h7, List.getElem?_take, if_pos (by omega)] at e1 e2
    refine ⟨?_, ?_, by simp [World.frozen?, h3], by simp [World.frozen?, h3]⟩
    · rw [cell_of_row W g _ cur 44 (0, 0) h3, ← Array.getElem?_toList]; exact e1
    · rw [cell_of_row W g _ cur 44 (0, 0) h3, ← Array.getElem?_toList]; exact e2
theorem OwP.rd (h : OwP W B A n c ps) : RdP W W.heap.size A n ps :=
  ⟨h.len, fun hn => by
    obtain ⟨g, e, _, hl, hc⟩ := h.at_ hn
    refine ⟨g, 0, e, hl, fun j hj => ?_⟩
    rw [Nat.zero_add]
    exact ⟨(hc j hj).1, (hc j hj).2.1⟩⟩
theorem OwP.keep (h : OwP W B A n c ps) (hk : ∀ g, A = some ⟨g, 0, none⟩ → g < W.heap.size → W'.heap[g]? = W.heap[g]?) : OwP W' B A n c ps := by
  refine ⟨h.1, ?_⟩
  rcases h.2 with h1 | ⟨g, cap, cur, h1, h2, h3, rest⟩
  · exact .inl h1
  · refine .inr ⟨g, cap, cur, h1, h2, ?_, rest⟩
    injection h1 with e1 _ _
    rw [hk g e1 (Array.getElem?_eq_some_iff.1 h3).1]
    exact h3
theorem OwP.below (h : OwP W B A n c ps) (hb : Below W.heap.size W W') : OwP W' B A n c ps := h.keep fun g _ hg => hb.block g hg
theorem OwP.drewN (h : OwP W B A n c ps) (q : Nat) : OwP (W.drewN q) B A n c ps := h
theorem OwP.alloc (h : OwP W B A n c ps) (o : Obj) : OwP (W.alloc o) B A n c ps := h.keep fun g _ hg => Below.heap_alloc W o g hg
theorem OwP.drew (h : OwP W B A n c ps) : OwP W.drew B A n c ps := h
theorem OwP.lt (h : OwP W B A n c ps) {g : Nat} (hg : A = some ⟨g, 0, none⟩) : g < W.heap.size := by
  rcases h.parts with ⟨h1, _⟩ | ⟨g', cur, h1, _, h3, _⟩
  · rw [h1] at hg; cases hg
  · have e : g' = g := by rw [h1] at hg; injection hg with e; injection e
    subst e
    exact (Array.getElem?_eq_some_iff.1 h3).1
theorem OwP.base (h : OwP W B A n c ps) (hB : B' ≤ B) : OwP W B' A n c ps := by
  refine ⟨h.1, ?_⟩
  rcases h.2 with h1 | ⟨g, cap, cur, h1, h2, rest⟩
  · exact .inl h1
  · exact .inr ⟨g, cap, cur, h1, Nat.le_trans hB h2, rest⟩
theorem OwP.above {g : Nat} (h : OwP W B A n c ps) (hg : W.grownBy W' (some g)) (hlt : g < B) : OwP W' B A n c ps := by
  refine ⟨h.1, ?_⟩
  rcases h.2 with h1 | ⟨g', cap, cur, h1, h2, h3, rest⟩
  · exact .inl h1
  · refine .inr ⟨g', cap, cur, h1, h2, ?_, rest⟩
    rw [hg.block g' (Array.getElem?_eq_some_iff.1 h3).1 (fun e => by injection e with e; omega)]
    exact h3
theorem OwP.belowB (h : OwP W B A n c ps) (hB : B ≤ W.heap.size) (hg : W.grownBy W' (Value.ownBlock (.slice A n c))) : Below B W W' := by
  refine (Below.refl _ _).grown hg hB ?_
  intro k hk
  rcases h.parts with ⟨rfl, _, _⟩ | ⟨g', cur, rfl, h2, _⟩
  · simp [Value.ownBlock] at hk
  · simp [Value.ownBlock] at hk; omega
theorem OwP.set_ {g : Nat} (h : OwP W B (some ⟨g, 0, none⟩) n c ps) (k : Nat) (hk : k < ps.length) (s : ByteArray) (m : Int) : OwP ((W.setCell ⟨g, k * 2, none⟩ (.string s)).setCell ⟨g, k * 2 + 1, none⟩ (.int .i64 m)) B (some ⟨g, 0, none⟩) n c (ps.set k (s, m)) := by
  rcases h.parts with ⟨h1, _⟩ | ⟨g', cur, h1, h2, h3, h4, h5, h6, h7⟩
  · cases h1
  · have e : g' = g := by injection h1 with e; injection e with e1; exact e1.symm
    subst e
    have hl := h.len
    refine ⟨by rw [pcells_len, List.length_set]; omega, .inr ⟨g', c, (cur.setIfInBounds (k * 2) (.string s)).setIfInBounds (k * 2 + 1) (.int .i64 m), rfl, h2, ?_, h4, h5, by simpa using h6, ?_⟩⟩
    · simp [World.setCell, Array.getElem?_modify, h3]
    · rw [Array.toList_setIfInBounds, Array.toList_setIfInBounds, List.take_set, List.take_set, h7, pcells_set _ _ _ _ hk]
theorem OwP.setM {g : Nat} (h : OwP W B (some ⟨g, 0, none⟩) n c ps) (k : Nat) (hk : k < ps.length) (m : Int) : OwP (W.setCell ⟨g, k * 2 + 1, none⟩ (.int .i64 m)) B (some ⟨g, 0, none⟩) n c (ps.set k (ps[k].1, m)) := by
  rcases h.parts with ⟨h1, _⟩ | ⟨g', cur, h1, h2, h3, h4, h5, h6, h7⟩
  · cases h1
  · have e : g' = g := by injection h1 with e; injection e with e1; exact e1.symm
    subst e
    have hl := h.len
    refine ⟨by rw [pcells_len, List.length_set]; omega, .inr ⟨g', c, cur.setIfInBounds (k * 2 + 1) (.int .i64 m), rfl, h2, ?_, h4, h5, by simpa using h6, ?_⟩⟩
    · simp [World.setCell, Array.getElem?_modify, h3]
    · have e1 : (pcells ps).set (k * 2) (.string ps[k].1) = pcells ps := by
        obtain ⟨a, -⟩ := pcells_at ps k hk
        apply List.ext_getElem?
        intro i
        rw [List.getElem?_set]
        by_cases hi : k * 2 = i
        · subst hi; rw [if_pos rfl, if_pos (by rw [pcells_len]; omega), a]
        · rw [if_neg hi]
      rw [Array.toList_setIfInBounds, List.take_set, h7, ← pcells_set _ _ _ _ hk, e1]
theorem OwP.setS {g : Nat} (h : OwP W B (some ⟨g, 0, none⟩) n c ps) (k : Nat) (hk : k < ps.length) (s : ByteArray) : OwP (W.setCell ⟨g, k * 2, none⟩ (.string s)) B (some ⟨g, 0, none⟩) n c (ps.set k (s, ps[k].2)) := by
  rcases h.parts with ⟨h1, _⟩ | ⟨g', cur, h1, h2, h3, h4, h5, h6, h7⟩
  · cases h1
  · have e : g' = g := by injection h1 with e; injection e with e1; exact e1.symm
    subst e
    have hl := h.len
    refine ⟨by rw [pcells_len, List.length_set]; omega, .inr ⟨g', c, cur.setIfInBounds (k * 2) (.string s), rfl, h2, ?_, h4, h5, by simpa using h6, ?_⟩⟩
    · simp [World.setCell, Array.getElem?_modify, h3]
    · have e1 : ((pcells ps).set (k * 2) (.string s)).set (k * 2 + 1) (.int .i64 ps[k].2) = (pcells ps).set (k * 2) (.string s) := by
        obtain ⟨-, a⟩ := pcells_at ps k hk
        apply List.ext_getElem?
        intro i
        rw [List.getElem?_set]
        by_cases hi : k * 2 + 1 = i
        · subst hi; rw [if_pos rfl, if_pos (by rw [List.length_set, pcells_len]; omega), List.getElem?_set, if_neg (by omega), a]
        · rw [if_neg hi]
      rw [Array.toList_setIfInBounds, List.take_set, h7, ← pcells_set _ _ _ _ hk, e1]
end

theorem pile_info : (Try.prog.info? 44).map (fun i => (i.zero, i.size, i.bytes)) = some (some (.agg #[.string ByteArray.empty, .int .i64 0]), 2, 24) := by kernel_rfl
def zpile : Pil.Pl := (ByteArray.empty, 0)
theorem run_make_piles (n : Nat) (hn : n ≤ 4194304) (w : World) :
    (Instr.makeSlice 23 (.int .i64 (n : Int)) (.int .i64 (n : Int))).run Try.prog w = .ok (.slice (some ⟨w.heap.size, 0, none⟩) n n) (w.alloc (.cells (madeCells #[.string ByteArray.empty, .int .i64 0] (n * 2)) 44)) := by
  obtain ⟨i, hi, hz, hs, hb⟩ := info_parts pile_info
  have h := run_make (P := Try.prog) w 23 44 i _ Try.underlying23 hi hz .i64 .i64 (n : Int) (n : Int) (by omega) (by omega) (by rw [hb]; omega) (by omega)
  rw [hs] at h
  simpa [Value.cells] using h
theorem zcells : ∀ (n i : Nat), (pcells (List.replicate n zpile))[i]? = if i < n * 2 then some (#[Value.string ByteArray.empty, .int .i64 0][i % 2]!) else none
  | 0, i => by simp [pcells]
  | n + 1, 0 => by simp [List.replicate_succ, pcells, zpile]
  | n + 1, 1 => by simp [List.replicate_succ, pcells, zpile]; omega
  | n + 1, i + 2 => by
    have ih := zcells n i
    rw [List.replicate_succ]
    simp only [pcells, List.getElem?_cons_succ]
    rw [ih]
    have e : (i + 2) % 2 = i % 2 := by omega
    rw [e]
    by_cases h : i < n * 2
    · rw [if_pos h, if_pos (by omega)]
    · rw [if_neg h, if_neg (by omega)]
theorem madeP (w : World) (n : Nat) (hn : n ≤ 4194304) : OwP (w.alloc (.cells (madeCells #[.string ByteArray.empty, .int .i64 0] (n * 2)) 44)) w.heap.size (some ⟨w.heap.size, 0, none⟩) n n (List.replicate n zpile) := by
  refine ⟨by rw [pcells_len]; simp, .inr ⟨w.heap.size, n, _, rfl, Nat.le_refl _, heap_alloc_new w _, Nat.le_refl _, by unfold maxLen; omega, by simp [size_madeCells], ?_⟩⟩
  apply List.ext_getElem?
  intro i
  rw [zcells, List.getElem?_take]
  by_cases h : i < n * 2
  · rw [if_pos h, if_pos h]
    simp [madeCells, h]
  · rw [if_neg h, if_neg h]

/-- append of piles that lie at a2: how it runs -/
theorem run_appP {W : World} {B n c : Nat} {A : Option Addr} {ps qs : List Pil.Pl} (T2 : TypeId) (hown : OwP W B A n c ps) (a2 : Addr) (m c2 : Nat) (hlen : qs.length = m) (hsrc : ∀ i u, (pcells qs)[i]? = some u → W.cell? (a2.add i) = some u)
    (N : Nat) (hN : n + m = N) (hnm : N ≤ 4194304) (hB : B ≤ W.heap.size) :
    ∃ A' c' w', (Builtin.append_ #[23, 23] T2 #[.slice A n c, .slice (some a2) m c2]).run Try.prog W = .ok (.slice A' N c') w' ∧ OwP w' B A' N c' (ps ++ qs) ∧ Below B W w' ∧
      W.grownBy w' (Value.ownBlock (.slice A n c)) ∧ (∀ g', A' = some ⟨g', 0, none⟩ → Value.ownBlock (.slice A n c) = some g' ∨ W.heap.size ≤ g') ∧ (A ≠ none → ∃ g', A' = some ⟨g', 0, none⟩) := by
  subst hN
  obtain ⟨i, hi, hz, hs1, hb1⟩ := info_parts pile_info
  obtain ⟨v', w', hr, hown', hgrow, hnil, hat⟩ := run_append_own_at (P := Try.prog) W B 23 T2 44 i _ 2 24 Try.underlying23 hi hz hs1 hb1 rfl (by decide) _ n (pcells ps) hown a2 m c2 (pcells qs) (by rw [pcells_len, hlen]) hsrc (pcells_one qs) (by unfold maxLen; omega) (by omega) hB
  have hrow : ∀ k, Value.ownBlock (.slice A n c) = some k → B ≤ k := by
    intro k hk
    rcases hown.parts with ⟨rfl, _, _⟩ | ⟨g', cur, rfl, h2, _⟩
    · simp [Value.ownBlock] at hk
    · simp [Value.ownBlock] at hk; omega
  obtain ⟨A', c', rfl⟩ : ∃ A' c', v' = .slice A' (n + m) c' := by
    rcases hown'.2 with ⟨h1, h2⟩ | ⟨g, cap, cur, h1, _⟩
    · exact ⟨none, 0, by rw [h1, h2]⟩
    · exact ⟨_, _, h1⟩
  refine ⟨A', c', w', hr, by unfold OwP; rw [pcells_append]; exact hown', (Below.refl _ _).grown hgrow hB hrow, hgrow, fun g' hg => ?_, fun hA => ?_⟩
  · subst hg
    rcases hat with h | h
    · left; rw [← h]; rfl
    · right; simp [Value.ownBlock] at h; omega
  · rcases hown'.2 with ⟨h1, _⟩ | ⟨g, cap, cur, h1, _⟩
    · have h2 := (hnil.1 h1).1
      injection h2 with h3
      exact absurd h3 hA
    · injection h1 with h2
      exact ⟨g, h2⟩
theorem srcP {W : World} {B : Nat} {b off n : Nat} {ps : List Pil.Pl} (h : RdP W B (some ⟨b, off, none⟩) n ps) (i k : Nat) (hk : i + k ≤ ps.length) : ∀ j u, (pcells ((ps.drop i).take k))[j]? = some u → W.cell? ((⟨b, off + i * 2, none⟩ : Addr).add j) = some u := by
  intro j u hj
  obtain ⟨x, hx, h1⟩ := pcells_inv hj
  have hx2 : x < k ∧ i + x < ps.length := by simp at hx; omega
  obtain ⟨b', off', e, _, hc⟩ := h.2 (by have := h.1; omega)
  injection e with e; injection e with e1 e2; subst e1; subst e2
  obtain ⟨c1, c2⟩ := hc (i + x) hx2.2
  have hg : ((ps.drop i).take k)[x] = ps[i + x] := by rw [List.getElem_take, List.getElem_drop]
  rw [addr_add]
  rcases h1 with ⟨rfl, rfl⟩ | ⟨rfl, rfl⟩
  · rw [hg, show off + i * 2 + x * 2 = off + (i + x) * 2 by omega]; exact c1
  · rw [hg, show off + i * 2 + (x * 2 + 1) = off + (i + x) * 2 + 1 by omega]; exact c2

/-- the same, as one step of a region that draws, and at the list of a plain region -/
theorem step_appP {ops : Array Oper} {o : Oper} {a : Act} {K : Act → World → Prop} {Q : Exit → Act → World → Prop} {E : Prop} {W : World} (hgd : o.guard = none) (s x : Operand)
    (ho : o.op = .call { callee := .builtin .append, args := #[s, x], argTypes := #[23, 23] })
    {B n c : Nat} {A : Option Addr} {ps qs : List Pil.Pl} (hs : a.eval s = .slice A n c) (a2 : Addr) (m c2 : Nat) (hx : a.eval x = .slice (some a2) m c2) (hown : OwP W B A n c ps) (hlen : qs.length = m) (hsrc : ∀ i u, (pcells qs)[i]? = some u → W.cell? (a2.add i) = some u)
    (N : Nat) (hN : n + m = N) (hnm : N ≤ 4194304) (hB : B ≤ W.heap.size)
    (h : ∀ A' c' w', OwP w' B A' N c' (ps ++ qs) → Below B W w' → W.grownBy w' (Value.ownBlock (.slice A n c)) → (∀ g', A' = some ⟨g', 0, none⟩ → Value.ownBlock (.slice A n c) = some g' ∨ W.heap.size ≤ g') → (A ≠ none → ∃ g', A' = some ⟨g', 0, none⟩) → K (a.put o.dst (.slice A' N c')) w') :
    if Region.wanted o (yielded ops a.tmps) = true then Oper.wp Try.prog o a W K Q else E := by
  have hw : Region.wanted o (yielded ops a.tmps) = true := by simp [Region.wanted, hgd]
  rw [if_pos hw]
  obtain ⟨A', c', w', hr, h1, h2, h3, h4, h5⟩ := run_appP o.type hown a2 m c2 hlen hsrc N hN hnm hB
  unfold Oper.wp execOp
  simp only [ho, resolve, invoke, builtin, Sem.run_bind, Sem.run_pure, Result.andThen_ok, List.map_toArray, List.map_cons, List.map_nil, hs, hx, hr]
  exact h A' c' w' h1 h2 h3 h4 h5
theorem wpList_appP {ops : Array Oper} {rest : List Oper} {o : Oper} {a : Act} {Q : Exit → Act → World → Prop} {W : World} (hgd : o.guard = none) (s x : Operand)
    (ho : o.op = .call { callee := .builtin .append, args := #[s, x], argTypes := #[23, 23] })
    {B n c : Nat} {A : Option Addr} {ps qs : List Pil.Pl} (hs : a.eval s = .slice A n c) (a2 : Addr) (m c2 : Nat) (hx : a.eval x = .slice (some a2) m c2) (hown : OwP W B A n c ps) (hlen : qs.length = m) (hsrc : ∀ i u, (pcells qs)[i]? = some u → W.cell? (a2.add i) = some u)
    (N : Nat) (hN : n + m = N) (hnm : N ≤ 4194304) (hB : B ≤ W.heap.size)
    (h : ∀ A' c' w', OwP w' B A' N c' (ps ++ qs) → Below B W w' → W.grownBy w' (Value.ownBlock (.slice A n c)) → (∀ g', A' = some ⟨g', 0, none⟩ → Value.ownBlock (.slice A n c) = some g' ∨ W.heap.size ≤ g') → (A ≠ none → ∃ g', A' = some ⟨g', 0, none⟩) → wpList Try.prog ops Q rest (a.put o.dst (.slice A' N c')) w') :
    wpList Try.prog ops Q (o :: rest) a W :=
  wpList_plain hgd fun _ hK => by
    obtain ⟨A', c', w', hr, h1, h2, h3, h4, h5⟩ := run_appP o.type hown a2 m c2 hlen hsrc N hN hnm hB
    unfold Oper.wp execOp
    simp only [ho, resolve, invoke, builtin, Sem.run_bind, Sem.run_pure, Result.andThen_ok, List.map_toArray, List.map_cons, List.map_nil, hs, hx, hr]
    exact hK _ _ (h A' c' w' h1 h2 h3 h4 h5)

/-- a list of piles in new memory, and whether it is one -/
def ResP (W : World) (ps : List Pil.Pl) (ok : Bool) (e : Ending) (w' : World) : Prop :=
  ∃ A n c, e = .returned (.tuple #[.slice A n c, .bool ok]) ∧ OwP w' W.heap.size A n c ps ∧ Below W.heap.size W w'
theorem OwP.empty (W : World) (B : Nat) (hB : B ≤ W.heap.size) : OwP (W.alloc (.cells #[] 44)) B (some ⟨W.heap.size, 0, none⟩) 0 0 [] :=
  World.ownsRow_made _ _ _ hB (Nat.zero_le _) rfl
end Go.Proofs.Ytlfgmljgoolbeaa
