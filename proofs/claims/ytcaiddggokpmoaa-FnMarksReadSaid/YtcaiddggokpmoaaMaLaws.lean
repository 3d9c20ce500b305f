/- Plain facts for the laws on marks. No program stands here. -/
import Derived.Test.YtcaiddggokpmoaaMaPlain
namespace Go.Proofs.Ytcaiddggokpmoaa.Ma
open Go.Proofs.Ytcaiddggokpmoaa.Bal

/-! shifted marks -/
def sh (y : Int) : Int := if 0 < y then y + 1 else y
theorem withF_sh {r : Int} (hr : 0 < r) : ∀ (xs : List Int) (i : Nat), withF (xs.map sh) (r + 1) i = withF xs r i
  | [], _ => rfl
  | z :: xs, i => by
    have ih := withF_sh hr xs (i + 1)
    have e : (sh z = r + 1) ↔ (z = r) := by unfold sh; split <;> omega
    simp only [List.map_cons, withF, e, ih]
theorem withF_sh_one : ∀ (xs : List Int) (i : Nat), withF (xs.map sh) 1 i = []
  | [], _ => rfl
  | z :: xs, i => by
    have ih := withF_sh_one xs (i + 1)
    have e : ¬ (sh z = 1) := by unfold sh; split <;> omega
    simp only [List.map_cons, withF, if_neg e, ih]
theorem rd_sh (xs : List Int) : ∀ (f : Nat) (r : Int), 0 < r → rd (xs.map sh) f (r + 1) = rd xs f r
  | 0, _, _ => rfl
  | f + 1, r, h => by simp only [rd, withF_sh h, rd_sh xs f (r + 1) (by omega)]
theorem rd_last (xs : List Int) : ∀ (f : Nat) (r : Int), withF xs (r + f) 0 = [] → rd xs (f + 1) r = rd xs f r
  | 0, r, h => by
    have h' : withF xs r 0 = [] := by simpa using h
    simp [rd, h']
  | f + 1, r, h => by
    have h' : withF xs (r + 1 + f) 0 = [] := by rw [← h]; congr 1; omega
    have ih := rd_last xs f (r + 1) h'
    show (if 1 < (withF xs r 0).length then [] else withF xs r 0 ++ rd xs (f + 1) (r + 1)) = (if 1 < (withF xs r 0).length then [] else withF xs r 0 ++ rd xs f (r + 1))
    rw [ih]
theorem mread_sh {xs : List Int} (h : mv xs = true) (h9 : ∀ x, x ∈ xs → x ≠ 9) : mv (xs.map sh) = true ∧ mread (xs.map sh) = mread xs := by
  have hm := mv_iff.1 h
  have hm2 : mv (xs.map sh) = true := by
    refine mv_iff.2 ⟨?_, by simpa using hm.2⟩
    intro x hx
    obtain ⟨y, hy, rfl⟩ := List.mem_map.1 hx
    have h1 := hm.1 y hy
    have h2 := h9 y hy
    unfold sh; split <;> omega
  refine ⟨hm2, ?_⟩
  rw [mread_t hm2, mread_t h]
  have e9 : withF xs ((1 : Int) + (8 : Nat)) 0 = [] := withF_none _ _ _ (by
    cases hc : xs.contains ((1 : Int) + (8 : Nat)) with
    | false => rfl
    | true => exact absurd rfl (h9 9 (by simpa using hc)))
  have e1 := rd_last xs 8 1 e9
  have e2 : rd (xs.map sh) 9 1 = rd (xs.map sh) 8 (1 + 1) := by
    show (if 1 < (withF (xs.map sh) 1 0).length then [] else withF (xs.map sh) 1 0 ++ rd (xs.map sh) 8 (1 + 1)) = _
    rw [withF_sh_one]; rfl
  rw [e2, rd_sh xs 8 1 (by omega)]
  exact e1.symm

/-! who is read -/
theorem mem_withF (r x : Int) : ∀ (xs : List Int) (i : Nat), x ∈ withF xs r i ↔ ∃ k, k < xs.length ∧ x = ((i + k : Nat) : Int) ∧ xs.getD k 0 = r
  | [], i => by simp [withF]
  | z :: xs, i => by
    have ih := mem_withF r x xs (i + 1)
    simp only [withF]
    constructor
    · intro h
      split at h
      · rename_i hz
        rcases List.mem_cons.1 h with h1 | h1
        · exact ⟨0, by simp, by simpa using h1, by simpa using hz⟩
        · obtain ⟨k, hk, hx, hv⟩ := ih.1 h1
          exact ⟨k + 1, by simp; omega, by rw [hx]; congr 1; omega, by simpa using hv⟩
      · obtain ⟨k, hk, hx, hv⟩ := ih.1 h
        exact ⟨k + 1, by simp; omega, by rw [hx]; congr 1; omega, by simpa using hv⟩
    · rintro ⟨k, hk, hx, hv⟩
      cases k with
      | zero =>
        have hz : z = r := by simpa using hv
        rw [if_pos hz]
        exact List.mem_cons.2 (.inl (by simpa using hx))
      | succ k =>
        have hm : x ∈ withF xs r (i + 1) := ih.2 ⟨k, by simp at hk; omega, by rw [hx]; congr 1; omega, by simpa using hv⟩
        split
        · exact List.mem_cons_of_mem _ hm
        · exact hm
theorem withF_at {xs : List Int} {k : Nat} (hk : k < xs.length) : (k : Int) ∈ withF xs (xs.getD k 0) 0 :=
  (mem_withF _ _ _ _).2 ⟨k, hk, by simp, rfl⟩
theorem one_of {l : List Int} (h : ¬ 1 < l.length) {x y : Int} (hx : x ∈ l) (hy : y ∈ l) : x = y := by
  match l, h with
  | [], _ => simp at hx
  | [a], _ => simp at hx hy; rw [hx, hy]
  | a :: b :: t, h => simp at h
theorem two_of {xs : List Int} {v : Int} (h : 1 < (withF xs v 0).length) : ∃ i j, j < i ∧ i < xs.length ∧ xs.getD i 0 = v ∧ xs.getD j 0 = v := by
  rcases withF_idx v xs 0 with ⟨_, h2⟩ | ⟨k, hk, _, h2⟩
  · rw [h2] at h; simp at h
  · have hm : (((0 + k : Nat) : Nat) : Int) ∈ withF xs v 0 := by rw [h2]; simp
    obtain ⟨k1, hk1, e1, ev⟩ := (mem_withF _ _ _ _).1 hm
    have hkk : k1 = k := by omega
    subst hkk
    rw [h2, List.length_cons] at h
    cases ht : withF (xs.drop (k1 + 1)) v (0 + k1 + 1) with
    | nil => rw [ht] at h; simp at h
    | cons y t =>
      have hy : y ∈ withF (xs.drop (k1 + 1)) v (0 + k1 + 1) := by rw [ht]; simp
      obtain ⟨q, hq, _, hv⟩ := (mem_withF _ _ _ _).1 hy
      rw [List.length_drop] at hq
      refine ⟨k1 + 1 + q, k1, by omega, by omega, ?_, ev⟩
      rw [← hv, List.getD_eq_getElem?_getD, List.getD_eq_getElem?_getD, List.getElem?_drop]
theorem two_in {xs : List Int} {v : Int} {i j : Nat} (hji : j < i) (hi : i < xs.length) (h1 : xs.getD i 0 = v) (h2 : xs.getD j 0 = v) : 1 < (withF xs v 0).length := by
  rcases Nat.lt_or_ge 1 (withF xs v 0).length with h | h
  · exact h
  · have m1 := withF_at (xs := xs) hi
    have m2 := withF_at (xs := xs) (k := j) (by omega)
    rw [h1] at m1
    rw [h2] at m2
    have := one_of (by omega) m1 m2
    omega
theorem mem_rd (xs : List Int) (x : Int) : ∀ (f : Nat) (r : Int), x ∈ rd xs f r ↔ ∃ k, k < xs.length ∧ x = (k : Int) ∧ r ≤ xs.getD k 0 ∧ xs.getD k 0 < r + f ∧ ∀ v, r ≤ v → v ≤ xs.getD k 0 → ¬ 1 < (withF xs v 0).length
  | 0, r => by
    simp only [rd, List.not_mem_nil, false_iff]
    rintro ⟨k, _, _, h1, h2, _⟩
    omega
  | f + 1, r => by
    have ih := mem_rd xs x f (r + 1)
    simp only [rd]
    by_cases hd : 1 < (withF xs r 0).length
    · rw [if_pos hd]
      simp only [List.not_mem_nil, false_iff]
      rintro ⟨k, _, _, h1, h2, h3⟩
      exact h3 r (Int.le_refl _) h1 hd
    · rw [if_neg hd, List.mem_append, ih, mem_withF]
      constructor
      · rintro (⟨k, hk, hx, hv⟩ | ⟨k, hk, hx, h1, h2, h3⟩)
        · refine ⟨k, hk, by simpa using hx, by omega, by omega, fun v h1 h2 => ?_⟩
          have : v = r := by omega
          rw [this]; exact hd
        · refine ⟨k, hk, hx, by omega, by omega, fun v h4 h5 => ?_⟩
          by_cases hv : v = r
          · rw [hv]; exact hd
          · exact h3 v (by omega) h5
      · rintro ⟨k, hk, hx, h1, h2, h3⟩
        by_cases hv : xs.getD k 0 = r
        · exact .inl ⟨k, hk, by simpa using hx, hv⟩
        · exact .inr ⟨k, hk, hx, by omega, by omega, fun v h4 h5 => h3 v (by omega) h5⟩
theorem rd_pair (xs : List Int) : ∀ (f : Nat) (r : Int), (rd xs f r).Pairwise fun a b => xs.getD a.toNat 0 < xs.getD b.toNat 0
  | 0, r => by simp [rd]
  | f + 1, r => by
    simp only [rd]
    split
    · exact .nil
    · rename_i hd
      refine List.pairwise_append.2 ⟨?_, rd_pair xs f (r + 1), ?_⟩
      · match withF xs r 0, hd with
        | [], _ => exact .nil
        | [a], _ => simp
        | a :: b :: t, h => simp at h
      · intro a ha b hb
        obtain ⟨k, _, rfl, h1⟩ := (mem_withF _ _ _ _).1 ha
        obtain ⟨j, _, rfl, h2, _⟩ := (mem_rd _ _ _ _).1 hb
        simp only [Nat.zero_add, Int.toNat_natCast]
        omega
/-- what is read: within, marked, in the marks' order, alone -/
theorem read_facts {xs : List Int} (h : mv xs = true) : (∀ x, x ∈ mread xs → ∃ k, k < xs.length ∧ x = (k : Int) ∧ 1 ≤ xs.getD k 0 ∧ ∀ j, j < xs.length → j ≠ k → xs.getD j 0 ≠ xs.getD k 0) ∧ (∀ i, i + 1 < (mread xs).length → xs.getD ((mread xs).getD i 0).toNat 0 < xs.getD ((mread xs).getD (i + 1) 0).toNat 0) ∧ bv (mread xs) (xs.length : Int) = true := by
  have hm := mv_iff.1 h
  rw [mread_t h]
  have hp := rd_pair xs 9 1
  refine ⟨?_, ?_, ?_⟩
  · intro x hx
    obtain ⟨k, hk, rfl, h1, h2, h3⟩ := (mem_rd _ _ _ _).1 hx
    refine ⟨k, hk, rfl, h1, fun j hj hjk e => ?_⟩
    have h4 := h3 _ h1 (Int.le_refl _)
    have m1 := withF_at hk
    have m2 := withF_at hj
    rw [e] at m2
    have := one_of h4 m1 m2
    omega
  · intro i hi
    have h1 := List.pairwise_iff_getElem.1 hp i (i + 1) (by omega) hi (by omega)
    rw [List.getD_eq_getElem?_getD (l := rd xs 9 1), List.getD_eq_getElem?_getD (l := rd xs 9 1), List.getElem?_eq_getElem hi, List.getElem?_eq_getElem (show i < (rd xs 9 1).length by omega)]
    exact h1
  · have hl := hm.2
    refine bv_iff.2 ⟨⟨by omega, by omega⟩, ?_, ?_⟩
    · intro c hc
      obtain ⟨k, hk, rfl, _⟩ := (mem_rd _ _ _ _).1 hc
      omega
    · exact hp.imp (fun {a b} hab e => by subst e; exact Int.lt_irrefl _ hab)

/-! where reading ends -/
/-- the least mark given twice among the pairs (i, j) with j < i that lie before (a, b) -/
def LowAt (xs : List Int) (a b : Nat) (low : Int) : Prop :=
  (low = 10 ∨ 1 ≤ low ∧ 1 < (withF xs low 0).length) ∧ low ≤ 10 ∧ ∀ i j, j < i → i < xs.length → (i < a ∨ i = a ∧ j < b) → xs.getD i 0 = xs.getD j 0 → 0 < xs.getD i 0 → low ≤ xs.getD i 0
theorem low_zero (xs : List Int) : LowAt xs 0 0 10 := ⟨.inl rfl, by omega, fun i j _ _ h => by omega⟩
theorem low_row {xs : List Int} {a : Nat} {low : Int} (h : LowAt xs a a low) : LowAt xs (a + 1) 0 low :=
  ⟨h.1, h.2.1, fun i j h1 h2 h3 h4 h5 => h.2.2 i j h1 h2 (by omega) h4 h5⟩
theorem low_same {xs : List Int} {a b : Nat} {low : Int} (h : LowAt xs a b low) (hn : ¬ (xs.getD a 0 = xs.getD b 0 ∧ 0 < xs.getD a 0)) : LowAt xs a (b + 1) low :=
  ⟨h.1, h.2.1, fun i j h1 h2 h3 h4 h5 => by
    by_cases h6 : i = a ∧ j = b
    · obtain ⟨rfl, rfl⟩ := h6
      exact absurd ⟨h4, h5⟩ hn
    · exact h.2.2 i j h1 h2 (by omega) h4 h5⟩
theorem low_min {xs : List Int} {a b : Nat} {low : Int} (h : LowAt xs a b low) (hba : b < a) (ha : a < xs.length) (he : xs.getD a 0 = xs.getD b 0) (h0 : 0 < xs.getD a 0) : LowAt xs a (b + 1) (min low (xs.getD a 0)) := by
  obtain ⟨h1, h2, h3⟩ := h
  refine ⟨?_, by omega, ?_⟩
  · by_cases hl : low ≤ xs.getD a 0
    · rw [Int.min_eq_left hl]; exact h1
    · rw [Int.min_eq_right (by omega)]
      exact .inr ⟨by omega, two_in hba ha rfl he.symm⟩
  · intro i j g1 g2 g3 g4 g5
    by_cases h6 : i = a ∧ j = b
    · obtain ⟨rfl, rfl⟩ := h6; omega
    · have := h3 i j g1 g2 (by omega) g4 g5; omega
theorem low_end {xs : List Int} {low : Int} (hv : mv xs = true) (h : LowAt xs xs.length 0 low) {k : Nat} (hk : k < xs.length) : (mread xs).contains (k : Int) = (decide (0 < xs.getD k 0) && decide (xs.getD k 0 < low)) := by
  obtain ⟨h1, h2, h3⟩ := h
  have hm := mv_iff.1 hv
  have hx9 : xs.getD k 0 ≤ 9 := by
    have := (hm.1 xs[k] (List.getElem_mem hk)).2
    rw [List.getD_eq_getElem?_getD, List.getElem?_eq_getElem hk]; exact this
  rw [mread_t hv, Bool.eq_iff_iff, List.contains_iff_mem, mem_rd, Bool.and_eq_true, decide_eq_true_eq, decide_eq_true_eq]
  constructor
  · rintro ⟨k', _, hkk, g1, _, g3⟩
    obtain rfl : k = k' := by omega
    refine ⟨by omega, ?_⟩
    rcases h1 with h1 | ⟨h1, h4⟩
    · omega
    · rcases Int.lt_or_le (xs.getD k 0) low with h5 | h5
      · exact h5
      · exact absurd h4 (g3 low h1 h5)
  · rintro ⟨g1, g2⟩
    refine ⟨k, hk, rfl, by omega, by omega, fun v g4 g5 hd => ?_⟩
    obtain ⟨i, j, hji, hi, e1, e2⟩ := two_of hd
    have := h3 i j hji hi (.inl hi) (by rw [e1, e2]) (by omega)
    omega
end Go.Proofs.Ytcaiddggokpmoaa.Ma
