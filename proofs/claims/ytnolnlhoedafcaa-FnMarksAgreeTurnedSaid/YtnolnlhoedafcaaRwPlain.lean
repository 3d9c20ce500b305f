/- Marks that several readers have read: plain facts. -/
import Derived.Test.YtnolnlhoedafcaaMaPlain
namespace Go.Proofs.Ytnolnlhoedafcaa.Rw2
open Go.Proofs.Ytnolnlhoedafcaa

/-- how many rows have m at place p -/
def cnt (Xs : List (List Int)) (p : Nat) (m : Int) : Nat := Xs.countP (fun x => x.getD p 0 == m)
theorem cnt_le (Xs : List (List Int)) (p : Nat) (m : Int) : cnt Xs p m ≤ Xs.length := List.countP_le_length
theorem cnt_take_succ {Xs : List (List Int)} {k : Nat} (p : Nat) (m : Int) (h : k < Xs.length) : cnt (Xs.take (k + 1)) p m = cnt (Xs.take k) p m + if Xs[k].getD p 0 = m then 1 else 0 := by
  unfold cnt
  rw [List.take_succ_eq_append_getElem h, List.countP_append]
  congr 1
  by_cases e : Xs[k].getD p 0 = m <;> simp [e]
theorem cnt_two (p : Nat) {m m' : Int} (h : m ≠ m') : ∀ (Xs : List (List Int)), cnt Xs p m + cnt Xs p m' ≤ Xs.length := by
  intro Xs
  induction Xs with
  | nil => simp [cnt]
  | cons x Xs ih =>
    unfold cnt at ih ⊢
    simp only [List.countP_cons, List.length_cons, beq_iff_eq]
    by_cases h1 : x.getD p 0 = m
    · have h2 : ¬ x.getD p 0 = m' := fun e => h (h1.symm.trans e)
      rw [if_pos h1, if_neg h2]; omega
    · rw [if_neg h1]
      split <;> omega
/-- more than half have it -/
def Maj (Xs : List (List Int)) (p : Nat) (m : Int) : Prop := Xs.length < 2 * cnt Xs p m
instance (Xs : List (List Int)) (p : Nat) (m : Int) : Decidable (Maj Xs p m) := by unfold Maj; infer_instance
theorem maj_one {Xs : List (List Int)} {p : Nat} {m m' : Int} (h : Maj Xs p m) (h' : Maj Xs p m') : m = m' := by
  by_cases e : m = m'
  · exact e
  · have := cnt_two p e Xs; unfold Maj at h h'; omega
/-- the last mark below k that more than half have, or -1 -/
def best (Xs : List (List Int)) (p : Nat) : Nat → Int
  | 0 => -1
  | k + 1 => if Maj Xs p (k : Int) then k else best Xs p k
theorem best_range (Xs : List (List Int)) (p : Nat) : ∀ k, -1 ≤ best Xs p k ∧ best Xs p k < k := by
  intro k
  induction k with
  | zero => simp [best]
  | succ k ih => unfold best; split <;> omega
theorem best_maj {Xs : List (List Int)} {p k : Nat} (h : 0 ≤ best Xs p k) : Maj Xs p (best Xs p k) := by
  induction k with
  | zero => simp [best] at h
  | succ k ih =>
    unfold best at h ⊢
    split
    · assumption
    · rename_i h1; rw [if_neg h1] at h; exact ih h
theorem best_of {Xs : List (List Int)} {p m : Nat} (h : Maj Xs p (m : Int)) : ∀ k, m < k → best Xs p k = m := by
  intro k hk
  have hb : best Xs p k = -1 ∨ 0 ≤ best Xs p k := by have := best_range Xs p k; omega
  rcases hb with hb | hb
  · exfalso
    induction k with
    | zero => omega
    | succ k ih =>
      unfold best at hb
      by_cases h1 : Maj Xs p (k : Int)
      · rw [if_pos h1] at hb; omega
      · rw [if_neg h1] at hb
        have : m ≠ k := fun e => h1 (by rw [← e]; exact h)
        exact ih (by omega) hb
  · exact maj_one (best_maj hb) h
/-- the mark at place p -/
def most (Xs : List (List Int)) (p : Nat) : Int := best Xs p 10
theorem most_range (Xs : List (List Int)) (p : Nat) : -1 ≤ most Xs p ∧ most Xs p ≤ 9 := by
  have := best_range Xs p 10; unfold most; omega

def wide (Xs : List (List Int)) : Nat := (Xs.getD 0 []).length
def rowOk (Xs : List (List Int)) (x : List Int) : Bool := Ma.mv x && decide (x.length = wide Xs)
def rowsOk (Xs : List (List Int)) : Bool := decide (1 ≤ Xs.length ∧ Xs.length ≤ 5) && Xs.all (rowOk Xs)
def agOk (Xs : List (List Int)) : Bool := rowsOk Xs && (List.range (wide Xs)).all (fun p => decide (0 ≤ most Xs p))
def agL (Xs : List (List Int)) : List Int := if agOk Xs then (List.range (wide Xs)).map (most Xs) else []
theorem agL_f {Xs : List (List Int)} (h : agOk Xs = false) : agL Xs = [] := by simp [agL, h]
theorem agL_t {Xs : List (List Int)} (h : agOk Xs = true) : agL Xs = (List.range (wide Xs)).map (most Xs) := by simp [agL, h]
theorem rowsOk_iff {Xs : List (List Int)} : rowsOk Xs = true ↔ (1 ≤ Xs.length ∧ Xs.length ≤ 5) ∧ ∀ x ∈ Xs, Ma.mv x = true ∧ x.length = wide Xs := by
  simp [rowsOk, rowOk]
theorem agOk_iff {Xs : List (List Int)} : agOk Xs = true ↔ rowsOk Xs = true ∧ ∀ p, p < wide Xs → 0 ≤ most Xs p := by
  simp [agOk]
theorem agOk_rows {Xs : List (List Int)} (h : rowsOk Xs = false) : agOk Xs = false := by simp [agOk, h]
theorem agOk_place {Xs : List (List Int)} {p : Nat} (hp : p < wide Xs) (h : most Xs p < 0) : agOk Xs = false := by
  cases e : agOk Xs with
  | false => rfl
  | true => have := (agOk_iff.1 e).2 p hp; omega
theorem rowsOk_bad {Xs : List (List Int)} {x : List Int} (hx : x ∈ Xs) (h : rowOk Xs x = false) : rowsOk Xs = false := by
  cases e : rowsOk Xs with
  | false => rfl
  | true =>
    obtain ⟨h1, h2⟩ := (rowsOk_iff.1 e).2 x hx
    simp [rowOk, h1, h2] at h
theorem rowsOk_many {Xs : List (List Int)} (h : ¬ (1 ≤ Xs.length ∧ Xs.length ≤ 5)) : rowsOk Xs = false := by simp [rowsOk, h]
theorem agL_len (Xs : List (List Int)) : (agL Xs).length ≤ wide Xs := by
  unfold agL; split <;> simp

/-- the order of the rows is of no weight -/
theorem cnt_turn (x : List Int) (Xs : List (List Int)) (p : Nat) (m : Int) : cnt (Xs ++ [x]) p m = cnt (x :: Xs) p m := by
  unfold cnt; simp [List.countP_append, List.countP_cons]
theorem best_congr {Xs Ys : List (List Int)} {p : Nat} (hl : Xs.length = Ys.length) (h : ∀ m, cnt Xs p m = cnt Ys p m) : ∀ k, best Xs p k = best Ys p k := by
  intro k
  induction k with
  | zero => rfl
  | succ k ih =>
    unfold best
    have e : Maj Xs p (k : Int) ↔ Maj Ys p (k : Int) := by unfold Maj; rw [hl, h]
    by_cases h1 : Maj Ys p (k : Int)
    · rw [if_pos h1, if_pos (e.2 h1)]
    · rw [if_neg h1, if_neg (fun h2 => h1 (e.1 h2)), ih]
theorem most_turn (x : List Int) (Xs : List (List Int)) (p : Nat) : most (Xs ++ [x]) p = most (x :: Xs) p :=
  best_congr (by simp) (fun m => cnt_turn x Xs p m) 10
theorem rows_turn (x : List Int) (Xs : List (List Int)) : rowsOk (Xs ++ [x]) = rowsOk (x :: Xs) ∧ (rowsOk (x :: Xs) = true → wide (Xs ++ [x]) = wide (x :: Xs)) := by
  have hw : rowsOk (x :: Xs) = true → wide (Xs ++ [x]) = wide (x :: Xs) := fun h => by
    obtain ⟨-, h2⟩ := rowsOk_iff.1 h
    cases Xs with
    | nil => rfl
    | cons y Ys => exact (h2 y (by simp)).2
  have hw2 : rowsOk (Xs ++ [x]) = true → wide (Xs ++ [x]) = wide (x :: Xs) := fun h => by
    obtain ⟨-, h2⟩ := rowsOk_iff.1 h
    exact ((h2 x (by simp)).2).symm
  refine ⟨?_, hw⟩
  rw [Bool.eq_iff_iff]
  constructor
  · intro h
    have e := hw2 h
    obtain ⟨h1, h2⟩ := rowsOk_iff.1 h
    refine rowsOk_iff.2 ⟨by simp at h1 ⊢; omega, fun y hy => ?_⟩
    rw [← e]
    exact h2 y (by simp at hy ⊢; exact hy.symm)
  · intro h
    have e := hw h
    obtain ⟨h1, h2⟩ := rowsOk_iff.1 h
    refine rowsOk_iff.2 ⟨by simp at h1 ⊢; omega, fun y hy => ?_⟩
    rw [e]
    exact h2 y (by simp at hy ⊢; exact hy.symm)
theorem ag_turn (x : List Int) (Xs : List (List Int)) : agOk (Xs ++ [x]) = agOk (x :: Xs) ∧ agL (Xs ++ [x]) = agL (x :: Xs) := by
  obtain ⟨h1, h2⟩ := rows_turn x Xs
  have hm : most (Xs ++ [x]) = most (x :: Xs) := funext fun p => most_turn x Xs p
  have h3 : agOk (Xs ++ [x]) = agOk (x :: Xs) := by
    unfold agOk
    rw [h1]
    cases h : rowsOk (x :: Xs) with
    | false => simp
    | true => rw [h2 h, hm]
  refine ⟨h3, ?_⟩
  unfold agL
  rw [h3]
  cases h : agOk (x :: Xs) with
  | false => simp
  | true => rw [h2 (agOk_iff.1 h).1, hm]

/-- readers who agree are believed -/
theorem most_same {Xs : List (List Int)} {p : Nat} {out : List Int} (h0 : 0 < Xs.length) (h : ∀ x ∈ Xs, x = out) (hr : 0 ≤ out.getD p 0 ∧ out.getD p 0 ≤ 9) : most Xs p = out.getD p 0 := by
  have hc : cnt Xs p (out.getD p 0) = Xs.length := by
    unfold cnt; rw [List.countP_eq_length]; intro x hx; rw [h x hx]; simp
  have hm : Maj Xs p (out.getD p 0) := by unfold Maj; rw [hc]; omega
  obtain ⟨m, hm2⟩ : ∃ m : Nat, out.getD p 0 = m := ⟨(out.getD p 0).toNat, by omega⟩
  rw [hm2] at hm ⊢
  exact best_of hm 10 (by omega)
theorem ag_out {Xs : List (List Int)} (h : agOk Xs = true) : Ma.mv (agL Xs) = true ∧ (agL Xs).length = wide Xs ∧ ∀ p, p < wide Xs → (agL Xs).getD p 0 = most Xs p := by
  have hl := agL_t h
  obtain ⟨h1, h2⟩ := agOk_iff.1 h
  obtain ⟨⟨h3, h4⟩, h5⟩ := rowsOk_iff.1 h1
  have hlen : (agL Xs).length = wide Xs := by rw [hl]; simp
  have hat : ∀ p, p < wide Xs → (agL Xs).getD p 0 = most Xs p := fun p hp => by rw [hl]; simp [List.getD_eq_getElem?_getD, hp]
  refine ⟨?_, hlen, hat⟩
  have hx : Xs.getD 0 [] ∈ Xs := by
    rw [List.getD_eq_getElem?_getD, List.getElem?_eq_getElem (by omega)]; exact List.getElem_mem _
  have hv := (Ma.mv_iff.1 (h5 _ hx).1).2
  refine Ma.mv_iff.2 ⟨fun m hm => ?_, ?_⟩
  · rw [hl] at hm
    obtain ⟨p, hp, rfl⟩ := List.mem_map.1 hm
    have := most_range Xs p
    have := h2 p (by simpa using hp)
    omega
  · have hw : wide Xs = (Xs.getD 0 []).length := rfl
    rw [hlen, hw]; exact hv
theorem ag_same {Xs Ys : List (List Int)} (h : agOk Xs = true) (h0 : 1 ≤ Ys.length ∧ Ys.length ≤ 5) (hy : ∀ y ∈ Ys, y = agL Xs) : agOk Ys = true ∧ agL Ys = agL Xs := by
  obtain ⟨o1, o2, o3⟩ := ag_out h
  have hg : Ys.getD 0 [] = agL Xs := hy _ (by rw [List.getD_eq_getElem?_getD, List.getElem?_eq_getElem (by omega)]; exact List.getElem_mem _)
  have hw : wide Ys = wide Xs := by unfold wide at o2 ⊢; rw [hg, o2]
  have hr : rowsOk Ys = true := rowsOk_iff.2 ⟨h0, fun y hm => by rw [hy y hm, hw]; exact ⟨o1, o2⟩⟩
  have hmost : ∀ p, p < wide Xs → most Ys p = most Xs p := fun p hp => by
    have hr := most_range Xs p
    have h2 := (agOk_iff.1 h).2 p hp
    rw [← o3 p hp]
    exact most_same (by omega) hy (by rw [o3 p hp]; omega)
  have hok : agOk Ys = true := agOk_iff.2 ⟨hr, fun p hp => by rw [hw] at hp; rw [hmost p hp]; exact (agOk_iff.1 h).2 p hp⟩
  refine ⟨hok, ?_⟩
  rw [agL_t hok, agL_t h, hw]
  exact List.map_congr_left fun p hp => hmost p (by simpa using hp)
end Go.Proofs.Ytnolnlhoedafcaa.Rw2
