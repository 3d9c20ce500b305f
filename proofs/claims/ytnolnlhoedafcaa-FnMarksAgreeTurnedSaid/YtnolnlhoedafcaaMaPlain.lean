/- Plain facts on marks: what their functions give. No program stands here. -/
import Derived.Test.YtnolnlhoedafcaaBaPlain2
namespace Go.Proofs.Ytnolnlhoedafcaa.Ma
open Go.Proofs.Ytnolnlhoedafcaa.Bal

/-- the marks of a form -/
def MV (xs : List Int) : Prop := (∀ x, x ∈ xs → 0 ≤ x ∧ x ≤ 9) ∧ (1 ≤ xs.length ∧ xs.length ≤ 5)
instance (xs : List Int) : Decidable (MV xs) := by unfold MV; infer_instance
def mv (xs : List Int) : Bool := decide (MV xs)
theorem mv_iff {xs : List Int} : mv xs = true ↔ MV xs := by unfold mv; simp
theorem mv_f {xs : List Int} (h : ¬ MV xs) : mv xs = false := by unfold mv; simp [h]
def MPre (xs : List Int) (k : Nat) : Prop := ∀ x, x ∈ xs.take k → 0 ≤ x ∧ x ≤ 9
theorem mpre_zero (xs : List Int) : MPre xs 0 := by intro x hx; simp at hx
theorem mpre_succ {xs : List Int} {k : Nat} (hk : k < xs.length) (h : MPre xs k) (h0 : 0 ≤ xs[k]) (h1 : xs[k] ≤ 9) : MPre xs (k + 1) := by
  intro x hx
  rw [take_succ_get xs k hk] at hx
  rcases List.mem_append.1 hx with h2 | h2
  · exact h x h2
  · rw [List.mem_singleton] at h2; subst h2; exact ⟨h0, h1⟩
theorem mpre_all {xs : List Int} (h : MPre xs xs.length) : ∀ x, x ∈ xs → 0 ≤ x ∧ x ≤ 9 := by
  unfold MPre at h; rwa [List.take_length] at h
theorem mv_of {xs : List Int} (h : MPre xs xs.length) (hl : 1 ≤ xs.length ∧ xs.length ≤ 5) : mv xs = true := mv_iff.2 ⟨mpre_all h, hl⟩
theorem mv_len {xs : List Int} (hl : ¬ (1 ≤ xs.length ∧ xs.length ≤ 5)) : mv xs = false := mv_f (fun h => hl h.2)
theorem mv_at {xs : List Int} {k : Nat} (hk : k < xs.length) (h : ¬ (0 ≤ xs[k] ∧ xs[k] ≤ 9)) : mv xs = false := mv_f (fun h' => h (h'.1 _ (List.getElem_mem hk)))

/-! marks of a ballot -/
def markUp (n : Nat) (b : List Int) (k : Nat) : List Int := (List.range k).foldl (fun l i => l.set (b.getD i 0).toNat ((i : Int) + 1)) (List.replicate n 0)
theorem markUp_zero (n : Nat) (b : List Int) : markUp n b 0 = List.replicate n 0 := rfl
theorem markUp_succ (n : Nat) (b : List Int) (k : Nat) : markUp n b (k + 1) = (markUp n b k).set (b.getD k 0).toNat ((k : Int) + 1) := by
  unfold markUp; rw [List.range_succ, List.foldl_append]; rfl
theorem markUp_len (n : Nat) (b : List Int) : ∀ k, (markUp n b k).length = n
  | 0 => by simp [markUp]
  | k + 1 => by rw [markUp_succ, List.length_set, markUp_len n b k]
def marksOf (b : List Int) (n : Int) : List Int := if bv b n then markUp n.toNat b b.length else []
theorem marksOf_t {b : List Int} {n : Int} (h : bv b n = true) : marksOf b n = markUp n.toNat b b.length := by unfold marksOf; rw [if_pos h]
theorem marksOf_f {b : List Int} {n : Int} (h : bv b n = false) : marksOf b n = [] := by unfold marksOf; rw [h]; rfl

theorem marksOf_len (b : List Int) (n : Int) : (marksOf b n).length ≤ 5 := by
  cases h : bv b n with
  | false => rw [marksOf_f h]; simp
  | true => rw [marksOf_t h, markUp_len]; have := (bv_iff.1 h).1; omega

/-! the candidates with a rank -/
def withF : List Int → Int → Nat → List Int
  | [], _, _ => []
  | z :: zs, r, i => if z = r then (i : Int) :: withF zs r (i + 1) else withF zs r (i + 1)
theorem withF_append (r : Int) : ∀ (xs ys : List Int) (i : Nat), withF (xs ++ ys) r i = withF xs r i ++ withF ys r (i + xs.length)
  | [], ys, i => by simp [withF]
  | z :: xs, ys, i => by
    simp only [List.cons_append, withF, List.length_cons]
    have e : i + (xs.length + 1) = i + 1 + xs.length := by omega
    rw [withF_append r xs ys (i + 1), e]
    split <;> simp
theorem withF_snoc {xs : List Int} {k : Nat} (r : Int) (hk : k < xs.length) : withF (xs.take (k + 1)) r 0 = withF (xs.take k) r 0 ++ (if xs[k] = r then [(k : Int)] else []) := by
  rw [take_succ_get xs k hk, withF_append, List.length_take, Nat.min_eq_left (by omega)]
  simp only [withF, Nat.zero_add]
theorem withF_len (r : Int) : ∀ (xs : List Int) (i : Nat), (withF xs r i).length ≤ xs.length
  | [], i => by simp [withF]
  | z :: xs, i => by
    have := withF_len r xs (i + 1)
    simp only [withF]
    split <;> simp <;> omega
theorem withF_none (r : Int) : ∀ (xs : List Int) (i : Nat), xs.contains r = false → withF xs r i = []
  | [], i, _ => rfl
  | z :: xs, i, h => by
    simp only [List.contains_cons, Bool.or_eq_false_iff, beq_eq_false_iff_ne, ne_eq] at h
    have hz : ¬ z = r := fun e => h.1 e.symm
    simp only [withF, if_neg hz]
    exact withF_none r xs (i + 1) h.2
theorem withF_some (r : Int) : ∀ (xs : List Int) (i : Nat), xs.contains r = true → withF xs r i ≠ []
  | [], i, h => by simp at h
  | z :: xs, i, h => by
    simp only [List.contains_cons, Bool.or_eq_true, beq_iff_eq] at h
    simp only [withF]
    split
    · simp
    · rename_i hz
      exact withF_some r xs (i + 1) (h.resolve_left (fun e => hz e.symm))
/-- what slices.Index and slices.Contains say of it -/
theorem withF_idx (r : Int) : ∀ (xs : List Int) (i : Nat), (Lib.idxFrom xs r i = -1 ∧ withF xs r i = []) ∨ ∃ k, k < xs.length ∧ Lib.idxFrom xs r i = ((i + k : Nat) : Int) ∧ withF xs r i = ((i + k : Nat) : Int) :: withF (xs.drop (k + 1)) r (i + k + 1)
  | [], i => .inl ⟨rfl, rfl⟩
  | z :: xs, i => by
    by_cases hz : z = r
    · refine .inr ⟨0, by simp, ?_, ?_⟩
      · simp [Lib.idxFrom, hz]
      · simp [withF, hz]
    · rcases withF_idx r xs (i + 1) with ⟨h1, h2⟩ | ⟨k, hk, h1, h2⟩
      · exact .inl ⟨by simp [Lib.idxFrom, hz, h1], by simp [withF, hz, h2]⟩
      · refine .inr ⟨k + 1, by simp; omega, ?_, ?_⟩
        · simp only [Lib.idxFrom, if_neg hz, h1]; congr 1; omega
        · simp only [withF, if_neg hz, h2, List.drop_succ_cons]
          have e1 : i + 1 + k = i + (k + 1) := by omega
          rw [e1]

/-! reading marks -/
def rd (xs : List Int) : Nat → Int → List Int
  | 0, _ => []
  | f + 1, r => if 1 < (withF xs r 0).length then [] else withF xs r 0 ++ rd xs f (r + 1)
def mread (xs : List Int) : List Int := if mv xs then rd xs 9 1 else []
theorem mread_t {xs : List Int} (h : mv xs = true) : mread xs = rd xs 9 1 := by unfold mread; rw [if_pos h]
theorem mread_f {xs : List Int} (h : mv xs = false) : mread xs = [] := by unfold mread; rw [h]; rfl
theorem rd_stop {xs : List Int} {f : Nat} {r : Int} {o R : List Int} (h : o ++ rd xs (f + 1) r = R) (hl : 1 < (withF xs r 0).length) : o = R := by
  rw [rd, if_pos hl, List.append_nil] at h; exact h
theorem rd_go {xs : List Int} {f : Nat} {r : Int} {o R : List Int} (h : o ++ rd xs (f + 1) r = R) (hl : ¬ 1 < (withF xs r 0).length) : (o ++ withF xs r 0) ++ rd xs f (r + 1) = R := by
  rw [rd, if_neg hl] at h; rw [List.append_assoc]; exact h
theorem rd_len (xs : List Int) : ∀ (f : Nat) (r : Int), (rd xs f r).length ≤ f
  | 0, _ => by simp [rd]
  | f + 1, r => by
    have ih := rd_len xs f (r + 1)
    simp only [rd]
    split
    · simp
    · simp; omega
theorem mread_len (xs : List Int) : (mread xs).length ≤ 9 := by
  unfold mread
  split
  · exact rd_len xs 9 1
  · simp
end Go.Proofs.Ytnolnlhoedafcaa.Ma
