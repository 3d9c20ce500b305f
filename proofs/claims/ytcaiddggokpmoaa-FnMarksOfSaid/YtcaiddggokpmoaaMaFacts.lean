/- The marks of a ballot are read as that ballot: shown at every ballot, one by one. -/
import Derived.Test.YtcaiddggokpmoaaMaPlain
namespace Go.Proofs.Ytcaiddggokpmoaa.Ma
open Go.Proofs.Ytcaiddggokpmoaa.Bal

def lists (n : Nat) : Nat → List (List Int)
  | 0 => [[]]
  | k + 1 => [] :: (upTo n).flatMap fun c => (lists n k).map (c :: ·)
theorem mem_upTo {n : Nat} {c : Int} (h0 : 0 ≤ c) (h1 : c < n) : c ∈ upTo n := by
  unfold upTo
  rw [List.mem_map]
  exact ⟨c.toNat, List.mem_range.2 (by omega), by show ((c.toNat : Nat) : Int) = c; omega⟩
theorem mem_lists (n : Nat) : ∀ (k : Nat) (b : List Int), b.length ≤ k → (∀ c, c ∈ b → 0 ≤ c ∧ c < (n : Int)) → b ∈ lists n k
  | 0, b, h, _ => by
    have : b = [] := List.eq_nil_of_length_eq_zero (by omega)
    subst this; simp [lists]
  | k + 1, [], _, _ => by simp [lists]
  | k + 1, c :: b, h, hc => by
    have h1 := hc c (by simp)
    have ih := mem_lists n k b (by simp at h; omega) (fun x hx => hc x (by simp [hx]))
    simp only [lists, List.mem_cons, List.mem_flatMap, List.mem_map]
    exact .inr ⟨c, mem_upTo h1.1 h1.2, b, ih, rfl⟩
/-- a quick look at whether a list names each once -/
def once : List Int → Bool
  | [] => true
  | c :: b => !b.contains c && once b
theorem once_of : ∀ {b : List Int}, b.Nodup → once b = true
  | [], _ => rfl
  | c :: b, h => by
    rw [List.nodup_cons] at h
    simp only [once, Bool.and_eq_true, Bool.not_eq_true']
    exact ⟨by simpa using h.1, once_of h.2⟩
def fits (xs : List Int) : Bool := xs.all (fun x => decide (0 ≤ x) && decide (x ≤ 9)) && (decide (1 ≤ xs.length) && decide (xs.length ≤ 5))
theorem mv_of_fits {xs : List Int} (h : fits xs = true) : mv xs = true := by
  unfold fits at h
  simp only [Bool.and_eq_true, List.all_eq_true, decide_eq_true_eq] at h
  exact mv_iff.2 ⟨h.1, h.2⟩
def readFacts : Bool := (List.range 5).all fun m => (lists (m + 1) (m + 1)).all fun b => !once b || (fits (markUp (m + 1) b b.length) && (rd (markUp (m + 1) b b.length) 9 1 == b))
set_option maxRecDepth 100000 in
theorem readFacts_all : readFacts = true := by decide +kernel
theorem read_marksOf {b : List Int} {n : Nat} (h : bv b n = true) : mv (marksOf b n) = true ∧ mread (marksOf b n) = b ∧ (marksOf b n).length = n := by
  have hb := bv_iff.1 h
  have hl := bv_len hb
  obtain ⟨m, rfl⟩ : ∃ m, n = m + 1 := ⟨n - 1, by have := hb.1; omega⟩
  have h1 := readFacts_all
  unfold readFacts at h1
  rw [List.all_eq_true] at h1
  have h2 := h1 m (List.mem_range.2 (by have := hb.1; omega))
  rw [List.all_eq_true] at h2
  have h3 := h2 b (mem_lists (m + 1) (m + 1) b (by omega) hb.2.1)
  rw [once_of hb.2.2] at h3
  simp only [Bool.not_true, Bool.false_or, Bool.and_eq_true, beq_iff_eq] at h3
  have e : marksOf b ((m + 1 : Nat) : Int) = markUp (m + 1) b b.length := by rw [marksOf_t h, Int.toNat_natCast]
  rw [e]
  exact ⟨mv_of_fits h3.1, by rw [mread_t (mv_of_fits h3.1)]; exact h3.2, markUp_len _ _ _⟩
end Go.Proofs.Ytcaiddggokpmoaa.Ma
