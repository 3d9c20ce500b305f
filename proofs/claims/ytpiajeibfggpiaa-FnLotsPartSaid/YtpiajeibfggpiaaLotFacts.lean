/- The facts on lots that are shown at every number and every seed, one by one. -/
import Derived.Test.YtpiajeibfggpiaaBaPlain2
namespace Go.Proofs.Ytpiajeibfggpiaa.Bal
set_option maxRecDepth 100000 in
theorem lotsFacts_all : lotsFacts = true := by decide +kernel
set_option maxRecDepth 100000 in
theorem swapFacts_all : swapFacts = true := by decide +kernel
theorem lot_facts {m s : Nat} (h1 : 1 ≤ m) (h5 : m ≤ 5) (hs : s ≤ 999) : bv (lotsOf m s) (m : Int) = true ∧ (lotsOf m s).getD 0 (-1) = ((s % m : Nat) : Int) ∧ (s + fact m ≤ 999 → lotsOf m (s + fact m) = lotsOf m s) := by
  have h := lotsFacts_all
  unfold lotsFacts at h
  rw [List.all_eq_true] at h
  obtain ⟨k, rfl⟩ : ∃ k, m = k + 1 := ⟨m - 1, by omega⟩
  have h2 := h k (List.mem_range.2 (by omega))
  rw [List.all_eq_true] at h2
  have h3 := h2 s (List.mem_range.2 (by omega))
  simp only [Bool.and_eq_true, beq_iff_eq, Bool.or_eq_true, decide_eq_true_eq] at h3
  exact ⟨h3.1.1, h3.1.2, fun hle => by rcases h3.2 with h4 | h4 <;> first | omega | exact h4⟩
theorem swap_facts {m s : Nat} (h1 : 2 ≤ m) (h5 : m ≤ 5) (hs : s ≤ 999) : swapSeed m s < 120 ∧ lotsOf m (swapSeed m s) = swapped (lotsOf m s) := by
  have h := swapFacts_all
  unfold swapFacts at h
  rw [List.all_eq_true] at h
  obtain ⟨k, rfl⟩ : ∃ k, m = k + 2 := ⟨m - 2, by omega⟩
  have h2 := h k (List.mem_range.2 (by omega))
  rw [List.all_eq_true] at h2
  have h3 := h2 s (List.mem_range.2 (by omega))
  simp only [Bool.and_eq_true, beq_iff_eq, decide_eq_true_eq] at h3
  exact h3
theorem fact_le {m : Nat} (h : m ≤ 5) : 1 ≤ fact m ∧ fact m ≤ 120 := by
  rcases (show m = 0 ∨ m = 1 ∨ m = 2 ∨ m = 3 ∨ m = 4 ∨ m = 5 by omega) with rfl | rfl | rfl | rfl | rfl | rfl <;> decide
theorem fact_step {i : Nat} (h : 2 ≤ i) : fact (i - 1) * i = fact i := by
  obtain ⟨k, rfl⟩ : ∃ k, i = k + 1 := ⟨i - 1, by omega⟩
  simp [fact, Nat.mul_comm]
end Go.Proofs.Ytpiajeibfggpiaa.Bal
