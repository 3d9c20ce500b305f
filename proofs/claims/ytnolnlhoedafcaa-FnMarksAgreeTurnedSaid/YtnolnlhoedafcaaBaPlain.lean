/- Plain facts on ballots: no program stands here. -/
namespace Go.Proofs.Ytnolnlhoedafcaa.Bal

/-- a ballot for n candidates -/
def BV (b : List Int) (n : Int) : Prop := (1 ≤ n ∧ n ≤ 5) ∧ (∀ c, c ∈ b → 0 ≤ c ∧ c < n) ∧ b.Nodup
instance (b : List Int) (n : Int) : Decidable (BV b n) := by unfold BV; infer_instance
def bv (b : List Int) (n : Int) : Bool := decide (BV b n)
theorem bv_iff {b : List Int} {n : Int} : bv b n = true ↔ BV b n := by unfold bv; simp
theorem bv_f {b : List Int} {n : Int} (h : ¬ BV b n) : bv b n = false := by unfold bv; simp [h]

theorem take_succ_get {α} (b : List α) (k : Nat) (h : k < b.length) : b.take (k + 1) = b.take k ++ [b[k]] := by
  rw [List.take_succ_eq_append_getElem h]

/-- the first k are candidates, each named once -/
def Pre (b : List Int) (n : Int) (k : Nat) : Prop := (∀ c, c ∈ b.take k → 0 ≤ c ∧ c < n) ∧ (b.take k).Nodup
theorem pre_zero (b : List Int) (n : Int) : Pre b n 0 := by simp [Pre]
theorem pre_succ {b : List Int} {n : Int} {k : Nat} (hk : k < b.length) (h : Pre b n k) (h0 : 0 ≤ b[k]) (h1 : b[k] < n) (hc : (b.take k).contains b[k] = false) : Pre b n (k + 1) := by
  have hm : ¬ b[k] ∈ b.take k := by simpa using hc
  unfold Pre
  rw [take_succ_get b k hk]
  refine ⟨fun c hc => ?_, ?_⟩
  · rcases List.mem_append.1 hc with h' | h'
    · exact h.1 c h'
    · simp at h'; subst h'; exact ⟨h0, h1⟩
  · rw [List.nodup_append]
    refine ⟨h.2, by simp, ?_⟩
    intro x hx y hy
    simp at hy
    subst hy
    rintro rfl
    exact hm hx
theorem pre_bv {b : List Int} {n : Int} (h1 : 1 ≤ n) (h2 : n ≤ 5) (h : Pre b n b.length) : BV b n := by
  unfold Pre at h
  rw [List.take_length] at h
  exact ⟨⟨h1, h2⟩, h.1, h.2⟩
/-- where one is no candidate, or is named before -/
theorem not_bv {b : List Int} {n : Int} {k : Nat} (hk : k < b.length) (h : b[k] < 0 ∨ n ≤ b[k] ∨ (b.take k).contains b[k] = true) : ¬ BV b n := by
  rintro ⟨_, h2, h3⟩
  have hm := h2 b[k] (List.getElem_mem hk)
  rcases h with h | h | h
  · omega
  · omega
  · have h4 : b[k] ∈ b.take k := by simpa using h
    have h5 : (b.take (k + 1)).Nodup := h3.sublist (List.take_sublist _ _)
    rw [take_succ_get b k hk, List.nodup_append] at h5
    exact h5.2.2 _ h4 _ (by simp) rfl

theorem nat_pigeon : ∀ (n : Nat) (l : List Nat), l.Nodup → (∀ x, x ∈ l → x < n) → l.length ≤ n
  | 0, l, _, h => by
    cases l with
    | nil => simp
    | cons x _ => exact absurd (h x (by simp)) (by omega)
  | n + 1, l, hd, h => by
    by_cases hm : n ∈ l
    · have h1 := nat_pigeon n (l.erase n) (hd.erase n) (fun x hx => by
        have h2 := h x (List.mem_of_mem_erase hx)
        have h3 : x ≠ n := by
          rintro rfl
          exact (hd.not_mem_erase) hx
        omega)
      have h4 := List.length_erase_of_mem hm
      have h5 : 0 < l.length := List.length_pos_of_mem hm
      omega
    · have h1 := nat_pigeon n l hd (fun x hx => by
        have h2 := h x hx
        have h3 : x ≠ n := by rintro rfl; exact hm hx
        omega)
      omega

theorem bv_len {b : List Int} {n : Int} (h : BV b n) : (b.length : Int) ≤ n := by
  obtain ⟨⟨h1, _⟩, h2, h3⟩ := h
  have h4 : (b.map Int.toNat).Nodup := by
    rw [List.nodup_iff_pairwise_ne] at h3 ⊢
    rw [List.pairwise_map]
    refine List.Pairwise.imp_of_mem ?_ h3
    intro x y hx hy hne e
    have := h2 x hx
    have := h2 y hy
    exact hne (by omega)
  have h5 := nat_pigeon n.toNat (b.map Int.toNat) h4 (fun x hx => by
    obtain ⟨y, hy, rfl⟩ := List.mem_map.1 hx
    have := h2 y hy
    omega)
  simp at h5
  omega

end Go.Proofs.Ytnolnlhoedafcaa.Bal
