/- What the laws on piles need: plain facts, and parts of a list. -/
import Derived.Test.YtlfgmljgoolbeaaPiAddI
import Derived.Test.YtlfgmljgoolbeaaPiDraw2
namespace Go.Proofs.Ytlfgmljgoolbeaa
open Go.RowKit

theorem padd_parts {ps : List Pil.Pl} {t : ByteArray} {m : Int} (h : paddOk ps t m = true) : Pil.plv ps = true ∧ Pil.pv (t, m) = true ∧ Pil.plv (Pil.put ps t m) = true := by
  simpa [paddOk] using h
theorem padd_total {ps : List Pil.Pl} {t : ByteArray} {m : Int} (h : paddOk ps t m = true) : Pil.ptot (Pil.put ps t m) = Pil.ptot ps + m ∧ 0 ≤ Pil.ptot ps ∧ Pil.ptot ps ≤ 1188 ∧ 1 ≤ m ∧ m ≤ 99 := by
  obtain ⟨h1, h2, h3⟩ := padd_parts h
  have h4 := Pil.plv_total h1
  have h5 := Pil.pv_pos h2
  refine ⟨?_, ?_, ?_, h5.1, h5.2⟩
  · simp [Pil.ptot, h1, h3, Pil.total_put]
  · simp [Pil.ptot, h1]; omega
  · simp [Pil.ptot, h1]; omega
theorem padd_two {ps : List Pil.Pl} {t : ByteArray} {m k : Int} (h : paddOk ps t m = true) (hk : 1 ≤ k) (hkm : k < m) :
    paddOk ps t k = true ∧ paddOk (Pil.put ps t k) t (m - k) = true ∧ Pil.put (Pil.put ps t k) t (m - k) = Pil.put ps t m := by
  obtain ⟨h1, h2, h3⟩ := padd_parts h
  have hA := (Pil.plv_iff.1 h1).2.1
  have hP := (Pil.plv_iff.1 h1).1
  have h5 := Pil.pv_pos h2
  have hO := (Pil.pv_iff.1 h2).1
  have e : Pil.put (Pil.put ps t k) t (m - k) = Pil.put ps t m := by
    rw [Pil.put_two ps t k (m - k) hA]; congr 1; omega
  have hv : Pil.plv (Pil.put ps t k) = true := by
    refine Pil.plv_within h3 (Pil.asc_put ps t k hA) (fun u hu => ?_) (fun u hu => ?_)
    · rw [Pil.has_put] at hu ⊢; exact hu
    · rw [Pil.has_put] at hu
      rw [Pil.sumAt_put, Pil.sumAt_put]
      have hs := Pil.sumAt_pos (u := u) hP
      by_cases htu : t = u
      · simp [htu]; omega
      · have := hs.2 (hu.resolve_left htu)
        simp [htu]; omega
  have p1 : Pil.pv (t, k) = true := Pil.pv_iff.2 ⟨hO, hk, by show k ≤ 99; have h6 : m ≤ 99 := h5.2; omega⟩
  have p2 : Pil.pv (t, m - k) = true := Pil.pv_iff.2 ⟨hO, by show 1 ≤ m - k; omega, by show m - k ≤ 99; have h6 : m ≤ 99 := h5.2; omega⟩
  exact ⟨by simp [paddOk, h1, p1, hv], by simp [paddOk, hv, p2, e, h3], e⟩

theorem pmerge_parts {a b : List Pil.Pl} (h : pmergeOk a b = true) : Pil.plv a = true ∧ Pil.plv b = true ∧ Pil.plv (Pil.merge a b) = true := by
  simpa [pmergeOk] using h
theorem pmerge_t {a b : List Pil.Pl} (h : pmergeOk a b = true) : pmergeL a b = Pil.merge a b := by simp [pmergeL, h]
theorem pmerge_f {a b : List Pil.Pl} (h : pmergeOk a b = false) : pmergeL a b = [] := by simp [pmergeL, h]
theorem padd_f {ps : List Pil.Pl} {t : ByteArray} {m : Int} (h : paddOk ps t m = false) : paddL ps t m = [] := by simp [paddL, h]
theorem pmerge_comm {a b : List Pil.Pl} (h : pmergeOk a b = true) : pmergeOk b a = true ∧ Pil.merge b a = Pil.merge a b := by
  obtain ⟨h1, h2, h3⟩ := pmerge_parts h
  have e := Pil.merge_comm (Pil.plv_iff.1 h2).2.1 (Pil.plv_iff.1 h1).2.1
  exact ⟨by simp [pmergeOk, h1, h2, e, h3], e⟩
theorem pmerge_total {a b : List Pil.Pl} (h : pmergeOk a b = true) : Pil.ptot (Pil.merge a b) = Pil.ptot a + Pil.ptot b ∧ 0 ≤ Pil.ptot a ∧ Pil.ptot a ≤ 1188 ∧ 0 ≤ Pil.ptot b ∧ Pil.ptot b ≤ 1188 := by
  obtain ⟨h1, h2, h3⟩ := pmerge_parts h
  have h4 := Pil.plv_total h1
  have h5 := Pil.plv_total h2
  refine ⟨by simp [Pil.ptot, h1, h2, h3, Pil.total_merge], ?_, ?_, ?_, ?_⟩ <;> simp [Pil.ptot, h1, h2] <;> omega
theorem pmerge_pre {a b : List Pil.Pl} (h : pmergeOk a b = true) (k : Nat) : Pil.plv (Pil.merge a (b.take k)) = true := by
  obtain ⟨h1, h2, h3⟩ := pmerge_parts h
  have hP := (Pil.plv_iff.1 h2).1
  refine Pil.merge_part (c := b.drop k) h1 (fun p hp => hP p (List.mem_of_mem_take hp)) (fun p hp => hP p (List.mem_of_mem_drop hp)) ?_
  rw [List.take_append_drop]; exact h3
theorem pmerge_two {a b : List Pil.Pl} (h : pmergeOk a b = true) (k : Nat) : pmergeOk a (b.take k) = true ∧ pmergeOk (Pil.merge a (b.take k)) (b.drop k) = true ∧ Pil.merge (Pil.merge a (b.take k)) (b.drop k) = Pil.merge a b := by
  obtain ⟨h1, h2, h3⟩ := pmerge_parts h
  have hq := pmerge_pre h k
  have e : Pil.merge (Pil.merge a (b.take k)) (b.drop k) = Pil.merge a b := by rw [← Pil.merge_append, List.take_append_drop]
  exact ⟨by simp [pmergeOk, h1, Pil.plv_take h2, hq], by simp [pmergeOk, hq, Pil.plv_drop h2, e, h3], e⟩
theorem pmerge_step {a b : List Pil.Pl} (h : pmergeOk a b = true) {k : Nat} (hk : k < b.length) : paddOk (Pil.merge a (b.take k)) b[k].1 b[k].2 = true := by
  obtain ⟨h1, h2, h3⟩ := pmerge_parts h
  have hP := (Pil.plv_iff.1 h2).1
  have h4 := pmerge_pre h k
  have h5 := pmerge_pre h (k + 1)
  rw [merge_take_succ a b k hk] at h5
  have h6 := hP b[k] (List.getElem_mem hk)
  simp [paddOk, h4, h5, h6]
theorem plv_short {l : List Pil.Pl} (h : Pil.plv l = true) : l.length ≤ 12 := (Pil.plv_iff.1 h).2.2
theorem plv_sz {l : List Pil.Pl} (h : Pil.plv l = true) : ∀ p ∈ l, p.1.size ≤ 4194304 := fun p hp => Nat.le_trans (plv_sizes h p hp) (by omega)
theorem total_take_succ {l : List Pil.Pl} {k : Nat} (hk : k < l.length) : Pil.total (l.take (k + 1)) = Pil.total (l.take k) + l[k].2 := by
  induction l generalizing k with
  | nil => simp at hk
  | cons p l ih =>
    cases k with
    | zero => simp [Pil.total]
    | succ k => simp [Pil.total, ih (by simpa using hk)]; omega

theorem RdP.take_ {W : World} {B b off n : Nat} {ps : List Pil.Pl} (h : RdP W B (some ⟨b, off, none⟩) n ps) {k : Nat} (hk : k ≤ n) : RdP W B (some ⟨b, off, none⟩) k (ps.take k) := by
  have hl := h.1
  refine ⟨by simp; omega, fun hk0 => ?_⟩
  obtain ⟨b', off', e, hb, hc⟩ := h.2 (by omega)
  refine ⟨b', off', e, hb, fun j hj => ?_⟩
  have hj' : j < ps.length := by simp at hj; omega
  simpa using hc j hj'
theorem RdP.drop_ {W : World} {B b off n : Nat} {ps : List Pil.Pl} (h : RdP W B (some ⟨b, off, none⟩) n ps) {k : Nat} (hk : k ≤ n) (A : Option Addr) (hA : k < n → A = some ⟨b, off + k * 2, none⟩) : RdP W B A (n - k) (ps.drop k) := by
  have hl := h.1
  refine ⟨by simp; omega, fun hk0 => ?_⟩
  obtain ⟨b', off', e, hb, hc⟩ := h.2 (by omega)
  injection e with e; injection e with e1 e2; subst e1 e2
  refine ⟨b, off + k * 2, hA (by omega), hb, fun j hj => ?_⟩
  have hj' : k + j < ps.length := by simp at hj; omega
  have := hc (k + j) hj'
  have e1 : off + k * 2 + j * 2 = off + (k + j) * 2 := by omega
  rw [e1]
  simpa using this
end Go.Proofs.Ytlfgmljgoolbeaa
