/- Piles, in plain Lean: valid piles, ballots put to their pile, lists of piles merged, sums, candidates exchanged. -/
import Derived.Test.YtlfgmljgoolbeaaBaPlain2
import Derived.Sort.Walk0
namespace Go.Proofs.Ytlfgmljgoolbeaa.Pil
open Go

abbrev Pl := ByteArray × Int
def bl (a b : ByteArray) : Bool := Op.bytesLess a.toList b.toList
theorem bl_eq (a b : ByteArray) : bl a b = decide (a.data.toList < b.data.toList) := by
  unfold bl; rw [Go.Proofs.bytesLess_eq, Lib.toList_data, Lib.toList_data]
theorem ba_ext {a b : ByteArray} (h : a.data.toList = b.data.toList) : a = b := by
  cases a; cases b; simp at h; subst h; rfl
theorem bl_irrefl (a : ByteArray) : bl a a = false := by rw [bl_eq]; simp [List.lt_irrefl]
theorem bl_trans {a b c : ByteArray} (h : bl a b = true) (k : bl b c = true) : bl a c = true := by
  rw [bl_eq] at *; simp at *; exact List.lt_trans h k
theorem bl_asymm {a b : ByteArray} (h : bl a b = true) : bl b a = false := by
  cases hb : bl b a with
  | false => rfl
  | true => have := bl_trans h hb; rw [bl_irrefl] at this; cases this
theorem bl_ne {a b : ByteArray} (h : bl a b = true) : a ≠ b := by
  rintro rfl; rw [bl_irrefl] at h; cases h
theorem bl_tri (a b : ByteArray) : bl a b = true ∨ a = b ∨ bl b a = true := by
  rw [bl_eq, bl_eq]
  simp
  by_cases h1 : a.data.toList < b.data.toList
  · exact .inl h1
  · by_cases h2 : b.data.toList < a.data.toList
    · exact .inr (.inr h2)
    · exact .inr (.inl (ba_ext (List.le_antisymm (List.not_lt.1 h2) (List.not_lt.1 h1))))

theorem le_of_not {a b : ByteArray} (h : bl a b = false) : (Op.bytesLess b.toList a.toList || b.toList == a.toList) = true := by
  rcases bl_tri a b with e | e | e
  · rw [h] at e; cases e
  · subst e; simp
  · unfold bl at e; rw [e]; rfl
theorem not_le {a b : ByteArray} (h : bl a b = true) : (Op.bytesLess b.toList a.toList || b.toList == a.toList) = false := by
  have h1 : Op.bytesLess b.toList a.toList = false := bl_asymm h
  rw [h1, Bool.false_or]
  have h2 : b.toList ≠ a.toList := fun e => bl_ne h (ba_ext (by rw [← Lib.toList_data, ← Lib.toList_data]; exact e.symm))
  simpa using h2
theorem ge_of_not {a b : ByteArray} (h : bl a b = false) : (!Op.bytesLess a.toList b.toList) = true := by
  unfold bl at h; rw [h]; rfl
theorem not_ge {a b : ByteArray} (h : bl a b = true) : (!Op.bytesLess a.toList b.toList) = false := by
  unfold bl at h; rw [h]; rfl

def pv (p : Pl) : Bool := Bal.okT p.1.data.toList && decide (1 ≤ p.2 ∧ p.2 ≤ 99)
theorem pv_iff {p : Pl} : pv p = true ↔ Bal.okT p.1.data.toList = true ∧ 1 ≤ p.2 ∧ p.2 ≤ 99 := by simp [pv]
def ascB : List Pl → Bool
  | p :: q :: r => bl p.1 q.1 && ascB (q :: r)
  | _ => true
def plv (l : List Pl) : Bool := (l.all pv && ascB l) && decide (l.length ≤ 12)

def Asc (l : List Pl) : Prop := l.Pairwise fun p q => bl p.1 q.1 = true
theorem asc_iff : ∀ {l : List Pl}, ascB l = true ↔ Asc l
  | [] => by simp [ascB, Asc]
  | [p] => by simp [ascB, Asc]
  | p :: q :: r => by
    have ih := asc_iff (l := q :: r)
    rw [ascB, Bool.and_eq_true, ih]
    unfold Asc
    rw [List.pairwise_cons (a := p)]
    constructor
    · rintro ⟨h1, h2⟩
      refine ⟨fun x hx => ?_, h2⟩
      rcases List.mem_cons.1 hx with rfl | hx
      · exact h1
      · exact bl_trans h1 ((List.pairwise_cons.1 h2).1 x hx)
    · rintro ⟨h1, h2⟩
      exact ⟨h1 q (List.mem_cons_self ..), h2⟩
theorem plv_iff {l : List Pl} : plv l = true ↔ (∀ p ∈ l, pv p = true) ∧ Asc l ∧ l.length ≤ 12 := by
  unfold plv
  rw [Bool.and_eq_true, Bool.and_eq_true, asc_iff, List.all_eq_true]
  simp [and_assoc]

/-! the loop of PilesValid -/
def PPre (l : List Pl) (k : Nat) : Prop := (∀ p ∈ l.take k, pv p = true) ∧ Asc (l.take k)
theorem ppre_zero (l : List Pl) : PPre l 0 := by simp [PPre, Asc]
theorem ppre_succ {l : List Pl} {k : Nat} (hk : k < l.length) (h : PPre l k) (hv : pv l[k] = true) (hb : ∀ h0 : 0 < k, bl (l[k - 1]'(by omega)).1 l[k].1 = true) : PPre l (k + 1) := by
  unfold PPre at *
  rw [Bal.take_succ_get l k hk]
  refine ⟨fun p hp => ?_, ?_⟩
  · rcases List.mem_append.1 hp with hp | hp
    · exact h.1 p hp
    · rw [List.mem_singleton.1 hp]; exact hv
  · unfold Asc
    rw [List.pairwise_append]
    refine ⟨h.2, List.pairwise_singleton _ _, fun p hp q hq => ?_⟩
    rw [List.mem_singleton.1 hq]
    obtain ⟨i, hi, rfl⟩ := List.getElem_of_mem hp
    have hik : i < k := by simp at hi; omega
    have hb' := hb (by omega)
    rw [List.getElem_take]
    by_cases e : i = k - 1
    · subst e; exact hb'
    · have h2 := h.2
      unfold Asc at h2
      rw [List.pairwise_iff_getElem] at h2
      have := h2 i (k - 1) (by simp; omega) (by simp; omega) (by omega)
      rw [List.getElem_take, List.getElem_take] at this
      exact bl_trans this hb'
theorem ppre_all {l : List Pl} (h : PPre l l.length) : plv l = decide (l.length ≤ 12) := by
  unfold PPre at h
  rw [List.take_length] at h
  by_cases h12 : l.length ≤ 12
  · rw [plv_iff.2 ⟨h.1, h.2, h12⟩]; simp [h12]
  · cases hp : plv l with
    | false => simp [h12]
    | true => exact absurd (plv_iff.1 hp).2.2 h12
theorem plv_bad {l : List Pl} {k : Nat} (hk : k < l.length) (h : pv l[k] = false) : plv l = false := by
  cases hp : plv l with
  | false => rfl
  | true => have := (plv_iff.1 hp).1 l[k] (List.getElem_mem hk); rw [h] at this; cases this
theorem plv_desc {l : List Pl} {k : Nat} (hk : k < l.length) (h0 : 0 < k) (h : bl (l[k - 1]'(by omega)).1 l[k].1 = false) : plv l = false := by
  cases hp : plv l with
  | false => rfl
  | true =>
    have h2 := (plv_iff.1 hp).2.1
    unfold Asc at h2
    rw [List.pairwise_iff_getElem] at h2
    have := h2 (k - 1) k (by omega) hk (by omega)
    rw [h] at this; cases this

/-! ballots put to their pile -/
def put : List Pl → ByteArray → Int → List Pl
  | [], t, m => [(t, m)]
  | p :: l, t, m => if bl p.1 t = true then p :: put l t m else if p.1 = t then (t, p.2 + m) :: l else (t, m) :: p :: l
def sumAt (l : List Pl) (u : ByteArray) : Int := match l with
  | [] => 0
  | p :: l => (if p.1 = u then p.2 else 0) + sumAt l u
def has (l : List Pl) (u : ByteArray) : Prop := ∃ p ∈ l, p.1 = u
def total : List Pl → Int
  | [] => 0
  | p :: l => p.2 + total l

theorem has_nil (u : ByteArray) : ¬ has [] u := by simp [has]
theorem has_cons {p : Pl} {l : List Pl} {u : ByteArray} : has (p :: l) u ↔ p.1 = u ∨ has l u := by simp [has]
theorem has_put : ∀ (l : List Pl) (t : ByteArray) (m : Int) (u : ByteArray), has (put l t m) u ↔ t = u ∨ has l u
  | [], t, m, u => by simp [put, has]
  | p :: l, t, m, u => by
    unfold put
    split
    · rw [has_cons, has_put l t m u, has_cons]
      constructor
      · rintro (h | h | h) <;> simp [h]
      · rintro (h | h | h) <;> simp [h]
    · split
      · rename_i h1 h2
        rw [has_cons, has_cons]
        simp only
        rw [h2]
        constructor
        · rintro (h | h) <;> simp [h]
        · rintro (h | h | h) <;> simp [h]
      · rw [has_cons]
theorem sumAt_put : ∀ (l : List Pl) (t : ByteArray) (m : Int) (u : ByteArray), sumAt (put l t m) u = sumAt l u + if t = u then m else 0
  | [], t, m, u => by simp [put, sumAt]
  | p :: l, t, m, u => by
    unfold put
    split
    · simp only [sumAt]
      rw [sumAt_put l t m u]
      omega
    · split
      · rename_i h1 h2
        simp only [sumAt]
        subst h2
        split <;> omega
      · simp only [sumAt]
        omega
theorem total_put : ∀ (l : List Pl) (t : ByteArray) (m : Int), total (put l t m) = total l + m
  | [], t, m => by simp [put, total]
  | p :: l, t, m => by
    unfold put
    split
    · simp only [total]; rw [total_put l t m]; omega
    · split
      · simp only [total]; omega
      · simp only [total]; omega
theorem asc_cons {p : Pl} {l : List Pl} : Asc (p :: l) ↔ (∀ q ∈ l, bl p.1 q.1 = true) ∧ Asc l := List.pairwise_cons
theorem asc_put : ∀ (l : List Pl) (t : ByteArray) (m : Int), Asc l → Asc (put l t m)
  | [], t, m, _ => by simp [put, Asc]
  | p :: l, t, m, h => by
    obtain ⟨h1, h2⟩ := asc_cons.1 h
    unfold put
    split
    · rename_i hp
      refine asc_cons.2 ⟨fun q hq => ?_, asc_put l t m h2⟩
      rcases (has_put l t m q.1).1 ⟨q, hq, rfl⟩ with e | ⟨r, hr, e⟩
      · rw [← e]; exact hp
      · rw [← e]; exact h1 r hr
    · split
      · rename_i hn he
        exact asc_cons.2 ⟨fun q hq => by show bl t q.1 = true; rw [← he]; exact h1 q hq, h2⟩
      · rename_i hn he
        have hp : bl t p.1 = true := by
          rcases bl_tri p.1 t with e | e | e
          · exact absurd e hn
          · exact absurd e he
          · exact e
        refine asc_cons.2 ⟨fun q hq => ?_, h⟩
        rcases List.mem_cons.1 hq with rfl | hq
        · exact hp
        · exact bl_trans hp (h1 q hq)
theorem sumAt_not : ∀ {l : List Pl} {u : ByteArray}, ¬ has l u → sumAt l u = 0
  | [], _, _ => rfl
  | p :: l, u, h => by
    rw [has_cons, not_or] at h
    simp only [sumAt]
    rw [if_neg h.1, sumAt_not h.2]; rfl
/-- an ascending list of piles is told by its texts and its sums -/
theorem asc_ext : ∀ {l l' : List Pl}, Asc l → Asc l' → (∀ u, has l u ↔ has l' u) → (∀ u, sumAt l u = sumAt l' u) → l = l'
  | [], [], _, _, _, _ => rfl
  | [], p :: l', _, _, hh, _ => absurd ((hh p.1).2 (has_cons.2 (.inl rfl))) (has_nil _)
  | p :: l, [], _, _, hh, _ => absurd ((hh p.1).1 (has_cons.2 (.inl rfl))) (has_nil _)
  | p :: l, q :: l', h, h', hh, hs => by
    obtain ⟨h1, h2⟩ := asc_cons.1 h
    obtain ⟨h1', h2'⟩ := asc_cons.1 h'
    have np : ¬ has l p.1 := fun ⟨r, hr, e⟩ => bl_ne (h1 r hr) e.symm
    have nq : ¬ has l' q.1 := fun ⟨r, hr, e⟩ => bl_ne (h1' r hr) e.symm
    have e1 : p.1 = q.1 := by
      rcases has_cons.1 ((hh p.1).1 (has_cons.2 (.inl rfl))) with e | ⟨r, hr, e⟩
      · exact e.symm
      · rcases has_cons.1 ((hh q.1).2 (has_cons.2 (.inl rfl))) with e' | ⟨s, hs', e'⟩
        · exact e'
        · have a := h1' r hr
          have b := h1 s hs'
          rw [e] at a; rw [e'] at b
          have := bl_asymm a
          rw [b] at this; cases this
    have e2 : p.2 = q.2 := by
      have np' : ¬ has l q.1 := e1 ▸ np
      have t : p.2 + sumAt l q.1 = q.2 + sumAt l' q.1 := by have := hs q.1; simpa [sumAt, e1] using this
      rw [sumAt_not np', sumAt_not nq] at t
      omega
    have e3 : p = q := Prod.ext e1 e2
    subst e3
    rw [asc_ext h2 h2' (fun u => ?_) (fun u => ?_)]
    · have := hh u
      rw [has_cons, has_cons] at this
      constructor
      · intro hu
        rcases this.1 (.inr hu) with e | hu'
        · subst e; exact absurd hu np
        · exact hu'
      · intro hu
        rcases this.2 (.inr hu) with e | hu'
        · subst e; exact absurd hu nq
        · exact hu'
    · have := hs u
      simp only [sumAt] at this
      omega

/-! lists of piles merged -/
def merge (a b : List Pl) : List Pl := b.foldl (fun l p => put l p.1 p.2) a
theorem merge_nil (a : List Pl) : merge a [] = a := rfl
theorem merge_cons (a : List Pl) (p : Pl) (b : List Pl) : merge a (p :: b) = merge (put a p.1 p.2) b := rfl
theorem merge_append (a b c : List Pl) : merge a (b ++ c) = merge (merge a b) c := by simp [merge]
theorem merge_snoc (a b : List Pl) (p : Pl) : merge a (b ++ [p]) = put (merge a b) p.1 p.2 := by simp [merge]
theorem asc_merge : ∀ {b a : List Pl}, Asc a → Asc (merge a b)
  | [], _, h => h
  | p :: b, a, h => asc_merge (b := b) (asc_put a p.1 p.2 h)
theorem has_merge : ∀ (b a : List Pl) (u : ByteArray), has (merge a b) u ↔ has a u ∨ has b u
  | [], a, u => by simp [merge, has]
  | p :: b, a, u => by
    rw [merge_cons, has_merge b, has_put, has_cons]
    constructor
    · rintro ((h | h) | h) <;> simp [h]
    · rintro (h | h | h) <;> simp [h]
theorem sumAt_merge : ∀ (b a : List Pl) (u : ByteArray), sumAt (merge a b) u = sumAt a u + sumAt b u
  | [], a, u => by simp [merge, sumAt]
  | p :: b, a, u => by
    rw [merge_cons, sumAt_merge b, sumAt_put]
    simp only [sumAt]
    omega
theorem total_merge : ∀ (b a : List Pl), total (merge a b) = total a + total b
  | [], a => by simp [merge, total]
  | p :: b, a => by
    rw [merge_cons, total_merge b, total_put]
    simp only [total]
    omega
theorem merge_comm {a b : List Pl} (ha : Asc a) (hb : Asc b) : merge a b = merge b a :=
  asc_ext (asc_merge ha) (asc_merge hb) (fun u => by rw [has_merge, has_merge]; exact or_comm) (fun u => by rw [sumAt_merge, sumAt_merge]; omega)
theorem merge_self {a : List Pl} (ha : Asc a) : merge [] a = a :=
  asc_ext (asc_merge (by simp [Asc])) ha (fun u => by rw [has_merge]; simp [has_nil]) (fun u => by rw [sumAt_merge]; simp [sumAt])
/-- what impl's pilesOf makes of all piles of its lists -/
theorem gather_two {a b : List Pl} (ha : Asc a) : merge [] (a ++ b) = merge a b := by rw [merge_append, merge_self ha]

theorem sumAt_append (a b : List Pl) (u : ByteArray) : sumAt (a ++ b) u = sumAt a u + sumAt b u := by
  induction a with
  | nil => simp [sumAt]
  | cons p a ih => simp only [List.cons_append, sumAt]; omega
theorem has_append (a b : List Pl) (u : ByteArray) : has (a ++ b) u ↔ has a u ∨ has b u := by
  simp only [has, List.mem_append]
  constructor
  · rintro ⟨p, h | h, e⟩
    · exact .inl ⟨p, h, e⟩
    · exact .inr ⟨p, h, e⟩
  · rintro (⟨p, h, e⟩ | ⟨p, h, e⟩)
    · exact ⟨p, .inl h, e⟩
    · exact ⟨p, .inr h, e⟩
/-- the piles made of the keys of a map of sums, in order -/
theorem gather_keys {es : List Pl} {ks : List ByteArray} (hs : ks.Pairwise fun x y => bl x y = true) (hk : ∀ u, u ∈ ks ↔ has es u) : ks.map (fun u => (u, sumAt es u)) = merge [] es := by
  have hA : Asc (ks.map fun u => (u, sumAt es u)) := by
    unfold Asc; rw [List.pairwise_map]; exact hs
  have hn : ks.Nodup := hs.imp fun h => bl_ne h
  have hh : ∀ u, has (ks.map fun u => (u, sumAt es u)) u ↔ u ∈ ks := by
    intro u
    constructor
    · rintro ⟨p, hp, e⟩
      obtain ⟨x, hx, rfl⟩ := List.mem_map.1 hp
      exact e ▸ hx
    · intro hu
      exact ⟨_, List.mem_map.2 ⟨u, hu, rfl⟩, rfl⟩
  have hsum : ∀ (l : List ByteArray), l.Nodup → ∀ u, (u ∈ l → sumAt (l.map fun u => (u, sumAt es u)) u = sumAt es u) ∧ (¬ u ∈ l → sumAt (l.map fun u => (u, sumAt es u)) u = 0) := by
    intro l
    induction l with
    | nil => intro _ u; simp [sumAt]
    | cons x l ih =>
      intro hn u
      obtain ⟨h1, h2⟩ := List.nodup_cons.1 hn
      obtain ⟨i1, i2⟩ := ih h2 u
      simp only [List.map_cons, sumAt]
      by_cases e : x = u
      · subst e
        refine ⟨fun _ => ?_, fun hc => absurd (List.mem_cons_self ..) hc⟩
        rw [if_pos rfl, i2 h1]; omega
      · rw [if_neg e]
        refine ⟨fun hm => ?_, fun hc => ?_⟩
        · rcases List.mem_cons.1 hm with h | h
          · exact absurd h.symm e
          · rw [i1 h]; omega
        · rw [i2 fun h => hc (List.mem_cons_of_mem _ h)]; omega
  refine asc_ext hA (asc_merge (by simp [Asc])) (fun u => ?_) (fun u => ?_)
  · rw [hh, hk, has_merge]; simp [has_nil]
  · rw [sumAt_merge]
    by_cases hu : u ∈ ks
    · rw [(hsum ks hn u).1 hu]; simp [sumAt]
    · rw [(hsum ks hn u).2 hu, sumAt_not (fun h => hu ((hk u).2 h))]; simp [sumAt]

/-! l3Put's loop -/
def PutPre (l : List Pl) (t : ByteArray) (k : Nat) : Prop := ∀ i (h : i < l.length), i < k → bl l[i].1 t = true
theorem put_at : ∀ {l : List Pl} {t : ByteArray} {k : Nat} (m : Int), k ≤ l.length → PutPre l t k → (∀ h : k < l.length, bl l[k].1 t = false) →
    put l t m = if h : k < l.length then (if l[k].1 = t then l.set k (t, l[k].2 + m) else l.take k ++ (t, m) :: l.drop k) else l ++ [(t, m)]
  | [], t, k, m, hk, _, _ => by simp [put]
  | p :: l, t, 0, m, _, _, h0 => by
    have hb := h0 (by simp)
    simp at hb
    unfold put
    rw [if_neg (by rw [hb]; simp)]
    simp
  | p :: l, t, k + 1, m, hk, hp, h0 => by
    have hb := hp 0 (by simp) (by omega)
    simp at hb
    unfold put
    rw [if_pos hb, put_at (l := l) (k := k) m (by simpa using hk) (fun i hi hik => by have := hp (i + 1) (by simpa using hi) (by omega); simpa using this) (fun h => by have := h0 (by simpa using h); simpa using this)]
    by_cases h : k < l.length
    · have h' : k + 1 < (p :: l).length := by simpa using h
      rw [dif_pos h, dif_pos h']
      simp only [List.getElem_cons_succ]
      split <;> simp
    · have h' : ¬ k + 1 < (p :: l).length := by simpa using h
      rw [dif_neg h, dif_neg h']
      simp
theorem put_len (l : List Pl) (t : ByteArray) (m : Int) : (put l t m).length ≤ l.length + 1 := by
  induction l with
  | nil => simp [put]
  | cons p l ih =>
    unfold put
    split
    · simp; omega
    · split <;> simp

/-! the laws -/
def padd (l : List Pl) (t : ByteArray) (m : Int) : Option (List Pl) := if plv l && pv (t, m) && plv (put l t m) then some (put l t m) else none
def pmerge (a b : List Pl) : Option (List Pl) := if plv a && plv b && plv (merge a b) then some (merge a b) else none
def ptot (l : List Pl) : Int := if plv l then total l else -1
theorem pv_pos {p : Pl} (h : pv p = true) : 1 ≤ p.2 ∧ p.2 ≤ 99 := (pv_iff.1 h).2
theorem total_bound {l : List Pl} (h : ∀ p ∈ l, pv p = true) : 0 ≤ total l ∧ total l ≤ 99 * l.length := by
  induction l with
  | nil => simp [total]
  | cons p l ih =>
    have h1 := pv_pos (h p (List.mem_cons_self ..))
    have h2 := ih fun q hq => h q (List.mem_cons_of_mem _ hq)
    simp only [total, List.length_cons]
    omega
theorem plv_total {l : List Pl} (h : plv l = true) : 0 ≤ total l ∧ total l ≤ 1188 := by
  obtain ⟨h1, _, h3⟩ := plv_iff.1 h
  have := total_bound h1
  omega

theorem sumAt_pos {l : List Pl} {u : ByteArray} (h : ∀ p ∈ l, pv p = true) : 0 ≤ sumAt l u ∧ (has l u → 1 ≤ sumAt l u) := by
  induction l with
  | nil => exact ⟨Int.le_refl _, fun h => absurd h (has_nil _)⟩
  | cons p l ih =>
    have h1 := pv_pos (h p (List.mem_cons_self ..))
    have h2 := ih fun q hq => h q (List.mem_cons_of_mem _ hq)
    simp only [sumAt]
    refine ⟨by split <;> omega, fun hu => ?_⟩
    rcases has_cons.1 hu with e | hu
    · rw [if_pos e]; omega
    · have := h2.2 hu; split <;> omega
/-- of an ascending list each pile's number is its text's sum -/
theorem asc_sum {l : List Pl} (h : Asc l) : ∀ p ∈ l, sumAt l p.1 = p.2 := by
  induction l with
  | nil => simp
  | cons q l ih =>
    obtain ⟨h1, h2⟩ := asc_cons.1 h
    intro p hp
    simp only [sumAt]
    rcases List.mem_cons.1 hp with rfl | hp
    · rw [if_pos rfl, sumAt_not (fun ⟨r, hr, e⟩ => bl_ne (h1 r hr) e.symm)]; omega
    · rw [if_neg (bl_ne (h1 p hp)), ih h2 p hp]; omega
theorem asc_nodup {l : List Pl} (h : Asc l) : (l.map Prod.fst).Nodup := by
  unfold Asc at h
  rw [List.nodup_iff_pairwise_ne, List.pairwise_map]
  exact h.imp fun h => bl_ne h
theorem asc_len {l l' : List Pl} (h : Asc l) (hs : ∀ u, has l u → has l' u) : l.length ≤ l'.length := by
  have h1 := asc_nodup h
  have h2 : ∀ u ∈ l.map Prod.fst, u ∈ l'.map Prod.fst := by
    intro u hu
    obtain ⟨p, hp, e⟩ := List.mem_map.1 hu
    obtain ⟨q, hq, e'⟩ := hs u ⟨p, hp, e⟩
    exact List.mem_map.2 ⟨q, hq, e'⟩
  have := List.Nodup.length_le_of_subset h1 h2
  simpa using this
/-- what lies within valid piles is valid -/
theorem plv_within {l l' : List Pl} (hv : plv l' = true) (ha : Asc l) (hh : ∀ u, has l u → has l' u) (hs : ∀ u, has l u → 1 ≤ sumAt l u ∧ sumAt l u ≤ sumAt l' u) : plv l = true := by
  obtain ⟨h1, h2, h3⟩ := plv_iff.1 hv
  refine plv_iff.2 ⟨fun p hp => ?_, ha, Nat.le_trans (asc_len ha hh) h3⟩
  have hu : has l p.1 := ⟨p, hp, rfl⟩
  obtain ⟨q, hq, e⟩ := hh p.1 hu
  have e1 := asc_sum ha p hp
  have e2 := asc_sum h2 q hq
  have hb := hs p.1 hu
  rw [e] at e2
  have hqv := pv_iff.1 (h1 q hq)
  rw [e] at hqv
  exact pv_iff.2 ⟨hqv.1, by omega, by omega⟩
/-- a part of the piles merged first -/
theorem merge_part {a b c : List Pl} (ha : plv a = true) (hb : ∀ p ∈ b, pv p = true) (hc : ∀ p ∈ c, pv p = true) (hm : plv (merge a (b ++ c)) = true) : plv (merge a b) = true := by
  obtain ⟨h1, h2, _⟩ := plv_iff.1 ha
  refine plv_within hm (asc_merge h2) (fun u hu => ?_) (fun u hu => ?_)
  · rw [has_merge] at hu ⊢
    rcases hu with hu | hu
    · exact .inl hu
    · exact .inr ((has_append b c u).2 (.inl hu))
  · rw [has_merge] at hu
    rw [sumAt_merge, sumAt_merge, sumAt_append]
    have pa := sumAt_pos (u := u) h1
    have pb := sumAt_pos (u := u) hb
    have pc := sumAt_pos (u := u) hc
    refine ⟨?_, by omega⟩
    rcases hu with hu | hu
    · have := pa.2 hu; omega
    · have := pb.2 hu; omega
theorem plv_take {l : List Pl} (h : plv l = true) (k : Nat) : plv (l.take k) = true := by
  obtain ⟨h1, h2, h3⟩ := plv_iff.1 h
  exact plv_iff.2 ⟨fun p hp => h1 p (List.mem_of_mem_take hp), h2.sublist (List.take_sublist k l), by simp; omega⟩
theorem plv_drop {l : List Pl} (h : plv l = true) (k : Nat) : plv (l.drop k) = true := by
  obtain ⟨h1, h2, h3⟩ := plv_iff.1 h
  exact plv_iff.2 ⟨fun p hp => h1 p (List.mem_of_mem_drop hp), h2.sublist (List.drop_sublist k l), by simp; omega⟩
theorem plv_erase {l : List Pl} (h : plv l = true) (k : Nat) : plv (l.take k ++ l.drop (k + 1)) = true := by
  obtain ⟨h1, h2, h3⟩ := plv_iff.1 h
  have hs : (l.take k ++ l.drop (k + 1)).Sublist l := by
    rw [← List.eraseIdx_eq_take_drop_succ]; exact List.eraseIdx_sublist l k
  exact plv_iff.2 ⟨fun p hp => h1 p (hs.subset hp), h2.sublist hs, Nat.le_trans hs.length_le h3⟩
theorem plv_double {l : List Pl} {k : Nat} (hk : k < l.length) : plv (l.take (k + 1) ++ l.drop k) = false := by
  cases hp : plv (l.take (k + 1) ++ l.drop k) with
  | false => rfl
  | true =>
    have h2 := (plv_iff.1 hp).2.1
    unfold Asc at h2
    rw [List.pairwise_append] at h2
    have a : l[k] ∈ l.take (k + 1) := by rw [Bal.take_succ_get l k hk]; exact List.mem_append_right _ (List.mem_singleton_self _)
    have b : l[k] ∈ l.drop k := by rw [List.drop_eq_getElem_cons hk]; exact List.mem_cons_self ..
    have := h2.2.2 _ a _ b
    rw [bl_irrefl] at this; cases this
theorem put_two (l : List Pl) (t : ByteArray) (a b : Int) (h : Asc l) : put (put l t a) t b = put l t (a + b) :=
  asc_ext (asc_put _ _ _ (asc_put _ _ _ h)) (asc_put _ _ _ h) (fun u => by rw [has_put, has_put, has_put]; exact ⟨fun h => h.elim .inl (fun h => h), fun h => .inr h⟩) (fun u => by rw [sumAt_put, sumAt_put, sumAt_put]; split <;> omega)
end Go.Proofs.Ytlfgmljgoolbeaa.Pil
