/- Plain facts on ballots and lots: what their functions give. No program stands here. -/
import Derived.Test.YtnolnlhoedafcaaBaPlain
import Derived.Lib.Slices
namespace Go.Proofs.Ytnolnlhoedafcaa.Bal

/-! texts -/
def letter (c : Int) : UInt8 := UInt8.ofNat (97 + c).toNat
def letters (b : List Int) : List UInt8 := b.map letter
def text (b : List Int) : List UInt8 := if bv b 5 then letters b else []
def num (c : UInt8) : Int := (c.toNat : Int) - 97
def nums (t : List UInt8) : List Int := t.map num
def okT (t : List UInt8) : Bool := bv (nums t) 5
def parse (t : List UInt8) : List Int := if okT t then nums t else []

theorem num_letter {c : Int} (h0 : 0 ≤ c) (h1 : c < 5) : num (letter c) = c := by
  unfold num letter
  have : ((UInt8.ofNat (97 + c).toNat).toNat : Int) = 97 + c := by
    rw [UInt8.toNat_ofNat']
    omega
  omega
theorem letter_num {c : UInt8} (h0 : 0 ≤ num c) : letter (num c) = c := by
  unfold num at h0
  unfold letter num
  have h : (97 + ((c.toNat : Int) - 97)).toNat = c.toNat := by omega
  rw [h]
  exact UInt8.ofNat_toNat
theorem nums_letters : ∀ {b : List Int}, (∀ c, c ∈ b → 0 ≤ c ∧ c < 5) → nums (letters b) = b
  | [], _ => rfl
  | c :: b, h => by
    have h1 := h c (by simp)
    have ih := nums_letters (b := b) (fun x hx => h x (by simp [hx]))
    unfold nums letters at ih ⊢
    simp only [List.map_cons, ih, num_letter h1.1 h1.2]
theorem letters_nums : ∀ {t : List UInt8}, (∀ c, c ∈ nums t → 0 ≤ c ∧ c < 5) → letters (nums t) = t
  | [], _ => rfl
  | c :: t, h => by
    have h1 := h (num c) (by simp [nums])
    have ih := letters_nums (t := t) (fun x hx => h x (by unfold nums at hx ⊢; simp only [List.map_cons, List.mem_cons]; exact .inr hx))
    unfold nums letters at ih ⊢
    simp only [List.map_cons, ih, letter_num h1.1]
theorem text_t {b : List Int} (h : bv b 5 = true) : text b = letters b := by unfold text; rw [if_pos h]
theorem text_f {b : List Int} (h : bv b 5 = false) : text b = [] := by unfold text; rw [h]; rfl
theorem parse_text {b : List Int} (h : bv b 5 = true) : okT (text b) = true ∧ parse (text b) = b ∧ (text b).length = b.length := by
  have h1 := (bv_iff.1 h).2.1
  have h2 : nums (text b) = b := by rw [text_t h, nums_letters h1]
  have h3 : okT (text b) = true := by unfold okT; rw [h2]; exact h
  refine ⟨h3, ?_, ?_⟩
  · unfold parse; rw [h3]; exact h2
  · rw [text_t h]; simp [letters]
theorem text_parse {t : List UInt8} (h : okT t = true) : text (parse t) = t ∧ bv (parse t) 5 = true := by
  have h1 : parse t = nums t := by unfold parse; rw [h]; rfl
  have h2 : bv (nums t) 5 = true := h
  rw [h1]
  exact ⟨by rw [text_t h2, letters_nums (bv_iff.1 h2).2.1], h2⟩
theorem okT_len {t : List UInt8} (h : okT t = true) : t.length ≤ 5 := by
  have := bv_len (bv_iff.1 h)
  unfold nums at this
  rw [List.length_map] at this
  omega
theorem not_ok_long {t : List UInt8} (h : 5 < t.length) : okT t = false := by
  cases h1 : okT t with
  | false => rfl
  | true => have := okT_len h1; omega
theorem parse_t {t : List UInt8} (h : okT t = true) : parse t = nums t := by unfold parse; rw [h]; rfl
theorem parse_f {t : List UInt8} (h : okT t = false) : parse t = [] := by unfold parse; rw [h]; rfl
theorem parse_len (t : List UInt8) : (parse t).length ≤ 5 := by
  cases h : okT t with
  | false => rw [parse_f h]; simp
  | true => rw [parse_t h]; have := okT_len h; simpa [nums] using this
/-- a letter twice, or a letter that is none -/
theorem twice_not_ok {t : List UInt8} (c : UInt8) (r : List UInt8) (h : t = c :: r) : okT (t ++ [c]) = false := by
  subst h
  unfold okT
  apply bv_f
  rintro ⟨_, _, h3⟩
  unfold nums at h3
  simp at h3
theorem f_not_ok (t : List UInt8) : okT (t ++ [102]) = false := by
  unfold okT
  apply bv_f
  rintro ⟨_, h2, _⟩
  have := h2 (num 102) (by unfold nums; simp)
  revert this
  decide

/-! who is first -/
theorem find_hit {p : Int → Bool} {b : List Int} {k : Nat} (hk : k < b.length) (h : (b.take k).find? p = none) (hp : p b[k] = true) : b.find? p = some b[k] := by
  have e : b.take k ++ b[k] :: b.drop (k + 1) = b := by rw [List.getElem_cons_drop, List.take_append_drop]
  have h2 : (b.take k ++ b[k] :: b.drop (k + 1)).find? p = some b[k] := by
    rw [List.find?_append, h, List.find?_cons_of_pos hp]
    rfl
  rwa [e] at h2
theorem find_step {p : Int → Bool} {b : List Int} {k : Nat} (hk : k < b.length) (h : (b.take k).find? p = none) (hp : p b[k] = false) : (b.take (k + 1)).find? p = none := by
  rw [take_succ_get b k hk, List.find?_append, h]
  simp [hp]
theorem find_end {p : Int → Bool} {b : List Int} {k : Nat} (hk : k = b.length) (h : (b.take k).find? p = none) : b.find? p = none := by
  subst hk
  rwa [List.take_length] at h

def here (left : List Bool) (c : Int) : Bool := !left.getD c.toNat false
def first (b : List Int) (left : List Bool) : Int := (b.find? (here left)).getD (-1)
def bfirst (b : List Int) (left : List Bool) : Int := if bv b left.length then first b left else -1

def there (some : List Bool) (c : Int) : Bool := some.getD c.toNat false
def lotFirst (b : List Int) (some : List Bool) : Int := (b.find? (there some)).getD (-1)
def lfirst (b : List Int) (some : List Bool) : Int := if bv b b.length && decide (some.length = b.length) then lotFirst b some else -1
theorem bfirst_t {b : List Int} {left : List Bool} {n : Int} (hn : n = left.length) (h : bv b n = true) : bfirst b left = first b left := by subst hn; unfold bfirst; rw [if_pos h]
theorem bfirst_f {b : List Int} {left : List Bool} {n : Int} (hn : n = left.length) (h : bv b n = false) : bfirst b left = -1 := by subst hn; unfold bfirst; rw [h]; rfl
theorem lfirst_t {b : List Int} {some : List Bool} {n : Int} (hn : n = b.length) (h : bv b n = true) (hl : some.length = b.length) : lfirst b some = lotFirst b some := by subst hn; unfold lfirst; rw [h, decide_eq_true hl]; rfl
theorem lfirst_f {b : List Int} {some : List Bool} {n : Int} (hn : n = b.length) (h : bv b n = false) : lfirst b some = -1 := by subst hn; unfold lfirst; rw [h]; rfl
theorem lfirst_n {b : List Int} {some : List Bool} (hl : ¬ some.length = b.length) : lfirst b some = -1 := by unfold lfirst; rw [decide_eq_false hl, Bool.and_false]; rfl
theorem getD_some {o : Option Int} {c : Int} (h : o = some c) : o.getD (-1) = c := by rw [h]; rfl
theorem getD_none {o : Option Int} (h : o = none) : o.getD (-1) = -1 := by rw [h]; rfl

def sel (x y : Int) (c : Int) : Bool := c == x || c == y
def pref (b : List Int) (x y : Int) : Bool := bv b 5 && (x != y && (b.find? (sel x y) == some x))

theorem idx_ge (y : Int) : ∀ (b : List Int) (i : Nat), Lib.idxFrom b y i = -1 ∨ (i : Int) ≤ Lib.idxFrom b y i
  | [], i => .inl rfl
  | z :: b, i => by
    unfold Lib.idxFrom
    split
    · right; exact Int.le_refl _
    · rcases idx_ge y b (i + 1) with h | h
      · exact .inl h
      · right; omega
theorem pref_from (x y : Int) (hne : x ≠ y) : ∀ (b : List Int) (i : Nat), (0 ≤ Lib.idxFrom b x i ∧ (Lib.idxFrom b y i < 0 ∨ Lib.idxFrom b x i < Lib.idxFrom b y i)) ↔ b.find? (sel x y) = some x
  | [], i => by simp [Lib.idxFrom]
  | z :: b, i => by
    by_cases hx : z = x
    · subst hx
      have h1 : sel z y z = true := by simp [sel]
      rw [List.find?_cons_of_pos h1]
      have h2 : Lib.idxFrom (z :: b) z i = i := by simp [Lib.idxFrom]
      have h3 : Lib.idxFrom (z :: b) y i = Lib.idxFrom b y (i + 1) := by simp [Lib.idxFrom, hne]
      rw [h2, h3]
      rcases idx_ge y b (i + 1) with h | h
      · simp [h]
      · simp; omega
    · by_cases hy : z = y
      · subst hy
        have h1 : sel x z z = true := by simp [sel]
        rw [List.find?_cons_of_pos h1]
        have h2 : Lib.idxFrom (z :: b) z i = i := by simp [Lib.idxFrom]
        have h3 : Lib.idxFrom (z :: b) x i = Lib.idxFrom b x (i + 1) := by simp [Lib.idxFrom, hx]
        rw [h2, h3]
        rcases idx_ge x b (i + 1) with h | h
        · simp [h, hx]
        · simp [hx]; omega
      · have h1 : ¬ sel x y z = true := by simp [sel, hx, hy]
        rw [List.find?_cons_of_neg h1]
        have h2 : Lib.idxFrom (z :: b) x i = Lib.idxFrom b x (i + 1) := by simp [Lib.idxFrom, hx]
        have h3 : Lib.idxFrom (z :: b) y i = Lib.idxFrom b y (i + 1) := by simp [Lib.idxFrom, hy]
        rw [h2, h3]
        exact pref_from x y hne b (i + 1)
theorem pref_idx {b : List Int} {x y : Int} (hb : bv b 5 = true) (hne : x ≠ y) :
    pref b x y = decide (0 ≤ Lib.idxOf b x ∧ (Lib.idxOf b y < 0 ∨ Lib.idxOf b x < Lib.idxOf b y)) := by
  have h := pref_from x y hne b 0
  unfold pref Lib.idxOf
  have hxy : (x != y) = true := by simpa using hne
  rw [hb, hxy, Bool.true_and, Bool.true_and, Bool.eq_iff_iff, decide_eq_true_iff, h]
  simp

theorem pref_f {b : List Int} (x y : Int) (hb : bv b 5 = false) : pref b x y = false := by simp [pref, hb]
theorem pref_eq (b : List Int) (x : Int) : pref b x x = false := by simp [pref]
theorem pref_none {b : List Int} {x y : Int} (h : b.find? (sel x y) = none) : pref b x y = false := by simp [pref, h]
theorem pref_some {b : List Int} {x y c : Int} (hb : bv b 5 = true) (hne : x ≠ y) (h : b.find? (sel x y) = some c) : pref b x y = (c == x) := by
  have hxy : (x != y) = true := by simpa using hne
  rw [pref, hb, hxy, h]
  simp
theorem sel_comm (x y : Int) : sel x y = sel y x := by funext c; simp [sel, Bool.or_comm]
/-- a preference has one direction -/
theorem pref_one {b : List Int} {x y : Int} (h : pref b x y = true) : pref b y x = false := by
  unfold pref at h ⊢
  simp only [Bool.and_eq_true, bne_iff_ne, ne_eq, beq_iff_eq] at h
  rw [sel_comm y x, h.2.2]
  have : (some x == some y) = false := by simp [h.2.1]
  simp [this]

def bef (b : List Int) (x y : Int) : Bool := x != y && (b.find? (sel x y) == some x)
theorem find_sel {b : List Int} {x y : Int} (h : b.contains x = true) : b.find? (sel x y) = some x ∨ b.find? (sel x y) = some y := by
  have hm : x ∈ b := by simpa using h
  cases hf : b.find? (sel x y) with
  | none => exact absurd (List.find?_eq_none.1 hf x hm) (by simp [sel])
  | some c =>
    have hc := List.find?_some hf
    simp only [sel, Bool.or_eq_true, beq_iff_eq] at hc
    rcases hc with rfl | rfl
    · exact .inl rfl
    · exact .inr rfl
theorem find_mem {b : List Int} {x y : Int} (h : b.find? (sel x y) = some x) : b.contains x = true := by
  have := List.mem_of_find?_eq_some h
  simpa using this
/-- who is named is preferred to all behind -/
theorem pref_all {b : List Int} (x y : Int) (hb : bv b 5 = true) : pref b x y = (x != y && (b.contains x && !bef b y x)) := by
  by_cases hxy : x = y
  · subst hxy; simp [pref]
  · have h1 : (x != y) = true := by simpa using hxy
    have h2 : (y != x) = true := by simpa using Ne.symm hxy
    unfold pref bef
    rw [hb, h1, h2, sel_comm y x]
    simp only [Bool.true_and]
    cases hc : b.contains x with
    | false =>
      have : b.find? (sel x y) ≠ some x := fun h => by rw [find_mem h] at hc; cases hc
      simp [this]
    | true =>
      rcases find_sel (y := y) hc with h | h
      · rw [h]; simp; exact hxy
      · rw [h]; simp; exact Ne.symm hxy

/-! what a ballot may lose -/
theorem bv_erase {b : List Int} {n : Int} (h : bv b n = true) (k : Nat) : bv (b.take k ++ b.drop (k + 1)) n = true := by
  rw [bv_iff] at h ⊢
  obtain ⟨h1, h2, h3⟩ := h
  have hs : (b.take k ++ b.drop (k + 1)).Sublist b := by
    have : b.take k ++ b.drop (k + 1) = b.eraseIdx k := (List.eraseIdx_eq_take_drop_succ b k).symm
    rw [this]
    exact List.eraseIdx_sublist b k
  exact ⟨h1, fun c hc => h2 c (hs.subset hc), h3.sublist hs⟩
theorem bv_double {b : List Int} {n : Int} {k : Nat} (hk : k < b.length) : bv (b.take (k + 1) ++ b.drop k) n = false := by
  apply bv_f
  rintro ⟨_, _, h3⟩
  rw [List.nodup_append] at h3
  have h4 : b[k] ∈ b.take (k + 1) := by rw [take_succ_get b k hk]; exact List.mem_append_right _ (List.mem_singleton_self _)
  have h5 : b[k] ∈ b.drop k := by
    have e := List.getElem_cons_drop (as := b) (i := k) hk
    rw [← e]
    exact List.mem_cons_self
  exact h3.2.2 _ h4 _ h5 rfl
theorem bv_five {b : List Int} {n : Int} (h : bv b n = true) : bv b 5 = true := by
  rw [bv_iff] at h ⊢
  obtain ⟨h1, h2, h3⟩ := h
  exact ⟨by omega, fun c hc => by have := h2 c hc; omega, h3⟩
theorem bv_rev {b : List Int} {n : Int} (h : bv b n = true) : bv b.reverse n = true := by
  rw [bv_iff] at h ⊢
  obtain ⟨h1, h2, h3⟩ := h
  refine ⟨h1, fun c hc => h2 c (by simpa using hc), ?_⟩
  rw [List.nodup_iff_pairwise_ne] at h3 ⊢
  rw [List.pairwise_reverse]
  exact h3.imp fun h e => h e.symm
/-- the last one is the first one again -/
theorem bv_again {b : List Int} {n : Int} {k : Nat} (hk : 0 < k) (h0 : 0 < b.length) : bv (b.take k ++ [b[0]]) n = false := by
  apply bv_f
  rintro ⟨_, _, h3⟩
  rw [List.nodup_append] at h3
  have h4 : b[0] ∈ b.take k := by
    cases b with
    | nil => simp at h0
    | cons c b => obtain ⟨j, rfl⟩ : ∃ j, k = j + 1 := ⟨k - 1, by omega⟩; simp
  exact h3.2.2 _ h4 _ (by simp) rfl

/-! lots -/
def lotsGo : Nat → List Int → Nat → List Int
  | 0, _, _ => []
  | f + 1, left, s => left.getD (s % left.length) 0 :: lotsGo f (left.eraseIdx (s % left.length)) (s / left.length)
def upTo (n : Nat) : List Int := (List.range n).map Int.ofNat
def lotsOf (n s : Nat) : List Int := lotsGo n (upTo n) s
def lotsOk (n s : Int) : Bool := decide ((1 ≤ n ∧ n ≤ 5) ∧ (0 ≤ s ∧ s ≤ 999))
def lots (n s : Int) : List Int := if lotsOk n s then lotsOf n.toNat s.toNat else []

theorem lotsGo_len : ∀ (f : Nat) (l : List Int) (s : Nat), (lotsGo f l s).length = f
  | 0, _, _ => rfl
  | f + 1, l, s => by simp [lotsGo, lotsGo_len f]
theorem lotsOf_len (n s : Nat) : (lotsOf n s).length = n := lotsGo_len _ _ _
theorem upTo_len (n : Nat) : (upTo n).length = n := by simp [upTo]
theorem upTo_succ (n : Nat) : upTo (n + 1) = upTo n ++ [(n : Int)] := by simp [upTo, List.range_succ]

theorem lots_len (n s : Int) : (lots n s).length ≤ 5 := by
  unfold lots
  split
  · rename_i h
    unfold lotsOk at h
    simp only [decide_eq_true_eq] at h
    rw [lotsOf_len]
    omega
  · simp
theorem lots_t {n s : Int} (h : lotsOk n s = true) : lots n s = lotsOf n.toNat s.toNat := by unfold lots; rw [if_pos h]
theorem lots_f {n s : Int} (h : lotsOk n s = false) : lots n s = [] := by unfold lots; rw [h]; rfl
theorem lotsGo_step {f : Nat} {l o R : List Int} {s : Nat} (hf : 0 < f) (hl : l.length = f) (h : o ++ lotsGo f l s = R) : (o ++ [l.getD (s % f) 0]) ++ lotsGo (f - 1) (l.eraseIdx (s % f)) (s / f) = R := by
  obtain ⟨g, rfl⟩ : ∃ g, f = g + 1 := ⟨f - 1, by omega⟩
  rw [lotsGo, hl] at h
  rw [List.append_assoc]
  exact h
theorem lotsGo_end {l o R : List Int} {s : Nat} (h : o ++ lotsGo 0 l s = R) : o = R := by simpa [lotsGo] using h

def fact : Nat → Nat | 0 => 1 | n + 1 => (n + 1) * fact n
/-- all that the laws on lots ask, at every number and seed -/
def lotsFacts : Bool := (List.range 5).all fun m => (List.range 1000).all fun s =>
  bv (lotsOf (m + 1) s) ((m + 1 : Nat) : Int) && ((lotsOf (m + 1) s).getD 0 (-1) == ((s % (m + 1) : Nat) : Int)) && (decide (999 < s + fact (m + 1)) || (lotsOf (m + 1) (s + fact (m + 1)) == lotsOf (m + 1) s))
def swapSeed (n s : Nat) : Nat :=
  let d0 := s % n; let d1 := s / n % (n - 1); let r := s / n / (n - 1) % fact (n - 2)
  let o1 := if d1 < d0 then d1 else d1 + 1
  o1 + n * ((if d0 < o1 then d0 else d0 - 1) + (n - 1) * r)
def swapped : List Int → List Int
  | a :: b :: r => b :: a :: r
  | l => l
def swapFacts : Bool := (List.range 4).all fun m => (List.range 1000).all fun s =>
  decide (swapSeed (m + 2) s < 120) && (lotsOf (m + 2) (swapSeed (m + 2) s) == swapped (lotsOf (m + 2) s))
end Go.Proofs.Ytnolnlhoedafcaa.Bal
