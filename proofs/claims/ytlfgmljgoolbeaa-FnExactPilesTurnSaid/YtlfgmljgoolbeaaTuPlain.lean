/- Piles whose candidates are exchanged: plain facts. -/
import Derived.Test.YtlfgmljgoolbeaaPiPlain
namespace Go.Proofs.Ytlfgmljgoolbeaa.Tu
set_option linter.unusedSimpArgs false
set_option linter.unusedSectionVars false
open Go.Proofs.Ytlfgmljgoolbeaa

/-- a candidate after two were exchanged -/
def sw (x y c : Int) : Int := if c = x then y else if c = y then x else c
def sws (x y : Int) (b : List Int) : List Int := b.map (sw x y)
theorem sw_sw (x y c : Int) : sw x y (sw x y c) = c := by
  unfold sw
  by_cases h1 : c = x
  · subst h1; by_cases h2 : y = c <;> simp [h2]
  · by_cases h2 : c = y
    · subst h2; simp [h1]
    · simp [h1, h2]
theorem sw_same (x c : Int) : sw x x c = c := by
  unfold sw; by_cases h : c = x <;> simp [h]
theorem sws_sws (x y : Int) (b : List Int) : sws x y (sws x y b) = b := by
  unfold sws; rw [List.map_map]
  have : (sw x y ∘ sw x y) = id := by funext c; simp [sw_sw]
  rw [this, List.map_id]
theorem sws_same (x : Int) (b : List Int) : sws x x b = b := by
  unfold sws
  have : sw x x = id := by funext c; simp [sw_same]
  rw [this, List.map_id]
theorem sws_bv {x y : Int} {b : List Int} (hx : 0 ≤ x ∧ x < 5) (hy : 0 ≤ y ∧ y < 5) (h : Bal.bv b 5 = true) : Bal.bv (sws x y b) 5 = true := by
  rw [Bal.bv_iff] at h ⊢
  obtain ⟨h1, h2, h3⟩ := h
  refine ⟨h1, fun c hc => ?_, ?_⟩
  · obtain ⟨d, hd, rfl⟩ := List.mem_map.1 hc
    have := h2 d hd
    unfold sw
    by_cases e1 : d = x
    · simp [e1]; exact hy
    · by_cases e2 : d = y
      · simp [e1, e2]; split <;> omega
      · simp [e1, e2]; exact this
  · unfold sws
    refine List.Pairwise.map _ (fun a b hab e => hab ?_) h3
    have := congrArg (sw x y) e
    rwa [sw_sw, sw_sw] at this

/-- a text after two candidates were exchanged -/
def tt (x y : Int) (t : ByteArray) : ByteArray := ⟨(Bal.text (sws x y (Bal.parse t.data.toList))).toArray⟩
def turn (x y : Int) (ps : List Pil.Pl) : List Pil.Pl := ps.map fun p => (tt x y p.1, p.2)
def ok (t : ByteArray) : Prop := Bal.okT t.data.toList = true
theorem tt_ok {x y : Int} (hx : 0 ≤ x ∧ x < 5) (hy : 0 ≤ y ∧ y < 5) {t : ByteArray} (h : ok t) : ok (tt x y t) := by
  have := Bal.parse_text (sws_bv hx hy (Bal.text_parse h).2)
  exact this.1
theorem tt_tt {x y : Int} (hx : 0 ≤ x ∧ x < 5) (hy : 0 ≤ y ∧ y < 5) {t : ByteArray} (h : ok t) : tt x y (tt x y t) = t := by
  have h1 := Bal.text_parse h
  have h2 := Bal.parse_text (sws_bv hx hy h1.2)
  apply Pil.ba_ext
  unfold tt
  simp only
  rw [h2.2.1, sws_sws, h1.1]
theorem turn_len (x y : Int) (ps : List Pil.Pl) : (turn x y ps).length = ps.length := by simp [turn]
theorem turn_total (x y : Int) (ps : List Pil.Pl) : Pil.total (turn x y ps) = Pil.total ps := by
  induction ps with
  | nil => rfl
  | cons p ps ih => simp [turn, Pil.total] at ih ⊢; omega

theorem merge_len (b : List Pil.Pl) : ∀ a : List Pil.Pl, (Pil.merge a b).length ≤ a.length + b.length := by
  induction b with
  | nil => intro a; simp [Pil.merge_nil]
  | cons p b ih =>
    intro a
    rw [Pil.merge_cons]
    have h1 := ih (Pil.put a p.1 p.2)
    have h2 := Pil.put_len a p.1 p.2
    simp; omega
theorem sumAt_turn {x y : Int} {u v : ByteArray} : ∀ {ps : List Pil.Pl}, (∀ p ∈ ps, tt x y p.1 = u ↔ p.1 = v) → Pil.sumAt (turn x y ps) u = Pil.sumAt ps v := by
  intro ps
  induction ps with
  | nil => intro _; rfl
  | cons p ps ih =>
    intro h
    have h1 := h p (List.mem_cons_self ..)
    have h2 := ih fun q hq => h q (List.mem_cons_of_mem _ hq)
    have e : turn x y (p :: ps) = (tt x y p.1, p.2) :: turn x y ps := rfl
    rw [e]
    simp only [Pil.sumAt, h2, h1]

section
variable {x y : Int} (hx : 0 ≤ x ∧ x < 5) (hy : 0 ≤ y ∧ y < 5)
include hx hy
theorem tt_iff {t u : ByteArray} (ht : ok t) (hu : ok u) : tt x y t = tt x y u ↔ t = u :=
  ⟨fun e => by rw [← tt_tt hx hy ht, e, tt_tt hx hy hu], fun e => by rw [e]⟩
theorem has_turn {ps : List Pil.Pl} {u : ByteArray} : Pil.has (turn x y ps) u ↔ ∃ p ∈ ps, tt x y p.1 = u := by
  unfold Pil.has turn
  constructor
  · rintro ⟨q, hq, rfl⟩
    obtain ⟨p, hp, rfl⟩ := List.mem_map.1 hq
    exact ⟨p, hp, rfl⟩
  · rintro ⟨p, hp, rfl⟩
    exact ⟨_, List.mem_map.2 ⟨p, hp, rfl⟩, rfl⟩
theorem sumAt_at {ps : List Pil.Pl} (h : ∀ p ∈ ps, ok p.1) {t : ByteArray} (ht : ok t) : Pil.sumAt (turn x y ps) (tt x y t) = Pil.sumAt ps t :=
  sumAt_turn fun p hp => tt_iff hx hy (h p hp) ht

/-- the piles after two candidates were exchanged -/
def turned (x y : Int) (ps : List Pil.Pl) : List Pil.Pl := Pil.merge [] (turn x y ps)
omit hx hy in
theorem asc_nil : Pil.Asc [] := List.Pairwise.nil
omit hx hy in
theorem turned_asc (ps : List Pil.Pl) : Pil.Asc (turned x y ps) := Pil.asc_merge asc_nil
theorem has_turned {ps : List Pil.Pl} {u : ByteArray} : Pil.has (turned x y ps) u ↔ ∃ p ∈ ps, tt x y p.1 = u := by
  unfold turned
  rw [Pil.has_merge, has_turn hx hy]
  simp [Pil.has_nil]
omit hx hy in
theorem sumAt_turned (ps : List Pil.Pl) (u : ByteArray) : Pil.sumAt (turned x y ps) u = Pil.sumAt (turn x y ps) u := by
  unfold turned
  rw [Pil.sumAt_merge]
  simp [Pil.sumAt]
theorem turned_ok {ps : List Pil.Pl} (h : Pil.plv ps = true) : Pil.plv (turned x y ps) = true := by
  obtain ⟨h1, h2, h3⟩ := Pil.plv_iff.1 h
  have hok : ∀ p ∈ ps, ok p.1 := fun p hp => (Pil.pv_iff.1 (h1 p hp)).1
  refine Pil.plv_iff.2 ⟨fun p hp => ?_, turned_asc ps, ?_⟩
  · obtain ⟨q, hq, e⟩ := (has_turned hx hy).1 ⟨p, hp, rfl⟩
    have hs := Pil.asc_sum (turned_asc (x := x) (y := y) ps) p hp
    rw [sumAt_turned, ← e, sumAt_at hx hy hok (hok q hq), Pil.asc_sum h2 q hq] at hs
    refine Pil.pv_iff.2 ⟨?_, ?_⟩
    · rw [← e]; exact tt_ok hx hy (hok q hq)
    · rw [← hs]; exact (Pil.pv_iff.1 (h1 q hq)).2
  · have := merge_len (turn x y ps) []
    rw [turn_len] at this
    unfold turned
    simp at this
    omega
theorem turned_twice {ps : List Pil.Pl} (h : Pil.plv ps = true) : turned x y (turned x y ps) = ps := by
  obtain ⟨h1, h2, h3⟩ := Pil.plv_iff.1 h
  have hok : ∀ p ∈ ps, ok p.1 := fun p hp => (Pil.pv_iff.1 (h1 p hp)).1
  have hR := turned_ok hx hy h
  have hokR : ∀ p ∈ turned x y ps, ok p.1 := fun p hp => (Pil.pv_iff.1 ((Pil.plv_iff.1 hR).1 p hp)).1
  have hhas : ∀ u, Pil.has (turned x y (turned x y ps)) u ↔ Pil.has ps u := by
    intro u
    rw [has_turned hx hy]
    constructor
    · rintro ⟨p, hp, rfl⟩
      obtain ⟨q, hq, e⟩ := (has_turned hx hy).1 ⟨p, hp, rfl⟩
      rw [← e, tt_tt hx hy (hok q hq)]
      exact ⟨q, hq, rfl⟩
    · rintro ⟨q, hq, rfl⟩
      obtain ⟨p, hp, e⟩ := (has_turned hx hy (ps := ps)).2 ⟨q, hq, rfl⟩
      exact ⟨p, hp, by rw [e, tt_tt hx hy (hok q hq)]⟩
  refine Pil.asc_ext (turned_asc _) h2 hhas fun u => ?_
  by_cases hu : Pil.has ps u
  · obtain ⟨q, hq, rfl⟩ := hu
    have e1 : Pil.sumAt (turned x y (turned x y ps)) q.1 = Pil.sumAt (turned x y ps) (tt x y q.1) := by
      rw [sumAt_turned]
      have := sumAt_at hx hy hokR (tt_ok hx hy (hok q hq))
      rwa [tt_tt hx hy (hok q hq)] at this
    rw [e1, sumAt_turned, sumAt_at hx hy hok (hok q hq)]
  · rw [Pil.sumAt_not hu, Pil.sumAt_not (fun h => hu ((hhas u).1 h))]
omit hx hy in
theorem turned_total (ps : List Pil.Pl) : Pil.total (turned x y ps) = Pil.total ps := by
  unfold turned
  rw [Pil.total_merge, turn_total]
  simp [Pil.total]
theorem turned_len {ps : List Pil.Pl} (h : Pil.plv ps = true) : (turned x y ps).length = ps.length := by
  have h1 := merge_len (turn x y ps) []
  have h2 := merge_len (turn x y (turned x y ps)) []
  have h3 := turned_twice hx hy h
  rw [turn_len] at h1 h2
  have e : (turned x y (turned x y ps)).length = ps.length := by rw [h3]
  unfold turned at *
  simp at h1 h2
  omega
theorem turned_ptot {ps : List Pil.Pl} (h : Pil.plv ps = true) : Pil.ptot (turned x y ps) = Pil.ptot ps := by
  simp [Pil.ptot, h, turned_ok hx hy h, turned_total]
end
end Go.Proofs.Ytlfgmljgoolbeaa.Tu
