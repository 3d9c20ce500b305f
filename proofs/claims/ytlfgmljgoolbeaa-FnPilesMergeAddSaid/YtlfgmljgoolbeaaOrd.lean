/- A region that draws its order: each of its operations is looked at once, by what it yields. -/
import Derived.Test.YtlfgmljgoolbeaaKit
import Derived.Deep.RegionLaw
namespace Go.Proofs.Ytlfgmljgoolbeaa
open Go.RowKit

/-- the frame behind some of a region's operations -/
def ordFill : List Oper → List (Option Value) → Act → Act
  | o :: os, some v :: vs, a => ordFill os vs (a.put o.dst v)
  | _ :: os, none :: vs, a => ordFill os vs a
  | _, _, a => a
/-- no two operations have one place -/
def ordApart : List Oper → Bool
  | [] => true
  | o :: os => os.all (fun p => match o.dst, p.dst with | some d, some e => !(d == e) | _, _ => true) && ordApart os
/-- each waits for earlier ones alone -/
def ordBack : List Oper → Nat → Bool
  | [], _ => true
  | o :: os, i => o.after.all (fun e => decide (e.on < i)) && ordBack os (i + 1)
def ordFits (os : List Oper) (n : Nat) : Bool := ordApart os && ordBack os 0 && os.all (fun o => match o.dst with | some d => decide (d < n) | none => true)
def ordWaits (o : Oper) (j : Nat) : Bool := o.after.any (fun e => Region.binds .any e && e.on == j)
def ordCnt (vs : List (Option Value)) : Nat := (vs.filter Option.isSome).length

theorem ordFill_put : ∀ (os : List Oper) (vs : List (Option Value)) (a : Act) (x : Option Tmp) (v : Value), (∀ o ∈ os, ∀ d, x = some d → o.dst ≠ some d) → ordFill os vs (a.put x v) = (ordFill os vs a).put x v
  | [], _, _, _, _, _ => by simp [ordFill]
  | o :: os, [], _, _, _, _ => by simp [ordFill]
  | o :: os, none :: vs, a, x, v, h => by
    simp only [ordFill]
    exact ordFill_put os vs a x v fun p hp => h p (List.mem_cons_of_mem _ hp)
  | o :: os, some u :: vs, a, x, v, h => by
    simp only [ordFill]
    rw [Act.put_comm a v u (h o (List.mem_cons_self ..))]
    exact ordFill_put os vs _ x v fun p hp => h p (List.mem_cons_of_mem _ hp)

theorem ordApart_cons {o : Oper} {os : List Oper} (h : ordApart (o :: os) = true) : (∀ p ∈ os, ∀ d, o.dst = some d → p.dst ≠ some d) ∧ ordApart os = true := by
  simp only [ordApart, Bool.and_eq_true, List.all_eq_true] at h
  refine ⟨fun p hp d hd hpd => ?_, h.2⟩
  have := h.1 p hp
  simp [hd, hpd] at this

theorem ordFill_set : ∀ (os : List Oper) (vs : List (Option Value)) (a : Act) (i : Nat) (o : Oper) (v : Value), ordApart os = true → os[i]? = some o → vs[i]? = some none → ordFill os (vs.set i (some v)) a = (ordFill os vs a).put o.dst v
  | [], _, _, _, _, _, _, h, _ => by simp at h
  | o :: os, [], _, _, _, _, _, _, h => by simp at h
  | o :: os, x :: vs, a, 0, p, v, ha, ho, hv => by
    simp at ho hv
    subst ho; subst hv
    simp only [List.set_cons_zero, ordFill]
    exact ordFill_put os vs a _ v (ordApart_cons ha).1
  | o :: os, none :: vs, a, i + 1, p, v, ha, ho, hv => by
    simp only [List.set_cons_succ, ordFill]
    exact ordFill_set os vs a i p v (ordApart_cons ha).2 (by simpa using ho) (by simpa using hv)
  | o :: os, some u :: vs, a, i + 1, p, v, ha, ho, hv => by
    simp only [List.set_cons_succ, ordFill]
    exact ordFill_set os vs _ i p v (ordApart_cons ha).2 (by simpa using ho) (by simpa using hv)

theorem put_size (a : Act) (x : Option Tmp) (v : Value) : (a.put x v).tmps.size = a.tmps.size := by
  cases x <;> simp [Act.put]
theorem ordFill_old : ∀ (os : List Oper) (vs : List (Option Value)) (a : Act) (d : Nat), (∀ o ∈ os, o.dst ≠ some d) → (ordFill os vs a).eval (.tmp d) = a.eval (.tmp d)
  | [], _, _, _, _ => by simp [ordFill]
  | o :: os, [], _, _, _ => by simp [ordFill]
  | o :: os, none :: vs, a, d, h => by
    simp only [ordFill]
    exact ordFill_old os vs a d fun p hp => h p (List.mem_cons_of_mem _ hp)
  | o :: os, some u :: vs, a, d, h => by
    simp only [ordFill]
    rw [ordFill_old os vs _ d fun p hp => h p (List.mem_cons_of_mem _ hp)]
    exact Act.eval_put fun e he hx => h o (List.mem_cons_self ..) (by rw [he]; injection hx with hx; rw [hx])
theorem ordFill_new : ∀ (os : List Oper) (vs : List (Option Value)) (a : Act) (j : Nat) (o : Oper) (d : Nat) (v : Value), ordApart os = true → os[j]? = some o → o.dst = some d → vs[j]? = some (some v) → d < a.tmps.size → (ordFill os vs a).eval (.tmp d) = v
  | [], _, _, _, _, _, _, _, h, _, _, _ => by simp at h
  | o :: os, [], _, _, _, _, _, _, _, _, h, _ => by simp at h
  | o :: os, x :: vs, a, 0, p, d, v, ha, ho, hd, hv, hs => by
    simp at ho hv
    subst ho; subst hv
    simp only [ordFill, hd]
    rw [ordFill_old os vs _ d fun q hq => (ordApart_cons ha).1 q hq d hd]
    simp [Act.eval, Act.put, hs]
  | o :: os, none :: vs, a, j + 1, p, d, v, ha, ho, hd, hv, hs => by
    simp only [ordFill]
    exact ordFill_new os vs a j p d v (ordApart_cons ha).2 (by simpa using ho) hd (by simpa using hv) hs
  | o :: os, some u :: vs, a, j + 1, p, d, v, ha, ho, hd, hv, hs => by
    simp only [ordFill]
    exact ordFill_new os vs _ j p d v (ordApart_cons ha).2 (by simpa using ho) hd (by simpa using hv) (by rw [put_size]; exact hs)

theorem ordCnt_set : ∀ (vs : List (Option Value)) (i : Nat) (v : Value), vs[i]? = some none → ordCnt (vs.set i (some v)) = ordCnt vs + 1
  | [], _, _, h => by simp at h
  | x :: vs, 0, v, h => by simp at h; subst h; simp [ordCnt]
  | none :: vs, i + 1, v, h => by
    have := ordCnt_set vs i v (by simpa using h)
    simpa [ordCnt] using this
  | some u :: vs, i + 1, v, h => by
    have := ordCnt_set vs i v (by simpa using h)
    simp [ordCnt] at this ⊢; omega
theorem ordCnt_le (vs : List (Option Value)) : ordCnt vs ≤ vs.length := List.length_filter_le _ _
theorem ordCnt_lt : ∀ (vs : List (Option Value)) (i : Nat), vs[i]? = some none → ordCnt vs < vs.length
  | [], _, h => by simp at h
  | x :: vs, 0, h => by
    simp at h; subst h
    have h1 := ordCnt_le vs
    have e : ordCnt (none :: vs) = ordCnt vs := by simp [ordCnt]
    rw [e, List.length_cons]; omega
  | none :: vs, i + 1, h => by
    have h1 := ordCnt_lt vs i (by simpa using h)
    have e : ordCnt (none :: vs) = ordCnt vs := by simp [ordCnt]
    rw [e, List.length_cons]; omega
  | some u :: vs, i + 1, h => by
    have h1 := ordCnt_lt vs i (by simpa using h)
    have e : ordCnt (some u :: vs) = ordCnt vs + 1 := by simp [ordCnt]
    rw [e, List.length_cons]; omega

theorem ordBack_at : ∀ (os : List Oper) (k i : Nat) (o : Oper), ordBack os k = true → os[i]? = some o → ∀ e ∈ o.after, e.on < k + i
  | [], _, _, _, _, h => by simp at h
  | p :: os, k, 0, o, hb, h => by
    simp at h; subst h
    simp only [ordBack, Bool.and_eq_true, Array.all_eq_true_iff_forall_mem] at hb
    intro e he
    have := hb.1 e he
    simpa using this
  | p :: os, k, i + 1, o, hb, h => by
    simp only [ordBack, Bool.and_eq_true] at hb
    intro e he
    have := ordBack_at os (k + 1) i o hb.2 (by simpa using h) e he
    omega

section
variable {P : Program} {os : List Oper} {Q : Exit → Act → World → Prop}

def OrdInv (os : List Oper) (a0 : Act) (R : Nat → Value → World → Prop) (J : Nat → World → Prop) (l : Array Bool) (a : Act) (w : World) : Prop :=
  ∃ vs : List (Option Value), vs.length = os.length ∧ l = (vs.map Option.isSome).toArray ∧ a = ordFill os vs a0 ∧ J (ordCnt vs) w ∧ ∀ j v, vs[j]? = some (some v) → R j v w

/-- what is asked of operation i -/
def OrdStep (P : Program) (os : List Oper) (Q : Exit → Act → World → Prop) (a0 : Act) (R : Nat → Value → World → Prop) (J : Nat → World → Prop) (G : World → World → Prop) (i : Nat) (o : Oper) : Prop :=
  ∀ (a : Act) (w : World) (k : Nat), k < os.length → J k w → (∀ d, os.all (fun p => !(p.dst == some d)) = true → a.eval (.tmp d) = a0.eval (.tmp d)) →
    (∀ j p d, os[j]? = some p → p.dst = some d → ordWaits o j = true → R j (a.eval (.tmp d)) w) →
    ∀ K : Act → World → Prop, (∀ v w', J (k + 1) w' → G w w' → R i v w' → K (a.put o.dst v) w') →
      if Region.wanted o (yielded os.toArray a.tmps) = true then Oper.wp P o a w K Q else K (a.put o.dst undef) w
def OrdSteps (φ : Nat → Oper → Prop) : List Oper → Nat → Prop
  | [], _ => True
  | o :: os, i => φ i o ∧ OrdSteps φ os (i + 1)
theorem OrdSteps.at {φ : Nat → Oper → Prop} : ∀ {os : List Oper} {k i : Nat} {o : Oper}, OrdSteps φ os k → os[i]? = some o → φ (k + i) o
  | [], _, _, _, _, h => by simp at h
  | p :: os, k, 0, o, hs, h => by simp at h; subst h; exact hs.1
  | p :: os, k, i + 1, o, hs, h => by
    have := OrdSteps.at (i := i) hs.2 (by simpa using h)
    rwa [Nat.add_assoc, Nat.add_comm 1 i] at this

theorem ord_all {os : List Oper} {vs : List (Option Value)} (hb : ordBack os 0 = true) (hl : vs.length = os.length) (hr : Region.ready .any os.toArray (vs.map Option.isSome).toArray = []) : ∀ i, i < os.length → ∃ v, vs[i]? = some (some v) := by
  intro i
  induction i using Nat.strongRecOn with
  | _ i ih =>
    intro hi
    have h1 : vs[i]? = some vs[i] := List.getElem?_eq_getElem (by omega)
    cases h2 : vs[i]'(by omega) with
    | some v => exact ⟨v, by rw [h1, h2]⟩
    | none =>
      exfalso
      have hm : i ∈ Region.ready .any os.toArray (vs.map Option.isSome).toArray := by
        rw [mem_ready]
        refine ⟨?_, os[i], by simp [hi], fun e he _ => ?_⟩
        · simp [h1, h2]
        · have hlt := ordBack_at os 0 i os[i] hb (by simp [hi]) e he
          obtain ⟨v, hv⟩ := ih e.on (by omega) (by omega)
          simp [hv]
      rw [hr] at hm
      cases hm

theorem ord_some {vs : List (Option Value)} (h : ∀ i, i < vs.length → ∃ v, vs[i]? = some (some v)) : ∃ us : List Value, vs = us.map some := by
  induction vs with
  | nil => exact ⟨[], rfl⟩
  | cons x vs ih =>
    obtain ⟨v, hv⟩ := h 0 (by simp)
    obtain ⟨us, rfl⟩ := ih fun i hi => by
      obtain ⟨v, hv⟩ := h (i + 1) (by simp; simpa using hi)
      exact ⟨v, by simpa using hv⟩
    simp at hv
    exact ⟨v :: us, by simp [hv]⟩
theorem ordCnt_map (us : List Value) : ordCnt (us.map some) = us.length := by
  induction us with
  | nil => rfl
  | cons u us ih => simp [ordCnt] at *; exact ih

theorem wpAny_ord {a0 : Act} {R : Nat → Value → World → Prop} {J : Nat → World → Prop} {G : World → World → Prop} (hB : ordFits os a0.tmps.size = true) (hG : ∀ j v w w', G w w' → R j v w → R j v w')
    (hs : OrdSteps (OrdStep P os Q a0 R J G) os 0) (he : ∀ (us : List Value) (w : World), us.length = os.length → J os.length w → (∀ j v, us[j]? = some v → R j v w) → Q .normal (ordFill os (us.map some) a0) w) :
    ∀ fuel l a w, OrdInv os a0 R J l a w → (∀ vs : List (Option Value), l = (vs.map Option.isSome).toArray → ordCnt vs + fuel = os.length) → wpAny P .any os.toArray Q fuel l a w := by
  simp only [ordFits, Bool.and_eq_true] at hB
  obtain ⟨⟨hap, hbk⟩, hin⟩ := hB
  have fin : ∀ l a w, OrdInv os a0 R J l a w → Region.ready .any os.toArray l = [] → Q .normal a w := by
    rintro l a w ⟨vs, hl, rfl, rfl, hJ, hR⟩ hr
    obtain ⟨us, rfl⟩ := ord_some (by rw [hl]; exact ord_all hbk hl hr)
    rw [ordCnt_map] at hJ
    have hl' : us.length = os.length := by simpa using hl
    exact he us w hl' (hl' ▸ hJ) fun j v hv => hR j v (by simp [hv])
  intro fuel
  induction fuel with
  | zero =>
    intro l a w hI hc
    have hr : Region.ready .any os.toArray l = [] := by
      obtain ⟨vs, hl, rfl, _⟩ := hI
      have hc' := hc vs rfl
      apply List.eq_nil_iff_forall_not_mem.2
      intro i hi
      obtain ⟨h1, o, ho, _⟩ := mem_ready.1 hi
      have hi' : i < os.length := by
        rcases Nat.lt_or_ge i os.length with h | h
        · exact h
        · simp [List.getElem?_eq_none h] at ho
      have h2 : vs[i]? = some vs[i] := List.getElem?_eq_getElem (by omega)
      cases h3 : vs[i]'(by omega) with
      | none => have := ordCnt_lt vs i (by rw [h2, h3]); omega
      | some v => simp [h2, h3] at h1
    exact ⟨hr, fin l a w hI hr⟩
  | succ fuel ih =>
    intro l a w hI hc
    refine ⟨fin l a w hI, fun i hi => ?_⟩
    obtain ⟨vs, hl, rfl, rfl, hJ, hR⟩ := hI
    have hc' := hc vs rfl
    obtain ⟨h1, o, ho, hw⟩ := mem_ready.1 hi
    have ho' : os[i]? = some o := by simpa using ho
    have hi' : i < os.length := by
      rcases Nat.lt_or_ge i os.length with h | h
      · exact h
      · simp [List.getElem?_eq_none h] at ho'
    have hv : vs[i]? = some none := by
      have h2 : vs[i]? = some vs[i] := List.getElem?_eq_getElem (by omega)
      cases h3 : vs[i]'(by omega) with
      | none => rw [h2, h3]
      | some v => simp [h2, h3] at h1
    have hst := hs.at ho'
    rw [Nat.zero_add] at hst
    have := hst (ordFill os vs a0) w (ordCnt vs) (by omega) hJ (fun d hd => ordFill_old os vs a0 d (fun p hp e => by have := List.all_eq_true.1 hd p hp; simp [e] at this)) (fun j p d hp hd hwt => by
      have hlj : (vs.map Option.isSome).toArray.getD j false = true := by
        obtain ⟨e, hem, heq⟩ := Array.any_eq_true'.1 hwt
        simp only [Bool.and_eq_true, beq_iff_eq] at heq
        rw [← heq.2]
        exact hw e hem heq.1
      have hvj : ∃ v, vs[j]? = some (some v) := by
        cases h4 : vs[j]? with
        | none => simp [h4] at hlj
        | some x =>
          cases x with
          | none => simp [h4] at hlj
          | some v => exact ⟨v, rfl⟩
      obtain ⟨v, hvj⟩ := hvj
      have hdl : d < a0.tmps.size := by
        have := List.all_eq_true.1 hin p (List.mem_of_getElem? hp)
        simpa [hd] using this
      rw [ordFill_new os vs a0 j p d v hap hp hd hvj hdl]
      exact hR j v hvj) (wpAny P .any os.toArray Q fuel ((vs.map Option.isSome).toArray.setIfInBounds i true)) (fun v w' hJ' hGw hRi => by
        refine ih _ _ _ ⟨vs.set i (some v), by simpa using hl, ?_, (ordFill_set os vs a0 i o v hap ho' hv).symm, by rw [ordCnt_set _ _ _ hv]; exact hJ', fun j u hj => ?_⟩ ?_
        · simp [List.map_set]
        · rw [List.getElem?_set] at hj
          by_cases hij : i = j
          · subst hij
            rw [if_pos rfl] at hj
            split at hj
            · simp at hj; subst hj; exact hRi
            · cases hj
          · rw [if_neg hij] at hj
            exact hG _ _ _ _ hGw (hR j u hj)
        · intro vs' hvs'
          have : ordCnt vs' = ordCnt vs + 1 := by
            rw [← ordCnt_set vs i v hv]
            have e1 : vs'.map Option.isSome = (vs.set i (some v)).map Option.isSome := by
              have := congrArg Array.toList hvs'
              simpa [List.map_set] using this.symm
            have e2 : ∀ l : List (Option Value), ordCnt l = ((l.map Option.isSome).filter id).length := fun l => by
              rw [List.filter_map, List.length_map]; rfl
            rw [e2, e2, e1]
          omega)
    unfold wpOp
    rw [ho]
    simp only
    split
    · rename_i hw'; rw [if_pos hw'] at this; exact .inl this
    · rename_i hw'; rw [if_neg hw'] at this; exact this

theorem wp_region_ord {rid : Nat} {a0 : Act} {w0 : World} (R : Nat → Value → World → Prop) (J : Nat → World → Prop) (G : World → World → Prop) (hm : P.follows .mixedOrders = true) (hB : ordFits os a0.tmps.size = true) (hJ : J 0 w0.drew) (hG : ∀ j v w w', G w w' → R j v w → R j v w')
    (hs : OrdSteps (OrdStep P os Q a0 R J G) os 0) (he : ∀ (us : List Value) (w : World), us.length = os.length → J os.length w → (∀ j v, us[j]? = some v → R j v w) → Q .normal (ordFill os (us.map some) a0) w) :
    (Code.region rid os.toArray true).wp P Q a0 w0 := by
  refine wp_region_any hm ?_
  have e2 : ∀ l : List (Option Value), ordCnt l = ((l.map Option.isSome).filter id).length := fun l => by
    rw [List.filter_map, List.length_map]; rfl
  have e0 : (Array.replicate os.toArray.size false) = ((List.replicate os.length (none : Option Value)).map Option.isSome).toArray := by
    simp [List.map_replicate]
  have e3 : ∀ n (a : Act) (os : List Oper), ordFill os (List.replicate n none) a = a := by
    intro n
    induction n with
    | zero => intro a os; cases os <;> simp [ordFill]
    | succ n ih => intro a os; cases os <;> simp [ordFill, List.replicate_succ, ih]
  have hc0 : ordCnt (List.replicate os.length (none : Option Value)) = 0 := by
    simp [ordCnt]
  refine wpAny_ord hB hG hs he _ _ _ _ ⟨List.replicate os.length none, by simp, e0, (e3 _ _ _).symm, by rw [hc0]; exact hJ, fun j v hj => ?_⟩ fun vs hvs => ?_
  · have := List.mem_of_getElem? hj
    simp at this
  · have e1 : vs.map Option.isSome = (List.replicate os.length (none : Option Value)).map Option.isSome := by
      have := congrArg Array.toList (e0.symm.trans hvs)
      simpa using this.symm
    have : ordCnt vs = 0 := by rw [e2, e1, ← e2, hc0]
    simp; omega

/-! one operation that yields -/
theorem ord_value {o : Oper} {a : Act} {w w' : World} {K : Act → World → Prop} {E : Prop} {b : Nat → Option Bool} {v : Value} (hg : o.guard = none) (hr : (execOp a.eval o).run P w = .ok (.value v) w') (hK : K (a.put o.dst v) w') :
    if Region.wanted o b = true then Oper.wp P o a w K Q else E := by
  rw [if_pos (by simp [Region.wanted, hg])]
  unfold Oper.wp
  rw [hr]
  exact hK
theorem ord_skip {o : Oper} {a : Act} {w w' : World} {K : Act → World → Prop} {E : Prop} {b : Nat → Option Bool} (hg : o.guard = none) (hr : (execOp a.eval o).run P w = .ok .skip w') (hK : K (a.put o.dst undef) w') :
    if Region.wanted o b = true then Oper.wp P o a w K Q else E := by
  rw [if_pos (by simp [Region.wanted, hg])]
  unfold Oper.wp
  rw [hr]
  exact hK
theorem ord_enter {o : Oper} {a : Act} {w w' : World} {K : Act → World → Prop} {E : Prop} {b : Nat → Option Bool} {f : FuncId} {args : Array Value} (hg : o.guard = none) (hr : (execOp a.eval o).run P w = .ok (.enter f args) w')
    (hc : Calls P f args w' fun e w'' => ∃ v, e = .returned v ∧ K (a.put o.dst v) w'') :
    if Region.wanted o b = true then Oper.wp P o a w K Q else E := by
  rw [if_pos (by simp [Region.wanted, hg])]
  unfold Oper.wp
  rw [hr, Oper.upon_enter]
  refine hc.mono ?_
  rintro e w'' ⟨v, rfl, h⟩
  exact h
/-- what a region that draws may do to the world: blocks g and b alone are written, of those that there are -/
def OrdG (g b : Nat) (w w' : World) : Prop := w.heap.size ≤ w'.heap.size ∧ ∀ i, i < w.heap.size → i ≠ g → i ≠ b → w'.heap[i]? = w.heap[i]?
theorem OrdG.refl (g b : Nat) (w : World) : OrdG g b w w := ⟨Nat.le_refl _, fun _ _ _ _ => rfl⟩
theorem OrdG.grown {g b : Nat} {w w' : World} (h : w.grownBy w' (some g)) : OrdG g b w w' := ⟨h.size, fun i hi hg _ => h.block i hi (fun e => hg (by injection e))⟩
theorem OrdG.below {g b : Nat} {w w' : World} (h : Below w.heap.size w w') : OrdG g b w w' := ⟨h.size, fun i hi _ _ => h.block i hi⟩
theorem OrdG.setCell {g b o : Nat} {w w' : World} (h : OrdG g b w w') (v : Value) : OrdG g b w (w'.setCell ⟨b, o, none⟩ v) :=
  ⟨by simpa [World.setCell] using h.1, fun i hi hg hb => (Below.heap_setCell w' ⟨b, o, none⟩ v i hb).trans (h.2 i hi hg hb)⟩
theorem OrdG.cell {g b i o : Nat} {w w' : World} {v : Value} (h : OrdG g b w w') (hi : i < w.heap.size) (hg : i ≠ g) (hb : i ≠ b) (hc : w.cell? ⟨i, o, none⟩ = some v) : w'.cell? ⟨i, o, none⟩ = some v :=
  (World.cell?_of_block (h.2 i hi hg hb)).trans hc
end
end Go.Proofs.Ytlfgmljgoolbeaa
