/- A region that draws its order: as in Ord, where an operation may wait for a later one in other ways than the model counts. -/
import Derived.Test.YtlfgmljgoolbeaaOrd
namespace Go.Proofs.Ytlfgmljgoolbeaa
open Go.RowKit

/-- each waits for earlier ones alone -/
def ordBack2 : List Oper → Nat → Bool
  | [], _ => true
  | o :: os, i => o.after.all (fun e => !(Region.binds .any e) || decide (e.on < i)) && ordBack2 os (i + 1)
def ordFits2 (os : List Oper) (n : Nat) : Bool := ordApart os && ordBack2 os 0 && os.all (fun o => match o.dst with | some d => decide (d < n) | none => true)
theorem ordBack_at2 : ∀ (os : List Oper) (k i : Nat) (o : Oper), ordBack2 os k = true → os[i]? = some o → ∀ e ∈ o.after, Region.binds .any e = true → e.on < k + i
  | [], _, _, _, _, h => by simp at h
  | p :: os, k, 0, o, hb, h => by
    simp at h; subst h
    simp only [ordBack2, Bool.and_eq_true, Array.all_eq_true_iff_forall_mem] at hb
    intro e he hbd
    have := hb.1 e he
    simpa [hbd] using this
  | p :: os, k, i + 1, o, hb, h => by
    simp only [ordBack2, Bool.and_eq_true] at hb
    intro e he hbd
    have := ordBack_at2 os (k + 1) i o hb.2 (by simpa using h) e he hbd
    omega

section
variable {P : Program} {os : List Oper} {Q : Exit → Act → World → Prop}
theorem ord_all2 {os : List Oper} {vs : List (Option Value)} (hb : ordBack2 os 0 = true) (hl : vs.length = os.length) (hr : Region.ready .any os.toArray (vs.map Option.isSome).toArray = []) : ∀ i, i < os.length → ∃ v, vs[i]? = some (some v) := by
  intro i
  induction i using Nat.strongRecOn with
  | _ i ih =>
    intro hi
    have h1 : vs[i]? = some vs[i] := List.getElem?_eq_getElem (by omega)
    cases h2 : vs[i]'(by omega) with
    | some v => exact ⟨v, by rw [h1, h2]⟩
    | none =>
      exfalso
      have hm : i ∈ Region.ready .any os.toArray (vs.map Option.isSome).toArray := by
        rw [mem_ready]
        refine ⟨?_, os[i], by simp [hi], fun e he hbd => ?_⟩
        · simp [h1, h2]
        · have hlt := ordBack_at2 os 0 i os[i] hb (by simp [hi]) e he hbd
          obtain ⟨v, hv⟩ := ih e.on (by omega) (by omega)
          simp [hv]
      rw [hr] at hm
      cases hm

theorem wpAny_ord2 {a0 : Act} {R : Nat → Value → World → Prop} {J : Nat → World → Prop} {G : World → World → Prop} (hB : ordFits2 os a0.tmps.size = true) (hG : ∀ j v w w', G w w' → R j v w → R j v w')
    (hs : OrdSteps (OrdStep P os Q a0 R J G) os 0) (he : ∀ (us : List Value) (w : World), us.length = os.length → J os.length w → (∀ j v, us[j]? = some v → R j v w) → Q .normal (ordFill os (us.map some) a0) w) :
    ∀ fuel l a w, OrdInv os a0 R J l a w → (∀ vs : List (Option Value), l = (vs.map Option.isSome).toArray → ordCnt vs + fuel = os.length) → wpAny P .any os.toArray Q fuel l a w := by
  simp only [ordFits2, Bool.and_eq_true] at hB
  obtain ⟨⟨hap, hbk⟩, hin⟩ := hB
  have fin : ∀ l a w, OrdInv os a0 R J l a w → Region.ready .any os.toArray l = [] → Q .normal a w := by
    rintro l a w ⟨vs, hl, rfl, rfl, hJ, hR⟩ hr
    obtain ⟨us, rfl⟩ := ord_some (by rw [hl]; exact ord_all2 hbk hl hr)
    rw [ordCnt_map] at hJ
    have hl' : us.length = os.length := by simpa using hl
    exact he us w hl' (hl' ▸ hJ) fun j v hv => hR j v (by simp [hv])
  intro fuel
  induction fuel with
  | zero =>
    intro l a w hI hc
    have hr : Region.ready .any os.toArray l = [] := by
      obtain ⟨vs, hl, rfl, _⟩ := hI
      have hc' := hc vs rfl
      apply List.eq_nil_iff_forall_not_mem.2
      intro i hi
      obtain ⟨h1, o, ho, _⟩ := mem_ready.1 hi
      have hi' : i < os.length := by
        rcases Nat.lt_or_ge i os.length with h | h
        · exact h
        · simp [List.getElem?_eq_none h] at ho
      have h2 : vs[i]? = some vs[i] := List.getElem?_eq_getElem (by omega)
      cases h3 : vs[i]'(by omega) with
      | none => have := ordCnt_lt vs i (by rw [h2, h3]); omega
      | some v => simp [h2, h3] at h1
    exact ⟨hr, fin l a w hI hr⟩
  | succ fuel ih =>
    intro l a w hI hc
    refine ⟨fin l a w hI, fun i hi => ?_⟩
    obtain ⟨vs, hl, rfl, rfl, hJ, hR⟩ := hI
    have hc' := hc vs rfl
    obtain ⟨h1, o, ho, hw⟩ := mem_ready.1 hi
    have ho' : os[i]? = some o := by simpa using ho
    have hi' : i < os.length := by
      rcases Nat.lt_or_ge i os.length with h | h
      · exact h
      · simp [List.getElem?_eq_none h] at ho'
    have hv : vs[i]? = some none := by
      have h2 : vs[i]? = some vs[i] := List.getElem?_eq_getElem (by omega)
      cases h3 : vs[i]'(by omega) with
      | none => rw [h2, h3]
      | some v => simp [h2, h3] at h1
    have hst := hs.at ho'
    rw [Nat.zero_add] at hst
    have := hst (ordFill os vs a0) w (ordCnt vs) (by omega) hJ (fun d hd => ordFill_old os vs a0 d (fun p hp e => by have := List.all_eq_true.1 hd p hp; simp [e] at this)) (fun j p d hp hd hwt => by
      have hlj : (vs.map Option.isSome).toArray.getD j false = true := by
        obtain ⟨e, hem, heq⟩ := Array.any_eq_true'.1 hwt
        simp only [Bool.and_eq_true, beq_iff_eq] at heq
        rw [← heq.2]
        exact hw e hem heq.1
      have hvj : ∃ v, vs[j]? = some (some v) := by
        cases h4 : vs[j]? with
        | none => simp [h4] at hlj
        | some x =>
          cases x with
          | none => simp [h4] at hlj
          | some v => exact ⟨v, rfl⟩
      obtain ⟨v, hvj⟩ := hvj
      have hdl : d < a0.tmps.size := by
        have := List.all_eq_true.1 hin p (List.mem_of_getElem? hp)
        simpa [hd] using this
      rw [ordFill_new os vs a0 j p d v hap hp hd hvj hdl]
      exact hR j v hvj) (wpAny P .any os.toArray Q fuel ((vs.map Option.isSome).toArray.setIfInBounds i true)) (fun v w' hJ' hGw hRi => by
        refine ih _ _ _ ⟨vs.set i (some v), by simpa using hl, ?_, (ordFill_set os vs a0 i o v hap ho' hv).symm, by rw [ordCnt_set _ _ _ hv]; exact hJ', fun j u hj => ?_⟩ ?_
        · simp [List.map_set]
        · rw [List.getElem?_set] at hj
          by_cases hij : i = j
          · subst hij
            rw [if_pos rfl] at hj
            split at hj
            · simp at hj; subst hj; exact hRi
            · cases hj
          · rw [if_neg hij] at hj
            exact hG _ _ _ _ hGw (hR j u hj)
        · intro vs' hvs'
          have : ordCnt vs' = ordCnt vs + 1 := by
            rw [← ordCnt_set vs i v hv]
            have e1 : vs'.map Option.isSome = (vs.set i (some v)).map Option.isSome := by
              have := congrArg Array.toList hvs'
              simpa [List.map_set] using this.symm
            have e2 : ∀ l : List (Option Value), ordCnt l = ((l.map Option.isSome).filter id).length := fun l => by
              rw [List.filter_map, List.length_map]; rfl
            rw [e2, e2, e1]
          omega)
    unfold wpOp
    rw [ho]
    simp only
    split
    · rename_i hw'; rw [if_pos hw'] at this; exact .inl this
    · rename_i hw'; rw [if_neg hw'] at this; exact this

theorem wp_region_ord2 {rid : Nat} {a0 : Act} {w0 : World} (R : Nat → Value → World → Prop) (J : Nat → World → Prop) (G : World → World → Prop) (hm : P.follows .mixedOrders = true) (hB : ordFits2 os a0.tmps.size = true) (hJ : J 0 w0.drew) (hG : ∀ j v w w', G w w' → R j v w → R j v w')
    (hs : OrdSteps (OrdStep P os Q a0 R J G) os 0) (he : ∀ (us : List Value) (w : World), us.length = os.length → J os.length w → (∀ j v, us[j]? = some v → R j v w) → Q .normal (ordFill os (us.map some) a0) w) :
    (Code.region rid os.toArray true).wp P Q a0 w0 := by
  refine wp_region_any hm ?_
  have e2 : ∀ l : List (Option Value), ordCnt l = ((l.map Option.isSome).filter id).length := fun l => by
    rw [List.filter_map, List.length_map]; rfl
  have e0 : (Array.replicate os.toArray.size false) = ((List.replicate os.length (none : Option Value)).map Option.isSome).toArray := by
    simp [List.map_replicate]
  have e3 : ∀ n (a : Act) (os : List Oper), ordFill os (List.replicate n none) a = a := by
    intro n
    induction n with
    | zero => intro a os; cases os <;> simp [ordFill]
    | succ n ih => intro a os; cases os <;> simp [ordFill, List.replicate_succ, ih]
  have hc0 : ordCnt (List.replicate os.length (none : Option Value)) = 0 := by
    simp [ordCnt]
  refine wpAny_ord2 hB hG hs he _ _ _ _ ⟨List.replicate os.length none, by simp, e0, (e3 _ _ _).symm, by rw [hc0]; exact hJ, fun j v hj => ?_⟩ fun vs hvs => ?_
  · have := List.mem_of_getElem? hj
    simp at this
  · have e1 : vs.map Option.isSome = (List.replicate os.length (none : Option Value)).map Option.isSome := by
      have := congrArg Array.toList (e0.symm.trans hvs)
      simpa using this.symm
    have : ordCnt vs = 0 := by rw [e2, e1, ← e2, hc0]
    simp; omega

end
end Go.Proofs.Ytlfgmljgoolbeaa
