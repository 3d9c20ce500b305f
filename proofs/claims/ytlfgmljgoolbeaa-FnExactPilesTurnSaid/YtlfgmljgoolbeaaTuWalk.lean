/- Piles whose candidates are exchanged: the walks. -/
import Derived.Test.YtlfgmljgoolbeaaTuPlain
import Derived.Test.YtlfgmljgoolbeaaPiAddI
import Derived.Test.YtlfgmljgoolbeaaBaText
import Derived.Deep.RegionLaw
namespace Go.Proofs.Ytlfgmljgoolbeaa
open Go.RowKit
set_option linter.unusedSimpArgs false

theorem sws_take_succ (x y : Int) {xs : List Int} {k : Nat} (h : k < xs.length) : Tu.sws x y (xs.take (k + 1)) = Tu.sws x y (xs.take k) ++ [Tu.sw x y xs[k]] := by
  unfold Tu.sws
  rw [List.take_succ_eq_append_getElem h, List.map_append]; rfl
theorem sw_x (x y : Int) : Tu.sw x y x = y := by simp [Tu.sw]
theorem sw_y {x y : Int} (h : ¬ y = x) : Tu.sw x y y = x := by simp [Tu.sw, h]
theorem sw_z {x y z : Int} (h : ¬ z = x) (h2 : ¬ z = y) : Tu.sw x y z = z := by simp [Tu.sw, h, h2]
def swCur (x y : Int) (xs : List Int) (j : Nat) : List Int := Tu.sws x y (xs.take j) ++ xs.drop j
theorem swCur_zero (x y : Int) (xs : List Int) : swCur x y xs 0 = xs := by simp [swCur, Tu.sws]
theorem swCur_all (x y : Int) {xs : List Int} {n : Nat} (h : xs.length = n) : swCur x y xs n = Tu.sws x y xs := by simp [swCur, ← h]
theorem swCur_len (x y : Int) (xs : List Int) (j : Nat) (h : j ≤ xs.length) : (swCur x y xs j).length = xs.length := by simp [swCur, Tu.sws]; omega
theorem swCur_at (x y : Int) {xs : List Int} {j : Nat} (h : j < xs.length) : (swCur x y xs j).getD j 0 = xs[j] := by
  have e : (Tu.sws x y (xs.take j)).length = j := by simp [Tu.sws]; omega
  have e2 : xs.drop j = xs[j] :: xs.drop (j + 1) := List.drop_eq_getElem_cons h
  rw [swCur, e2, List.getD_eq_getElem?_getD, List.getElem?_append_right (by omega), e]; simp [h]
theorem swCur_succ (x y : Int) {xs : List Int} {j : Nat} (h : j < xs.length) : (swCur x y xs j).set j (Tu.sw x y xs[j]) = swCur x y xs (j + 1) := by
  have e : (Tu.sws x y (xs.take j)).length = j := by simp [Tu.sws]; omega
  have e2 : xs.drop j = xs[j] :: xs.drop (j + 1) := List.drop_eq_getElem_cons h
  rw [swCur, swCur, sws_take_succ x y h, e2, List.set_append_right _ _ (by omega), e, Nat.sub_self, List.append_assoc]; rfl
theorem swCur_keep (x y : Int) {xs : List Int} {j : Nat} (h : j < xs.length) (hx : ¬ xs[j] = x) (hy : ¬ xs[j] = y) : swCur x y xs j = swCur x y xs (j + 1) := by
  have e2 : xs.drop j = xs[j] :: xs.drop (j + 1) := List.drop_eq_getElem_cons h
  rw [swCur, swCur, sws_take_succ x y h, sw_z hx hy, e2, List.append_assoc]; rfl
theorem turn_take_succ (x y : Int) {ps : List Pil.Pl} {k : Nat} (h : k < ps.length) : (Tu.turn x y ps).take (k + 1) = (Tu.turn x y ps).take k ++ [(Tu.tt x y ps[k].1, ps[k].2)] := by
  have hk : k < (Tu.turn x y ps).length := by rw [Tu.turn_len]; exact h
  rw [List.take_succ_eq_append_getElem hk]
  congr 1
  simp [Tu.turn]
theorem turned_take_succ (x y : Int) {ps : List Pil.Pl} {k : Nat} (h : k < ps.length) : Pil.merge [] ((Tu.turn x y ps).take (k + 1)) = Pil.put (Pil.merge [] ((Tu.turn x y ps).take k)) (Tu.tt x y ps[k].1) ps[k].2 := by
  rw [turn_take_succ x y h, Pil.merge_snoc]
def turnOk (ps : List Pil.Pl) (x y : Int) : Bool := Pil.plv ps && decide ((0 ≤ x ∧ x < 5) ∧ (0 ≤ y ∧ y < 5))
def turnL (ps : List Pil.Pl) (x y : Int) : List Pil.Pl := if turnOk ps x y then Tu.turned x y ps else []
theorem turnOk_f {ps : List Pil.Pl} {x y : Int} (h : Pil.plv ps = false ∨ ¬ (0 ≤ x ∧ x < 5) ∨ ¬ (0 ≤ y ∧ y < 5)) : turnOk ps x y = false ∧ turnL ps x y = [] := by
  have e : turnOk ps x y = false := by
    unfold turnOk
    rcases h with h | h | h
    · simp [h]
    · simp [h]
    · simp [h]
  exact ⟨e, by simp [turnL, e]⟩
theorem turnOk_t {ps : List Pil.Pl} {x y : Int} (h : Pil.plv ps = true) (hx : 0 ≤ x ∧ x < 5) (hy : 0 ≤ y ∧ y < 5) : turnOk ps x y = true ∧ turnL ps x y = Tu.turned x y ps := by
  have e : turnOk ps x y = true := by simp [turnOk, h, hx, hy]
  exact ⟨e, by simp [turnL, e]⟩
theorem turnOk_parts {ps : List Pil.Pl} {x y : Int} (h : turnOk ps x y = true) : Pil.plv ps = true ∧ (0 ≤ x ∧ x < 5) ∧ (0 ≤ y ∧ y < 5) := by
  simpa [turnOk] using h
theorem turnL_len (ps : List Pil.Pl) (x y : Int) : (turnL ps x y).length ≤ ps.length := by
  unfold turnL
  split
  · rename_i h
    obtain ⟨h1, h2, h3⟩ := turnOk_parts h
    rw [Tu.turned_len h2 h3 h1]; exact Nat.le_refl _
  · simp
theorem total_nonneg {l : List Pil.Pl} (h : ∀ p ∈ l, 0 ≤ p.2) : 0 ≤ Pil.total l := by
  induction l with
  | nil => simp [Pil.total]
  | cons p l ih =>
    have h1 := h p (List.mem_cons_self ..)
    have h2 := ih fun q hq => h q (List.mem_cons_of_mem _ hq)
    simp only [Pil.total]; omega
theorem turn_pv {x y : Int} (hx : 0 ≤ x ∧ x < 5) (hy : 0 ≤ y ∧ y < 5) {ps : List Pil.Pl} (hp : Pil.plv ps = true) : ∀ p ∈ Tu.turn x y ps, Pil.pv p = true := by
  intro p hp2
  obtain ⟨q, hq, rfl⟩ := List.mem_map.1 hp2
  obtain ⟨h1, h2⟩ := Pil.pv_iff.1 ((Pil.plv_iff.1 hp).1 q hq)
  exact Pil.pv_iff.2 ⟨Tu.tt_ok hx hy h1, h2⟩
theorem turn_many {x y : Int} (hx : 0 ≤ x ∧ x < 5) (hy : 0 ≤ y ∧ y < 5) {ps : List Pil.Pl} (hp : Pil.plv ps = true) (k : Nat) : ∀ p ∈ Pil.merge [] ((Tu.turn x y ps).take k), 0 ≤ p.2 ∧ p.2 ≤ 4294967296 := by
  intro p hp2
  have hv : ∀ q ∈ (Tu.turn x y ps).take k, Pil.pv q = true := fun q hq => turn_pv hx hy hp q (List.mem_of_mem_take hq)
  have h1 := Pil.asc_sum (Pil.asc_merge (b := (Tu.turn x y ps).take k) Tu.asc_nil) p hp2
  rw [Pil.sumAt_merge] at h1
  have h0 : Pil.sumAt [] p.1 = 0 := rfl
  have b1 := sumAt_le (u := p.1) hv
  have b2 := Pil.total_bound hv
  have b3 : ((Tu.turn x y ps).take k).length ≤ 12 := by
    have := (Pil.plv_iff.1 hp).2.2
    rw [List.length_take, Tu.turn_len]; omega
  omega

theorem l3Turn_any (A : Option Addr) (n c : Nat) (xs : List Int) (x y : Int) (W : World) (h : RdI W W.heap.size A n xs) (hn : n ≤ 4194303) :
    Calls Try.prog 45 #[.slice A n c, .int .i64 x, .int .i64 y] W fun e w' => ∃ g c', e = .returned (.slice (some ⟨g, 0, none⟩) n c') ∧ OwA w' W.heap.size (some ⟨g, 0, none⟩) n c' (Tu.sws x y xs) ∧ Below W.heap.size W w' := by
  have HL := Lib.hid h.len
  have HE := Lib.hid (OwA.empty W W.heap.size (Nat.le_refl _))
  go_enter Try.func45, Try.ntmps45
  go_wp2_with fail
  go_loopw [7, 8] (fun v i wr => ∃ (k g cc : Nat), k ≤ n ∧ i = .int .i64 k ∧ v = .slice (some ⟨g, 0, none⟩) k cc ∧ OwA wr W.heap.size (some ⟨g, 0, none⟩) k cc (Tu.sws x y (xs.take k)) ∧ Below W.heap.size W wr) (fun _ i _ => n - (intOf i).toNat)
  case atStart => exact ⟨0, _, 0, Nat.zero_le _, rfl, rfl, HE.out, (Below.refl _ _).alloc (Nat.le_refl _) _⟩
  case round =>
    obtain ⟨k, g, cc, hk, rfl, rfl, ho, hb⟩ := hrel
    have HO := Lib.hid ho
    have hBs := hb.size
    clear ho
    by_cases hlt : k < n
    · have hk' : k < xs.length := by have := HL.out; omega
      obtain ⟨b, off, rfl, hbB, d0⟩ := (h.below hb).at_ hlt hk'
      have HS := Lib.hid (sws_take_succ x y hk')
      have hlt' : (k : Int) < (n : Int) := by omega
      have hk0 : (0 : Int) ≤ (k : Int) := by omega
      clear h
      generalize xs[k] = z at *
      rcases (show z = x ∨ (¬ z = x ∧ z = y) ∨ (¬ z = x ∧ ¬ z = y) by omega) with h1 | ⟨h1, h2⟩ | ⟨h1, h2⟩
      · have hS := HS.out
        rw [h1, sw_x] at hS
        have HS2 := Lib.hid hS
        have h1' : (z == x) = true := by simpa using h1
        clear hS HS h1
        go_wp2_with (at_builtin; refine wpList_app1 (by rfl) _ _ (by rfl) _ W.heap.size _ k cc _ _ (by rfl) HO.out (by rfl) (by omega) hBs ?_)
        intro g4 c4 w4 ho4 hb4 _ _
        have hb5 := hb.trans hb4
        rw [← HS2.out] at ho4
        have HO4 := Lib.hid ho4
        clear ho4 hb4
        go_wp2_with fail
        go_roundw
        case rel => exact ⟨k + 1, g4, c4, by omega, by go_num, rfl, HO4.out, hb5⟩
        case measure => simp [intOf]; omega
      · have hS := HS.out
        rw [h2, sw_y (by omega)] at hS
        have HS2 := Lib.hid hS
        have h1' : (z == x) = false := by simpa using h1
        have h2' : (z == y) = true := by simpa using h2
        clear hS HS h1 h2
        go_wp2_with (at_builtin; refine wpList_app1 (by rfl) _ _ (by rfl) _ W.heap.size _ k cc _ _ (by rfl) HO.out (by rfl) (by omega) hBs ?_)
        intro g4 c4 w4 ho4 hb4 _ _
        have hb5 := hb.trans hb4
        rw [← HS2.out] at ho4
        have HO4 := Lib.hid ho4
        clear ho4 hb4
        go_wp2_with fail
        go_roundw
        case rel => exact ⟨k + 1, g4, c4, by omega, by go_num, rfl, HO4.out, hb5⟩
        case measure => simp [intOf]; omega
      · have hS := HS.out
        rw [sw_z h1 h2] at hS
        have HS2 := Lib.hid hS
        have h1' : (z == x) = false := by simpa using h1
        have h2' : (z == y) = false := by simpa using h2
        clear hS HS h1 h2
        go_wp2_with (at_builtin; refine wpList_app1 (by rfl) _ _ (by rfl) _ W.heap.size _ k cc _ _ (by rfl) HO.out (by rfl) (by omega) hBs ?_)
        intro g4 c4 w4 ho4 hb4 _ _
        have hb5 := hb.trans hb4
        rw [← HS2.out] at ho4
        have HO4 := Lib.hid ho4
        clear ho4 hb4
        go_wp2_with fail
        go_roundw
        case rel => exact ⟨k + 1, g4, c4, by omega, by go_num, rfl, HO4.out, hb5⟩
        case measure => simp [intOf]; omega
    · have hlt' : ¬ (k : Int) < (n : Int) := by omega
      obtain rfl : k = n := by omega
      have ho := HO.out
      rw [List.take_of_length_le (by have := HL.out; omega)] at ho
      have HO2 := Lib.hid ho
      clear ho h
      go_wp2_with fail
      go_ret
      exact ⟨g, cc, rfl, HO2.out, hb⟩

theorem ballot_any (s : ByteArray) (m : Int) (W : World) (hs : s.size ≤ 4194304) :
    Calls Try.prog 48 #[.agg #[.string s, .int .i64 m]] W fun e w' => ∃ A n c, e = .returned (.slice A n c) ∧ OwA w' W.heap.size A n c (Bal.parse s.data.toList) ∧ Below W.heap.size W w' := by
  have HP := Lib.hid (fun w => iBallotParse_any s w hs)
  go_enter Try.func48, Try.ntmps48
  go_wp2_with fail
  refine (HP.out _).mono ?_
  rintro e w1 ⟨A, n, c, rfl, ho, hb⟩
  have hbw := Reg.unalloc hb
  have HO := Lib.hid (ho.base (B' := W.heap.size) (by simp))
  clear ho hb
  go_wp2_with fail
  go_ret
  exact ⟨A, n, c, rfl, HO.out, hbw⟩

/-- a call with one argument, and with three, as one step of a region that draws -/
theorem step_call1 {ops : Array Oper} {o : Oper} {a : Act} {K : Act → World → Prop} {Q : Exit → Act → World → Prop} {E : Prop} {w1 : World} {f : FuncId} {p : Value} {S : Ending → World → Prop} (hgd : o.guard = none) (x : Operand) (ts : Array TypeId)
    (ho : o.op = .call { callee := .value (.func f), args := #[x], argTypes := ts }) (hr : (callFunc f #[p]).run Try.prog w1 = .ok (.enter f #[p]) w1) (hx : a.eval x = p) (hc : Calls Try.prog f #[p] w1 S)
    (h : ∀ e w2, S e w2 → ∃ v, e = .returned v ∧ K (a.put o.dst v) w2) :
    if Region.wanted o (yielded ops a.tmps) = true then Oper.wp Try.prog o a w1 K Q else E := by
  have hw : Region.wanted o (yielded ops a.tmps) = true := by simp [Region.wanted, hgd]
  rw [if_pos hw]
  unfold Oper.wp execOp
  have hf : a.eval (.func f) = .func (.func f) #[] #[] := rfl
  simp only [ho, resolve, Deferred.ofValue, hf, invoke, Sem.run_bind, Sem.run_pure, Result.andThen_ok, List.map_toArray, List.map_cons, List.map_nil, hx]
  simp only [Array.append_empty, Array.empty_append] at hr ⊢
  rw [hr, Oper.upon_enter]
  refine hc.mono ?_
  intro e w2 hS
  obtain ⟨v, rfl, hK⟩ := h e w2 hS
  exact hK
theorem step_call3 {ops : Array Oper} {o : Oper} {a : Act} {K : Act → World → Prop} {Q : Exit → Act → World → Prop} {E : Prop} {w1 : World} {f : FuncId} {p q r : Value} {S : Ending → World → Prop} (hgd : o.guard = none) (x y z : Operand) (ts : Array TypeId)
    (ho : o.op = .call { callee := .value (.func f), args := #[x, y, z], argTypes := ts }) (hr : (callFunc f #[p, q, r]).run Try.prog w1 = .ok (.enter f #[p, q, r]) w1) (hx : a.eval x = p) (hy : a.eval y = q) (hz : a.eval z = r) (hc : Calls Try.prog f #[p, q, r] w1 S)
    (h : ∀ e w2, S e w2 → ∃ v, e = .returned v ∧ K (a.put o.dst v) w2) :
    if Region.wanted o (yielded ops a.tmps) = true then Oper.wp Try.prog o a w1 K Q else E := by
  have hw : Region.wanted o (yielded ops a.tmps) = true := by simp [Region.wanted, hgd]
  rw [if_pos hw]
  unfold Oper.wp execOp
  have hf : a.eval (.func f) = .func (.func f) #[] #[] := rfl
  simp only [ho, resolve, Deferred.ofValue, hf, invoke, Sem.run_bind, Sem.run_pure, Result.andThen_ok, List.map_toArray, List.map_cons, List.map_nil, hx, hy, hz]
  simp only [Array.append_empty, Array.empty_append] at hr ⊢
  rw [hr, Oper.upon_enter]
  refine hc.mono ?_
  intro e w2 hS
  obtain ⟨v, rfl, hK⟩ := h e w2 hS
  exact hK
theorem run_sText (v : Value) (w : World) : (callFunc 46 #[v]).run Try.prog w = .ok (.enter 46 #[v]) w := by
  have h := Try.func46
  go_simp
theorem run_iText (v : Value) (w : World) : (callFunc 49 #[v]).run Try.prog w = .ok (.enter 49 #[v]) w := by
  have h := Try.func49
  go_simp
theorem run_iAdd (u v t : Value) (w : World) : (callFunc 35 #[u, v, t]).run Try.prog w = .ok (.enter 35 #[u, v, t]) w := by
  have h := Try.func35
  go_simp
theorem run_l3Put (u v t : Value) (w : World) : (callFunc 40 #[u, v, t]).run Try.prog w = .ok (.enter 40 #[u, v, t]) w := by
  have h := Try.func40
  go_simp
end Go.Proofs.Ytlfgmljgoolbeaa
