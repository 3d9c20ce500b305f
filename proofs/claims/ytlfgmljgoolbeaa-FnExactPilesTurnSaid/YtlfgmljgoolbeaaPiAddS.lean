/- PilesAdd and PilesMerge of the reference. -/
import Derived.Test.YtlfgmljgoolbeaaPiPut
import Derived.Test.YtlfgmljgoolbeaaPiValid
import Derived.StillTailTactics
namespace Go.Proofs.Ytlfgmljgoolbeaa
open Go.RowKit
set_option linter.unusedSimpArgs false

/-- piles in new memory, never nil, and whether they are valid -/
def ResS (W : World) (qs : List Pil.Pl) (ok : Bool) (e : Ending) (w' : World) : Prop :=
  ∃ g n c, e = .returned (.tuple #[.slice (some ⟨g, 0, none⟩) n c, .bool ok]) ∧ OwP w' W.heap.size (some ⟨g, 0, none⟩) n c qs ∧ Below W.heap.size W w'
def paddOk (ps : List Pil.Pl) (t : ByteArray) (m : Int) : Bool := Pil.plv ps && (Pil.pv (t, m) && Pil.plv (Pil.put ps t m))
def paddL (ps : List Pil.Pl) (t : ByteArray) (m : Int) : List Pil.Pl := if paddOk ps t m then Pil.put ps t m else []
def pmergeOk (a b : List Pil.Pl) : Bool := Pil.plv a && (Pil.plv b && Pil.plv (Pil.merge a b))
def pmergeL (a b : List Pil.Pl) : List Pil.Pl := if pmergeOk a b then Pil.merge a b else []

theorem put_sizes {ps : List Pil.Pl} {t : ByteArray} {m : Int} {N : Nat} (h : ∀ p ∈ ps, p.1.size ≤ N) (ht : t.size ≤ N) : ∀ p ∈ Pil.put ps t m, p.1.size ≤ N := by
  intro p hp
  rcases (Pil.has_put ps t m p.1).1 ⟨p, hp, rfl⟩ with e | ⟨q, hq, e⟩
  · rw [← e]; exact ht
  · rw [← e]; exact h q hq
theorem merge_sizes {a b : List Pil.Pl} {N : Nat} (h : ∀ p ∈ a, p.1.size ≤ N) (hb : ∀ p ∈ b, p.1.size ≤ N) : ∀ p ∈ Pil.merge a b, p.1.size ≤ N := by
  intro p hp
  rcases (Pil.has_merge b a p.1).1 ⟨p, hp, rfl⟩ with ⟨q, hq, e⟩ | ⟨q, hq, e⟩
  · rw [← e]; exact h q hq
  · rw [← e]; exact hb q hq
theorem merge_len (b a : List Pil.Pl) : (Pil.merge a b).length ≤ a.length + b.length := by
  induction b generalizing a with
  | nil => simp [Pil.merge]
  | cons p b ih => rw [Pil.merge_cons]; have h1 := ih (Pil.put a p.1 p.2); have h2 := Pil.put_len a p.1 p.2; simp; omega
theorem plv_many {ps : List Pil.Pl} (h : Pil.plv ps = true) : ∀ p ∈ ps, 0 ≤ p.2 ∧ p.2 ≤ 4294967296 := fun p hp => by
  have := Pil.pv_pos ((Pil.plv_iff.1 h).1 p hp); omega
theorem paddL_len (ps : List Pil.Pl) (t : ByteArray) (m : Int) : (paddL ps t m).length ≤ ps.length + 1 := by
  unfold paddL; split
  · exact Pil.put_len ps t m
  · simp
theorem pmergeL_len (a b : List Pil.Pl) : (pmergeL a b).length ≤ a.length + b.length := by
  unfold pmergeL; split
  · exact merge_len b a
  · simp
theorem OwP.fromB {W : World} {B g n c : Nat} {ps : List Pil.Pl} (h : OwP W B (some ⟨g, 0, none⟩) n c ps) : B ≤ g ∧ g < W.heap.size := by
  rcases h.parts with ⟨hx, _⟩ | ⟨g', cur, hx, hx2, hx3, _⟩
  · cases hx
  · injection hx with e; injection e with e; subst e; exact ⟨hx2, (Array.getElem?_eq_some_iff.1 hx3).1⟩

set_option maxHeartbeats 1600000 in
theorem sPilesAdd_any (b off n c : Nat) (ps : List Pil.Pl) (t : ByteArray) (m : Int) (W : World) (h : RdP W W.heap.size (some ⟨b, off, none⟩) n ps) (hnc : n ≤ c) (hn : n ≤ 4194303) (hcm : c ≤ maxLen)
    (hS : ∀ p ∈ ps, p.1.size ≤ 4194304) (ht : t.size ≤ 4194304) :
    Calls Try.prog 34 #[.slice (some ⟨b, off, none⟩) n c, .string t, .int .i64 m] W (ResS W (paddL ps t m) (paddOk ps t m)) := by
  have hv := sPilesValid_any _ n c ps W h (by omega) hS
  have HE := Lib.hid (fun w (hw : W.heap.size ≤ w.heap.size) => OwP.empty w W.heap.size hw)
  have hl := h.len
  cases h1 : Pil.plv ps with
  | false =>
    have HV := Lib.hid (bool_to hv h1)
    have HR := Lib.hid (show paddOk ps t m = false ∧ paddL ps t m = [] by simp [paddOk, paddL, h1])
    clear hv h1 h hS hl
    go_enter Try.func34, Try.ntmps34
    go_wp2_with fail
    refine HV.out.mono ?_
    rintro e w1 ⟨rfl, hb1⟩
    go_wp2_with fail
    go_ret2
    exact ⟨_, 0, 0, ret_pair HR.out.1.symm, by rw [HR.out.2]; exact HE.out w1 hb1.size, hb1.alloc hb1.size _⟩
  | true =>
    have HV := Lib.hid (bool_to hv h1)
    have HM := Lib.hid (plv_many h1)
    cases h2 : Pil.pv (t, m) with
    | false =>
      have HP := Lib.hid (fun w => bool_to (sPile_any t m w ht) h2)
      have HR := Lib.hid (show paddOk ps t m = false ∧ paddL ps t m = [] by simp [paddOk, paddL, h1, h2])
      clear hv h1 h2 h hS hl
      go_enter Try.func34, Try.ntmps34
      go_wp2_with fail
      refine HV.out.mono ?_
      rintro e w1 ⟨rfl, hb1⟩
      go_wp2_with fail
      refine (HP.out _).mono ?_
      rintro e w2 ⟨rfl, hb2⟩
      have hbw := hb1.trans (hb2.mono hb1.size)
      go_wp2_with fail
      go_ret2
      exact ⟨_, 0, 0, ret_pair HR.out.1.symm, by rw [HR.out.2]; exact HE.out w2 hbw.size, hbw.alloc hbw.size _⟩
    | true =>
      have HP := Lib.hid (fun w => bool_to (sPile_any t m w ht) h2)
      have hmm := Pil.pv_pos h2
      have HPut := Lib.hid (fun (w : World) (hb : Below W.heap.size W w) => l3Put_any b off n c ps t m w ((h.below hb).more hb.size) hnc hn hcm HM.out (by omega) (by omega))
      have HSz := Lib.hid (put_sizes (t := t) (m := m) hS ht)
      have HLen := Lib.hid (Pil.put_len ps t m)
      have HL := Lib.hid hl
      cases h3 : Pil.plv (Pil.put ps t m) with
      | false =>
        have HR := Lib.hid (show paddOk ps t m = false ∧ paddL ps t m = [] by simp [paddOk, paddL, h1, h2, h3])
        have HV2 := Lib.hid (fun (w : World) g n' c' (ho : OwP w W.heap.size (some ⟨g, 0, none⟩) n' c' (Pil.put ps t m)) => bool_to (sPilesValid_any _ n' c' _ w ho.rd (by have := ho.len; have := HLen.out; have := HL.out; omega) HSz.out) h3)
        clear hv h1 h2 h3 h hS hl hmm
        go_enter Try.func34, Try.ntmps34
        go_wp2_with fail
        refine HV.out.mono ?_
        rintro e w1 ⟨rfl, hb1⟩
        go_wp2_with fail
        refine (HP.out _).mono ?_
        rintro e w2 ⟨rfl, hb2⟩
        have hbw := hb1.trans (hb2.mono hb1.size)
        have HPut2 := Lib.hid (HPut.out w2 hbw)
        go_wp2_with fail
        refine HPut2.out.mono ?_
        rintro e w3 ⟨g, n', c', rfl, ho, hb3⟩
        have hbw3 := hbw.trans (hb3.mono hbw.size)
        have HV3 := Lib.hid (HV2.out w3 g n' c' (ho.base hbw.size))
        clear ho
        go_wp2_with fail
        refine HV3.out.mono ?_
        rintro e w4 ⟨rfl, hb4⟩
        have hbw4 := hbw3.trans (hb4.mono hbw3.size)
        go_wp2_with fail
        go_ret2
        exact ⟨_, 0, 0, ret_pair HR.out.1.symm, by rw [HR.out.2]; exact HE.out w4 hbw4.size, hbw4.alloc hbw4.size _⟩
      | true =>
        have HR := Lib.hid (show paddOk ps t m = true ∧ paddL ps t m = Pil.put ps t m by simp [paddOk, paddL, h1, h2, h3])
        have HV2 := Lib.hid (fun (w : World) g n' c' (ho : OwP w W.heap.size (some ⟨g, 0, none⟩) n' c' (Pil.put ps t m)) => bool_to (sPilesValid_any _ n' c' _ w ho.rd (by have := ho.len; have := HLen.out; have := HL.out; omega) HSz.out) h3)
        clear hv h1 h2 h3 h hS hl hmm
        go_enter Try.func34, Try.ntmps34
        go_wp2_with fail
        refine HV.out.mono ?_
        rintro e w1 ⟨rfl, hb1⟩
        go_wp2_with fail
        refine (HP.out _).mono ?_
        rintro e w2 ⟨rfl, hb2⟩
        have hbw := hb1.trans (hb2.mono hb1.size)
        have HPut2 := Lib.hid (HPut.out w2 hbw)
        go_wp2_with fail
        refine HPut2.out.mono ?_
        rintro e w3 ⟨g, n', c', rfl, ho, hb3⟩
        have hbw3 := hbw.trans (hb3.mono hbw.size)
        have HV3 := Lib.hid (HV2.out w3 g n' c' (ho.base hbw.size))
        have HO := Lib.hid (ho.base hbw.size)
        clear ho
        go_wp2_with fail
        refine HV3.out.mono ?_
        rintro e w4 ⟨rfl, hb4⟩
        have hbw4 := hbw3.trans (hb4.mono hbw3.size)
        go_wp2_with fail
        go_ret2
        exact ⟨g, n', c', ret_pair HR.out.1.symm, by rw [HR.out.2]; exact HO.out.below hb4, hbw4⟩

theorem sumAt_le {l : List Pil.Pl} {u : ByteArray} (h : ∀ p ∈ l, Pil.pv p = true) : 0 ≤ Pil.sumAt l u ∧ Pil.sumAt l u ≤ Pil.total l := by
  induction l with
  | nil => simp [Pil.sumAt, Pil.total]
  | cons p l ih =>
    have h1 := Pil.pv_pos (h p (List.mem_cons_self ..))
    have h2 := ih fun q hq => h q (List.mem_cons_of_mem _ hq)
    simp only [Pil.sumAt, Pil.total]
    split <;> omega
theorem merge_many {a b : List Pil.Pl} (ha : Pil.plv a = true) (hb : Pil.plv b = true) (k : Nat) : ∀ p ∈ Pil.merge a (b.take k), 0 ≤ p.2 ∧ p.2 ≤ 4294967296 := by
  intro p hp
  have h1 := Pil.asc_sum (Pil.asc_merge (b := b.take k) (Pil.plv_iff.1 ha).2.1) p hp
  rw [Pil.sumAt_merge] at h1
  have a1 := sumAt_le (u := p.1) (Pil.plv_iff.1 ha).1
  have b1 := sumAt_le (u := p.1) (Pil.plv_iff.1 (Pil.plv_take hb k)).1
  have a2 := Pil.plv_total ha
  have b2 := Pil.plv_total (Pil.plv_take hb k)
  omega
theorem merge_take_succ (a b : List Pil.Pl) (k : Nat) (h : k < b.length) : Pil.merge a (b.take (k + 1)) = Pil.put (Pil.merge a (b.take k)) b[k].1 b[k].2 := by
  rw [Bal.take_succ_get b k h, Pil.merge_snoc]

set_option maxHeartbeats 3200000 in
set_option maxRecDepth 100000 in
theorem sPilesMerge_any (b1 o1 n1 c1 : Nat) (A2 : Option Addr) (n2 c2 : Nat) (ps qs : List Pil.Pl) (W : World) (h : RdP W W.heap.size (some ⟨b1, o1, none⟩) n1 ps) (h' : RdP W W.heap.size A2 n2 qs)
    (hn : n1 ≤ 1048576) (hn2 : n2 ≤ 1048576) (hS : ∀ p ∈ ps, p.1.size ≤ 4194304) (hS' : ∀ p ∈ qs, p.1.size ≤ 4194304) :
    Calls Try.prog 18 #[.slice (some ⟨b1, o1, none⟩) n1 c1, .slice A2 n2 c2] W (ResS W (pmergeL ps qs) (pmergeOk ps qs)) := by
  have hv := sPilesValid_any _ n1 c1 ps W h (by omega) hS
  have HE := Lib.hid (fun w (hw : W.heap.size ≤ w.heap.size) => OwP.empty w W.heap.size hw)
  have hl := h.len
  have hl' := h'.len
  cases h1 : Pil.plv ps with
  | false =>
    have HV := Lib.hid (bool_to hv h1)
    have HR := Lib.hid (show pmergeOk ps qs = false ∧ pmergeL ps qs = [] by simp [pmergeOk, pmergeL, h1])
    clear hv h1 h h' hS hS' hl hl'
    go_enter Try.func18, Try.ntmps18
    go_wp2_with fail
    refine HV.out.mono ?_
    rintro e w1 ⟨rfl, hb1⟩
    go_wp2_with fail
    go_ret2
    exact ⟨_, 0, 0, ret_pair HR.out.1.symm, by rw [HR.out.2]; exact HE.out w1 hb1.size, hb1.alloc hb1.size _⟩
  | true =>
    have HV := Lib.hid (bool_to hv h1)
    have hv2 := fun (w : World) (hb : Below W.heap.size W w) => sPilesValid_any _ n2 c2 qs w ((h'.below hb).more hb.size) (by omega) hS'
    cases h2 : Pil.plv qs with
    | false =>
      rw [h2] at hv2
      have HV2 := Lib.hid hv2
      have HR := Lib.hid (show pmergeOk ps qs = false ∧ pmergeL ps qs = [] by simp [pmergeOk, pmergeL, h2])
      clear hv hv2 h1 h2 h h' hS hS' hl hl'
      go_enter Try.func18, Try.ntmps18
      go_wp2_with fail
      refine HV.out.mono ?_
      rintro e w1 ⟨rfl, hb1⟩
      have HV3 := Lib.hid (HV2.out w1 hb1)
      go_wp2_with fail
      refine HV3.out.mono ?_
      rintro e w2 ⟨rfl, hb2⟩
      have hbw := hb1.trans (hb2.mono hb1.size)
      go_wp2_with fail
      go_ret2
      exact ⟨_, 0, 0, ret_pair HR.out.1.symm, by rw [HR.out.2]; exact HE.out w2 hbw.size, hbw.alloc hbw.size _⟩
    | true =>
      rw [h2] at hv2
      have HV2 := Lib.hid hv2
      have HMk := Lib.hid (fun k => merge_many h1 h2 k)
      have HMq := Lib.hid (plv_many h2)
      have HSz := Lib.hid (fun k => merge_sizes (b := qs.take k) hS (fun p hp => hS' p (List.mem_of_mem_take hp)))
      have HSz' := Lib.hid hS'
      have HSrc := Lib.hid (fun (w' : World) (hb : Below W.heap.size W w') => srcp_all (h.below hb))
      have HL := Lib.hid hl
      have HL' := Lib.hid hl'
      have HLn := Lib.hid (fun k => merge_len (qs.take k) ps)
      have HOk := Lib.hid (show pmergeOk ps qs = Pil.plv (Pil.merge ps qs) by simp [pmergeOk, h1, h2])
      clear hv hv2 h1 h2 h hS hS' hl hl'
      go_enter Try.func18, Try.ntmps18
      go_wp2_with fail
      refine HV.out.mono ?_
      rintro e w1 ⟨rfl, hb1⟩
      have HV3 := Lib.hid (HV2.out w1 hb1)
      go_wp2_with fail
      refine HV3.out.mono ?_
      rintro e w2 ⟨rfl, hb2⟩
      have hbw := hb1.trans (hb2.mono hb1.size)
      have hBw := hbw.size
      go_wp2_with (at_builtin; refine wpList_appP (by rfl) _ _ (by rfl) (B := W.heap.size) (by rfl) ⟨b1, o1, none⟩ n1 c1 (by rfl) (HE.out w2 hBw) HL.out (HSrc.out _ (hbw.alloc hBw _)) n1 (Nat.zero_add n1) (by omega) (by simp; omega) ?_)
      intro A3 c3 w3 ho3 hb3 _ _ g3 hA3
      subst hA3
      have hbw3 := (hbw.alloc hBw _).trans hb3
      have HO3 := Lib.hid ho3
      clear ho3 hb3
      go_wp2_with fail
      go_loopw [6, 7] (fun v i wr => ∃ k g n' c' : Nat, k ≤ n2 ∧ i = .int .i64 k ∧ v = .slice (some ⟨g, 0, none⟩) n' c' ∧ OwP wr W.heap.size (some ⟨g, 0, none⟩) n' c' (Pil.merge ps (qs.take k)) ∧ Below W.heap.size W wr) (fun _ i _ => n2 - (intOf i).toNat)
      case atStart => exact ⟨0, g3, n1, c3, Nat.zero_le _, rfl, rfl, HO3.out, hbw3⟩
      case round =>
        obtain ⟨k, g, n', c', hk, rfl, rfl, ho, hb⟩ := hrel
        have hBs := hb.size
        have hn' : n' ≤ 2097152 := by have h1 := ho.len; have h2 := HLn.out k; have h3 : (qs.take k).length ≤ k := List.length_take_le _ _; have := HL.out; omega
        have HO := Lib.hid ho
        clear ho
        by_cases hlt : k < n2
        · have hk' : k < qs.length := by have := HL'.out; omega
          obtain ⟨b, off, rfl, hbB, hcell⟩ := (h'.below hb).at_ hk'
          obtain ⟨d0, d1⟩ := hcell k hk'
          have hlt' : (k : Int) < (n2 : Int) := by omega
          have hk0 : (0 : Int) ≤ (k : Int) := by omega
          have HS := Lib.hid (merge_take_succ ps qs k hk')
          obtain ⟨m0, m1⟩ := HMq.out qs[k] (List.getElem_mem hk')
          clear h' hcell
          generalize qs[k].1 = s at *
          generalize qs[k].2 = m at *
          have HPut := Lib.hid (fun (w : World) (hb2 : Below wr.heap.size wr w) => l3Put_any g 0 n' c' (Pil.merge ps (qs.take k)) s m w ((HO.out.below hb2).rd) (HO.out.cap.1) (by omega) (HO.out.cap.2) (HMk.out k) m0 m1)
          go_wp2_with fail
          go_still_tail 11, (by kernel_rfl)
          have HPut2 := Lib.hid (HPut.out wr.drew ((Below.refl _ _).drew))
          go_wp2_with fail
          refine HPut2.out.mono ?_
          rintro e w4 ⟨g4, n4, c4, rfl, ho4, hb4⟩
          have hb5 := hb.trans ((Reg.undrew hb4).mono hBs)
          have HO4 := Lib.hid (ho4.base (show W.heap.size ≤ wr.drew.heap.size from hBs))
          clear ho4 hb4
          go_wp2_with fail
          go_roundw
          case rel => exact ⟨k + 1, g4, n4, c4, by omega, by go_num, rfl, by rw [HS.out]; exact HO4.out, hb5⟩
          case measure => simp [intOf]; omega
        · have hlt' : ¬ (k : Int) < (n2 : Int) := by omega
          have hT : qs.take k = qs := List.take_of_length_le (by have := HL'.out; omega)
          have ho := HO.out
          have hsz := HSz.out k
          rw [hT] at ho hsz
          have hv4 := sPilesValid_any _ n' c' _ wr ho.rd (by omega) hsz
          clear h' hT hsz
          cases h3 : Pil.plv (Pil.merge ps qs) with
          | false =>
            have HV4 := Lib.hid (bool_to hv4 h3)
            have HR := Lib.hid (show pmergeOk ps qs = false ∧ pmergeL ps qs = [] by simp [pmergeL, HOk.out, h3])
            clear hv4 h3 ho
            go_wp2_with fail
            refine HV4.out.mono ?_
            rintro e w4 ⟨rfl, hb4⟩
            have hbw4 := hb.trans (hb4.mono hBs)
            go_wp2_with fail
            go_ret2
            exact ⟨_, 0, 0, ret_pair HR.out.1.symm, by rw [HR.out.2]; exact HE.out w4 hbw4.size, hbw4.alloc hbw4.size _⟩
          | true =>
            have HV4 := Lib.hid (bool_to hv4 h3)
            have HR := Lib.hid (show pmergeOk ps qs = true ∧ pmergeL ps qs = Pil.merge ps qs by simp [pmergeL, HOk.out, h3])
            have HO4 := Lib.hid ho
            clear hv4 h3 ho
            go_wp2_with fail
            refine HV4.out.mono ?_
            rintro e w4 ⟨rfl, hb4⟩
            have hbw4 := hb.trans (hb4.mono hBs)
            go_wp2_with fail
            go_ret2
            exact ⟨g, n', c', ret_pair HR.out.1.symm, by rw [HR.out.2]; exact HO4.out.below hb4, hbw4⟩
end Go.Proofs.Ytlfgmljgoolbeaa
