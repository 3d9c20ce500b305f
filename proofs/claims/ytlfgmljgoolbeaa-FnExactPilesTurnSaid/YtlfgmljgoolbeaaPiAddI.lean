/- PilesAdd and PilesMerge of the program. -/
import Derived.Test.YtlfgmljgoolbeaaPiOf
namespace Go.Proofs.Ytlfgmljgoolbeaa
open Go.RowKit
set_option linter.unusedSimpArgs false

theorem gather_put {ps : List Pil.Pl} (h : Pil.plv ps = true) (t : ByteArray) (m : Int) : Pil.merge [] (ps ++ [(t, m)]) = Pil.put ps t m := by
  rw [Pil.gather_two (Pil.plv_iff.1 h).2.1]; rfl
theorem gather_add {ps : List Pil.Pl} {t : ByteArray} {m : Int} (h1 : Pil.plv ps = true) (h2 : Pil.pv (t, m) = true) : gatherOk (ps ++ [(t, m)]) = paddOk ps t m ∧ gatherL (ps ++ [(t, m)]) = paddL ps t m := by
  have e : gatherOk (ps ++ [(t, m)]) = paddOk ps t m := by simp [gatherOk, paddOk, gather_put h1, h1, h2]
  exact ⟨e, by unfold gatherL paddL; rw [e, gather_put h1]⟩
theorem gather_merge {a b : List Pil.Pl} (h1 : Pil.plv a = true) (h2 : Pil.plv b = true) : gatherOk (a ++ b) = pmergeOk a b ∧ gatherL (a ++ b) = pmergeL a b := by
  have e : gatherOk (a ++ b) = pmergeOk a b := by simp [gatherOk, pmergeOk, Pil.gather_two (Pil.plv_iff.1 h1).2.1, h1, h2]
  exact ⟨e, by unfold gatherL pmergeL; rw [e, Pil.gather_two (Pil.plv_iff.1 h1).2.1]⟩
theorem one_rd {W : World} {B g : Nat} {t : ByteArray} {m : Int} (hB : g < B) (h0 : W.cell? ⟨g, 0, none⟩ = some (.string t)) (h1 : W.cell? ⟨g, 1, none⟩ = some (.int .i64 m)) : RdP W B (some ⟨g, 0, none⟩) 1 [(t, m)] :=
  ⟨rfl, fun _ => ⟨g, 0, rfl, hB, fun j hj => by
    have : j = 0 := by simp at hj; exact hj
    subst this
    exact ⟨h0, h1⟩⟩⟩
theorem two_ls {W : World} {B g n1 c1 n2 c2 : Nat} {A1 A2 : Option Addr} {a b : List Pil.Pl} (hB : g < B) (h0 : W.cell? ⟨g, 0, none⟩ = some (.slice A1 n1 c1)) (h1 : W.cell? ⟨g, 1, none⟩ = some (.slice A2 n2 c2)) (r1 : RdP W B A1 n1 a) (r2 : RdP W B A2 n2 b) : RdLs W B g [a, b] :=
  ⟨hB, fun i hi => match i, hi with
    | 0, _ => ⟨A1, n1, c1, h0, r1⟩
    | 1, _ => ⟨A2, n2, c2, h1, r2⟩⟩

set_option maxHeartbeats 1600000 in
theorem iPilesAdd_any (A : Option Addr) (n c : Nat) (ps : List Pil.Pl) (t : ByteArray) (m : Int) (W : World) (h : RdP W W.heap.size A n ps) (hn : n ≤ 4194303)
    (hS : ∀ p ∈ ps, p.1.size ≤ 4194304) (ht : t.size ≤ 4194304) :
    Calls Try.prog 35 #[.slice A n c, .string t, .int .i64 m] W (ResP W (paddL ps t m) (paddOk ps t m)) := by
  have hl := h.len
  cases h1 : Pil.plv ps with
  | false =>
    have HV := Lib.hid (fun (w : World) (hb : Below W.heap.size W w) => bool_to (iPilesValid_any A n c ps w ((h.below hb).more hb.size) (by omega) hS) h1)
    have HR := Lib.hid (show paddOk ps t m = false ∧ paddL ps t m = [] by simp [paddOk, paddL, h1])
    clear h1 h hS hl
    go_enter Try.func35, Try.ntmps35
    go_wp2_with fail
    have HV2 := Lib.hid (HV.out (W.alloc (.cells #[.string t, .int .i64 m] 44)) ((Below.refl _ _).alloc (Nat.le_refl _) _))
    refine HV2.out.mono ?_
    rintro e w1 ⟨rfl, hb1⟩
    have hbw := Reg.unalloc hb1
    clear hb1
    go_wp2_with fail
    go_ret2
    exact ⟨none, 0, 0, ret_pair HR.out.1.symm, by rw [HR.out.2]; exact OwP.nil _ _, hbw⟩
  | true =>
    have HV := Lib.hid (fun (w : World) (hb : Below W.heap.size W w) => bool_to (iPilesValid_any A n c ps w ((h.below hb).more hb.size) (by omega) hS) h1)
    cases h2 : Pil.pv (t, m) with
    | false =>
      have HP := Lib.hid (fun w => bool_to (iPileValid_any t m w ht) h2)
      have HR := Lib.hid (show paddOk ps t m = false ∧ paddL ps t m = [] by simp [paddOk, paddL, h1, h2])
      clear h1 h2 h hS hl
      go_enter Try.func35, Try.ntmps35
      go_wp2_with fail
      have HV2 := Lib.hid (HV.out (W.alloc (.cells #[.string t, .int .i64 m] 44)) ((Below.refl _ _).alloc (Nat.le_refl _) _))
      refine HV2.out.mono ?_
      rintro e w1 ⟨rfl, hb1⟩
      have hbw := Reg.unalloc hb1
      obtain ⟨z, c0, c1, -, -⟩ := Reg.newbox hb1
      clear hb1
      go_wp2_with fail
      refine (HP.out _).mono ?_
      rintro e w2 ⟨rfl, hb2⟩
      have hbw2 := hbw.trans (hb2.mono hbw.size)
      go_wp2_with fail
      go_ret2
      exact ⟨none, 0, 0, ret_pair HR.out.1.symm, by rw [HR.out.2]; exact OwP.nil _ _, hbw2⟩
    | true =>
      have HP := Lib.hid (fun w => bool_to (iPileValid_any t m w ht) h2)
      have HG := Lib.hid (gather_add h1 h2)
      have hp12 := (Pil.plv_iff.1 h1).2.2
      have HO := Lib.hid (fun (w : World) (g cc : Nat) (hR : RdLs w w.heap.size g [ps, [(t, m)]]) => (show Calls Try.prog 39 #[.slice (some ⟨g, 0, none⟩) 2 cc] w (ResP w (paddL ps t m) (paddOk ps t m)) by
        have h3 := pilesOf_any g cc [ps, [(t, m)]] w hR (fun l hl p hp => by
          rcases List.mem_cons.1 hl with rfl | hl
          · exact (Pil.plv_iff.1 h1).1 p hp
          · rw [List.mem_singleton.1 hl] at hp; rw [List.mem_singleton.1 hp]; exact h2) (by simp; omega) (by simp)
        have e : [ps, [(t, m)]].flatten = ps ++ [(t, m)] := by simp
        rw [e, (gather_add h1 h2).1, (gather_add h1 h2).2] at h3
        exact h3))
      have HRd := Lib.hid (fun (w : World) (hb : Below W.heap.size W w) => (h.below hb))
      clear h1 h2 h hS hl
      go_enter Try.func35, Try.ntmps35
      go_wp2_with fail
      have HV2 := Lib.hid (HV.out (W.alloc (.cells #[.string t, .int .i64 m] 44)) ((Below.refl _ _).alloc (Nat.le_refl _) _))
      refine HV2.out.mono ?_
      rintro e w1 ⟨rfl, hb1⟩
      have hbw := Reg.unalloc hb1
      obtain ⟨z, c0, c1, -, -⟩ := Reg.newbox hb1
      clear hb1
      go_wp2_with fail
      refine (HP.out _).mono ?_
      rintro e w2 ⟨rfl, hb2⟩
      have hbw2 := hbw.trans (hb2.mono hbw.size)
      have d0 := Reg.keepc hb2 z c0
      have d1 := Reg.keepc hb2 z c1
      have z2 : W.heap.size < w2.heap.size := Nat.lt_of_lt_of_le z hb2.size
      clear c0 c1 hb2 hbw
      have hbw3 : Below W.heap.size W ((w2.alloc (.cells #[.string t, .int .i64 m] 44)).alloc (.cells #[.slice A n c, .slice (some ⟨w2.heap.size, 0, none⟩) 1 1] 23)) := (hbw2.alloc hbw2.size _).alloc (by simp; omega) _
      have HL := Lib.hid (two_ls (W := ((w2.alloc (.cells #[.string t, .int .i64 m] 44)).alloc (.cells #[.slice A n c, .slice (some ⟨w2.heap.size, 0, none⟩) 1 1] 23))) (B := ((w2.alloc (.cells #[.string t, .int .i64 m] 44)).alloc (.cells #[.slice A n c, .slice (some ⟨w2.heap.size, 0, none⟩) 1 1] 23)).heap.size) (g := w2.heap.size + 1) (A1 := A) (n1 := n) (c1 := c) (A2 := some ⟨w2.heap.size, 0, none⟩) (n2 := 1) (c2 := 1) (by simp) (by simp [go_sem]) (by simp [go_sem]) ((HRd.out _ hbw3).more (by simp; omega)) (one_rd (t := t) (m := m) (by simp; omega) (by simp [go_sem]) (by simp [go_sem])))
      have HO2 := Lib.hid (HO.out _ _ 2 HL.out)
      have HB3 := Lib.hid hbw3
      clear hbw3
      go_wp2_with fail
      refine HO2.out.mono ?_
      rintro e w4 ⟨A4, n4, c4, rfl, ho4, hb4⟩
      have hbw4 := HB3.out.trans (hb4.mono HB3.out.size)
      have HO4 := Lib.hid (ho4.base HB3.out.size)
      clear ho4 hb4
      go_wp2_with fail
      go_ret2
      exact ⟨A4, n4, c4, rfl, HO4.out, hbw4⟩

set_option maxHeartbeats 1600000 in
theorem iPilesMerge_any (A1 : Option Addr) (n1 c1 : Nat) (A2 : Option Addr) (n2 c2 : Nat) (ps qs : List Pil.Pl) (W : World) (h : RdP W W.heap.size A1 n1 ps) (h' : RdP W W.heap.size A2 n2 qs)
    (hn : n1 ≤ 4194303) (hn2 : n2 ≤ 4194303) (hS : ∀ p ∈ ps, p.1.size ≤ 4194304) (hS' : ∀ p ∈ qs, p.1.size ≤ 4194304) :
    Calls Try.prog 17 #[.slice A1 n1 c1, .slice A2 n2 c2] W (ResP W (pmergeL ps qs) (pmergeOk ps qs)) := by
  have hv := iPilesValid_any A1 n1 c1 ps W h (by omega) hS
  have hv2 := fun (w : World) (hb : Below W.heap.size W w) => iPilesValid_any A2 n2 c2 qs w ((h'.below hb).more hb.size) (by omega) hS'
  cases h1 : Pil.plv ps with
  | false =>
    have HV := Lib.hid (bool_to hv h1)
    have HR := Lib.hid (show pmergeOk ps qs = false ∧ pmergeL ps qs = [] by simp [pmergeOk, pmergeL, h1])
    clear hv hv2 h1 h h' hS hS'
    go_enter Try.func17, Try.ntmps17
    go_wp2_with fail
    refine HV.out.mono ?_
    rintro e w1 ⟨rfl, hb1⟩
    go_wp2_with fail
    go_ret2
    exact ⟨none, 0, 0, ret_pair HR.out.1.symm, by rw [HR.out.2]; exact OwP.nil _ _, hb1⟩
  | true =>
    have HV := Lib.hid (bool_to hv h1)
    cases h2 : Pil.plv qs with
    | false =>
      rw [h2] at hv2
      have HV2 := Lib.hid hv2
      have HR := Lib.hid (show pmergeOk ps qs = false ∧ pmergeL ps qs = [] by simp [pmergeOk, pmergeL, h2])
      clear hv hv2 h1 h2 h h' hS hS'
      go_enter Try.func17, Try.ntmps17
      go_wp2_with fail
      refine HV.out.mono ?_
      rintro e w1 ⟨rfl, hb1⟩
      have HV3 := Lib.hid (HV2.out w1 hb1)
      go_wp2_with fail
      refine HV3.out.mono ?_
      rintro e w2 ⟨rfl, hb2⟩
      have hbw := hb1.trans (hb2.mono hb1.size)
      go_wp2_with fail
      go_ret2
      exact ⟨none, 0, 0, ret_pair HR.out.1.symm, by rw [HR.out.2]; exact OwP.nil _ _, hbw⟩
    | true =>
      rw [h2] at hv2
      have HV2 := Lib.hid hv2
      have hp1 := (Pil.plv_iff.1 h1).2.2
      have hp2 := (Pil.plv_iff.1 h2).2.2
      have HO := Lib.hid (fun (w : World) (g cc : Nat) (hR : RdLs w w.heap.size g [ps, qs]) => (show Calls Try.prog 39 #[.slice (some ⟨g, 0, none⟩) 2 cc] w (ResP w (pmergeL ps qs) (pmergeOk ps qs)) by
        have h3 := pilesOf_any g cc [ps, qs] w hR (fun l hl p hp => by
          rcases List.mem_cons.1 hl with rfl | hl
          · exact (Pil.plv_iff.1 h1).1 p hp
          · rw [List.mem_singleton.1 hl] at hp; exact (Pil.plv_iff.1 h2).1 p hp) (by simp; omega) (by simp)
        have e : [ps, qs].flatten = ps ++ qs := by simp
        rw [e, (gather_merge h1 h2).1, (gather_merge h1 h2).2] at h3
        exact h3))
      have HRd := Lib.hid (fun (w : World) (hb : Below W.heap.size W w) => And.intro (h.below hb) (h'.below hb))
      clear hv hv2 h1 h2 h h' hS hS'
      go_enter Try.func17, Try.ntmps17
      go_wp2_with fail
      refine HV.out.mono ?_
      rintro e w1 ⟨rfl, hb1⟩
      have HV3 := Lib.hid (HV2.out w1 hb1)
      go_wp2_with fail
      refine HV3.out.mono ?_
      rintro e w2 ⟨rfl, hb2⟩
      have hbw := hb1.trans (hb2.mono hb1.size)
      have hbw3 : Below W.heap.size W (w2.alloc (.cells #[.slice A1 n1 c1, .slice A2 n2 c2] 23)) := hbw.alloc hbw.size _
      have HL := Lib.hid (two_ls (W := w2.alloc (.cells #[.slice A1 n1 c1, .slice A2 n2 c2] 23)) (B := (w2.alloc (.cells #[.slice A1 n1 c1, .slice A2 n2 c2] 23)).heap.size) (g := w2.heap.size) (A1 := A1) (n1 := n1) (c1 := c1) (A2 := A2) (n2 := n2) (c2 := c2) (by simp) (by simp [go_sem]) (by simp [go_sem]) ((HRd.out _ hbw3).1.more hbw3.size) ((HRd.out _ hbw3).2.more hbw3.size))
      have HO2 := Lib.hid (HO.out _ _ 2 HL.out)
      have HB3 := Lib.hid hbw3
      clear hbw3 hb2 hb1
      go_wp2_with fail
      refine HO2.out.mono ?_
      rintro e w4 ⟨A4, n4, c4, rfl, ho4, hb4⟩
      have hbw4 := HB3.out.trans (hb4.mono HB3.out.size)
      have HO4 := Lib.hid (ho4.base HB3.out.size)
      clear ho4 hb4
      go_wp2_with fail
      go_ret2
      exact ⟨A4, n4, c4, rfl, HO4.out, hbw4⟩
end Go.Proofs.Ytlfgmljgoolbeaa
