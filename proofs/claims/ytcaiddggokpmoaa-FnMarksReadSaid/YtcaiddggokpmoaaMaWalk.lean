/- marksValid, l2Marks, MarksOf, l2With, MarksRead. -/
import Derived.Test.YtcaiddggokpmoaaOwn
import Derived.Test.YtcaiddggokpmoaaBaWalk
import Derived.Test.YtcaiddggokpmoaaMaPlain
namespace Go.Proofs.Ytcaiddggokpmoaa
open Go.RowKit

theorem iMarksValid_any (A : Option Addr) (n c : Nat) (xs : List Int) (W : World) (B : Nat) (h : RdI W B A n xs) (hn : n ≤ 4194304) :
    Calls Try.prog 36 #[.slice A n c] W fun e w' => e = .returned (.bool (Ma.mv xs)) ∧ W = w' := by
  have HL := Lib.hid h.len
  go_enter Try.func36, Try.ntmps36
  go_wp2_with fail
  go_loop [7] (fun i => ∃ k : Nat, k ≤ n ∧ i = .int .i64 k ∧ Ma.MPre xs k) (fun i => n - (intOf i).toNat)
  case atStart => exact ⟨0, Nat.zero_le _, rfl, Ma.mpre_zero _⟩
  case round =>
    obtain ⟨k, hk, rfl, hf⟩ := hrel
    have HF := Lib.hid hf
    clear hf
    by_cases hlt : k < n
    · have hk' : k < xs.length := by have := HL.out; omega
      obtain ⟨b, off, rfl, hb, hcell⟩ := h.at_ hlt hk'
      have hlt' : (k : Int) < (n : Int) := by omega
      have hk0 : (0 : Int) ≤ (k : Int) := by omega
      clear h
      by_cases hr : 0 ≤ xs[k] ∧ xs[k] ≤ 9
      · have HS := Lib.hid (Ma.mpre_succ hk' HF.out hr.1 hr.2)
        obtain ⟨r0, r1⟩ := hr
        generalize xs[k] = y at hcell r0 r1
        go_wp2_with fail
        go_round
        case rel => exact ⟨k + 1, by omega, by go_num, HS.out⟩
        case measure => simp [intOf]; omega
      · have HN := Lib.hid (Ma.mv_at hk' hr)
        generalize xs[k] = y at hcell hr
        by_cases h0 : y < 0
        · clear hr
          go_wp2_with fail
          go_ret
          exact ⟨ret_bool HN.out.symm, rfl⟩
        · have h9 : 9 < y := by omega
          clear hr
          go_wp2_with fail
          go_ret
          exact ⟨ret_bool HN.out.symm, rfl⟩
    · have hlt' : ¬ (k : Int) < (n : Int) := by omega
      have hkl : k = xs.length := by have := HL.out; omega
      clear h
      by_cases h5 : 1 ≤ (n : Int) ∧ (n : Int) ≤ 5
      · have HR := Lib.hid (Ma.mv_of (by rw [← hkl]; exact HF.out) (by have := HL.out; omega))
        clear hkl
        go_wp2_with fail
        refine (isMany_t _ _ h5).mono ?_
        rintro e w1 ⟨rfl, rfl⟩
        go_wp2_with fail
        go_ret
        exact ⟨ret_bool HR.out.symm, rfl⟩
      · have HR := Lib.hid (Ma.mv_len (xs := xs) (by have := HL.out; omega))
        clear hkl
        go_wp2_with fail
        refine (isMany_f _ _ h5).mono ?_
        rintro e w1 ⟨rfl, rfl⟩
        go_wp2_with fail
        go_ret
        exact ⟨ret_bool HR.out.symm, rfl⟩

theorem sMarks_any (A : Option Addr) (n c : Nat) (xs : List Int) (W : World) (B : Nat) (h : RdI W B A n xs) (hn : n ≤ 4194304) :
    Calls Try.prog 34 #[.slice A n c] W fun e w' => e = .returned (.bool (Ma.mv xs)) ∧ W = w' := by
  have HL := Lib.hid h.len
  go_enter Try.func34, Try.ntmps34
  go_wp2_with fail
  go_loop [3] (fun i => ∃ k : Nat, k ≤ n ∧ i = .int .i64 k ∧ Ma.MPre xs k) (fun i => n - (intOf i).toNat)
  case atStart => exact ⟨0, Nat.zero_le _, rfl, Ma.mpre_zero _⟩
  case round =>
    obtain ⟨k, hk, rfl, hf⟩ := hrel
    have HF := Lib.hid hf
    clear hf
    by_cases hlt : k < n
    · have hk' : k < xs.length := by have := HL.out; omega
      obtain ⟨b, off, rfl, hb, hcell⟩ := h.at_ hlt hk'
      have hlt' : (k : Int) < (n : Int) := by omega
      have hk0 : (0 : Int) ≤ (k : Int) := by omega
      clear h
      by_cases hr : 0 ≤ xs[k] ∧ xs[k] ≤ 9
      · have HS := Lib.hid (Ma.mpre_succ hk' HF.out hr.1 hr.2)
        generalize xs[k] = y at hcell hr
        go_wp2_with fail
        refine (l6In_t _ _ _ _ hr).mono ?_
        rintro e w1 ⟨rfl, rfl⟩
        go_wp2_with fail
        go_round
        case rel => exact ⟨k + 1, by omega, by go_num, HS.out⟩
        case measure => simp [intOf]; omega
      · have HN := Lib.hid (Ma.mv_at hk' hr)
        generalize xs[k] = y at hcell hr
        go_wp2_with fail
        refine (l6In_f _ _ _ _ hr).mono ?_
        rintro e w1 ⟨rfl, rfl⟩
        go_wp2_with fail
        go_ret
        exact ⟨ret_bool HN.out.symm, rfl⟩
    · have hlt' : ¬ (k : Int) < (n : Int) := by omega
      have hkl : k = xs.length := by have := HL.out; omega
      clear h
      by_cases h5 : 1 ≤ (n : Int) ∧ (n : Int) ≤ 5
      · have HR := Lib.hid (Ma.mv_of (by rw [← hkl]; exact HF.out) (by have := HL.out; omega))
        clear hkl
        go_wp2_with fail
        refine (l6In_t _ _ _ _ h5).mono ?_
        rintro e w1 ⟨rfl, rfl⟩
        go_wp2_with fail
        go_ret
        exact ⟨ret_bool HR.out.symm, rfl⟩
      · have HR := Lib.hid (Ma.mv_len (xs := xs) (by have := HL.out; omega))
        clear hkl
        go_wp2_with fail
        refine (l6In_f _ _ _ _ h5).mono ?_
        rintro e w1 ⟨rfl, rfl⟩
        go_wp2_with fail
        go_ret
        exact ⟨ret_bool HR.out.symm, rfl⟩

/-! MarksOf -/
set_option maxHeartbeats 1600000 in
theorem iMarksOf_any (A : Option Addr) (n c : Nat) (xs : List Int) (m : Int) (W : World) (h : RdI W W.heap.size A n xs) (hn : n ≤ c) (hc : n ≤ 4194304) (hcm : c ≤ maxLen) :
    Calls Try.prog 15 #[.slice A n c, .int .i64 m] W (ResI W (Ma.marksOf xs m) (Bal.bv xs m)) := by
  have HL := Lib.hid h.len
  have hv := iBallotValid_any A n c xs m W _ h hn hc hcm
  cases hok : Bal.bv xs m with
  | false =>
    rw [hok] at hv
    have HV := Lib.hid hv
    have HT := Lib.hid (Ma.marksOf_f hok)
    have HE := Lib.hid (fun w => OwA.empty w W.heap.size)
    clear hv hok h
    go_enter Try.func15, Try.ntmps15
    go_wp2_with fail
    refine HV.out.mono ?_
    rintro e w1 ⟨rfl, rfl⟩
    go_wp2_with fail
    go_ret2
    exact ⟨_, 0, 0, rfl, by rw [HT.out]; exact OwA.nil _ _, Below.refl _ _⟩
  | true =>
    rw [hok] at hv
    have HV := Lib.hid hv
    have HT := Lib.hid (Ma.marksOf_t hok)
    have HB := Lib.hid (Bal.bv_iff.1 hok)
    obtain ⟨k', rfl⟩ : ∃ k' : Nat, m = k' := ⟨m.toNat, by have := HB.out.1; omega⟩
    have hm1 : 1 ≤ k' := by have := HB.out.1; omega
    have hm5 : k' ≤ 5 := by have := HB.out.1; omega
    have hl5 : n ≤ 5 := by have h1 := Bal.bv_len HB.out; have h2 := HL.out; omega
    have hmk := run_make_ints k' (by omega)
    have HM := Lib.hid (made W k')
    clear hv hok
    go_enter Try.func15, Try.ntmps15
    go_wp2_with fail
    refine HV.out.mono ?_
    rintro e w1 ⟨rfl, rfl⟩
    go_wp2_with fail
    clear hmk
    go_loopw [17] (fun i wr => ∃ k : Nat, k ≤ n ∧ i = .int .i64 k ∧ OwnI wr W.heap.size (Ma.markUp k' xs k) ∧ Below W.heap.size W wr) (fun i _ => n - (intOf i).toNat)
    case atStart => exact ⟨0, Nat.zero_le _, rfl, HM.out, (Below.refl _ _).alloc (Nat.le_refl _) _⟩
    case round =>
      obtain ⟨k, hk, rfl, ho, hb⟩ := hrel
      have HO := Lib.hid ho
      clear ho
      by_cases hlt : k < n
      · have hk2 : k < xs.length := by have := HL.out; omega
        obtain ⟨b, off, rfl, hbB, hcell⟩ := (h.below hb).at_ hlt hk2
        have hlt' : (k : Int) < (n : Int) := by omega
        have hk0 : (0 : Int) ≤ (k : Int) := by omega
        obtain ⟨y0, y1⟩ := HB.out.2.1 xs[k] (List.getElem_mem hk2)
        have HU := Lib.hid (Ma.markUp_succ k' xs k)
        have e1 : xs.getD k 0 = xs[k] := by rw [List.getD_eq_getElem?_getD, List.getElem?_eq_getElem hk2]; rfl
        rw [e1] at HU
        have hf := HO.out.frozen xs[k].toNat
        have hl2 := Ma.markUp_len k' xs k
        have hcl := HO.out.cell xs[k].toNat (by rw [hl2]; omega)
        have HS := Lib.hid (HO.out.set_ xs[k].toNat ((k : Int) + 1))
        obtain ⟨old, hold⟩ : ∃ v, (Ma.markUp k' xs k)[xs[k].toNat]'(by rw [hl2]; omega) = v := ⟨_, rfl⟩
        rw [hold] at hcl
        clear hold h e1 hl2
        generalize xs[k] = y at hcell y0 y1 HU hf hcl HS
        go_wp2_with fail
        go_roundw
        case rel => exact ⟨k + 1, by omega, by go_num, by rw [HU.out]; exact HS.out, hb.setCell (Nat.le_refl _) _⟩
        case measure => simp [intOf]; omega
      · have hlt' : ¬ (k : Int) < (n : Int) := by omega
        obtain rfl : k = n := by omega
        clear h
        go_wp2_with fail
        go_ret2
        refine ⟨_, k', k', rfl, ?_, hb⟩
        rw [HT.out, Int.toNat_natCast, HL.out]
        exact HO.out.own _ (Nat.le_refl _) k' (Ma.markUp_len _ _ _) (by omega)

set_option maxHeartbeats 1600000 in
theorem sMarksOf_any (A : Option Addr) (n c : Nat) (xs : List Int) (m : Int) (W : World) (h : RdI W W.heap.size A n xs) (hn : n ≤ c) (hc : n ≤ 4194304) (hcm : c ≤ maxLen) :
    Calls Try.prog 13 #[.slice A n c, .int .i64 m] W (ResI W (Ma.marksOf xs m) (Bal.bv xs m)) := by
  have HL := Lib.hid h.len
  have hv := sBallotValid_any A n c xs m W _ h hn hc hcm
  cases hok : Bal.bv xs m with
  | false =>
    rw [hok] at hv
    have HV := Lib.hid hv
    have HT := Lib.hid (Ma.marksOf_f hok)
    have HE := Lib.hid (fun w => OwA.empty w W.heap.size)
    clear hv hok h
    go_enter Try.func13, Try.ntmps13
    go_wp2_with fail
    refine HV.out.mono ?_
    rintro e w1 ⟨rfl, q, rfl⟩
    go_wp2_with fail
    go_ret2
    exact ⟨_, 0, 0, rfl, by rw [HT.out]; exact HE.out _ (by simp), (Reg.drewN (Below.refl _ _) q).alloc (by simp) _⟩
  | true =>
    rw [hok] at hv
    have HV := Lib.hid hv
    have HT := Lib.hid (Ma.marksOf_t hok)
    have HB := Lib.hid (Bal.bv_iff.1 hok)
    obtain ⟨k', rfl⟩ : ∃ k' : Nat, m = k' := ⟨m.toNat, by have := HB.out.1; omega⟩
    have hm1 : 1 ≤ k' := by have := HB.out.1; omega
    have hm5 : k' ≤ 5 := by have := HB.out.1; omega
    have hl5 : n ≤ 5 := by have h1 := Bal.bv_len HB.out; have h2 := HL.out; omega
    have hmk := run_make_ints k' (by omega)
    have HM := Lib.hid (made W k')
    clear hv hok
    go_enter Try.func13, Try.ntmps13
    go_wp2_with fail
    refine HV.out.mono ?_
    rintro e w1 ⟨rfl, q, rfl⟩
    go_wp2_with fail
    clear hmk
    go_loopw [7] (fun i wr => ∃ k : Nat, k ≤ n ∧ i = .int .i64 k ∧ OwnI wr W.heap.size (Ma.markUp k' xs k) ∧ Below W.heap.size W wr) (fun i _ => n - (intOf i).toNat)
    case atStart => exact ⟨0, Nat.zero_le _, rfl, HM.out, Reg.drewN ((Below.refl _ _).alloc (Nat.le_refl _) _) q⟩
    case round =>
      obtain ⟨k, hk, rfl, ho, hb⟩ := hrel
      have HO := Lib.hid ho
      clear ho
      by_cases hlt : k < n
      · have hk2 : k < xs.length := by have := HL.out; omega
        obtain ⟨b, off, rfl, hbB, hcell⟩ := (h.below hb).at_ hlt hk2
        have hlt' : (k : Int) < (n : Int) := by omega
        have hk0 : (0 : Int) ≤ (k : Int) := by omega
        obtain ⟨y0, y1⟩ := HB.out.2.1 xs[k] (List.getElem_mem hk2)
        have HU := Lib.hid (Ma.markUp_succ k' xs k)
        have e1 : xs.getD k 0 = xs[k] := by rw [List.getD_eq_getElem?_getD, List.getElem?_eq_getElem hk2]; rfl
        rw [e1] at HU
        have hf := HO.out.frozen xs[k].toNat
        have hl2 := Ma.markUp_len k' xs k
        have hcl := HO.out.cell xs[k].toNat (by rw [hl2]; omega)
        have HS := Lib.hid (HO.out.set_ xs[k].toNat ((k : Int) + 1))
        obtain ⟨old, hold⟩ : ∃ v, (Ma.markUp k' xs k)[xs[k].toNat]'(by rw [hl2]; omega) = v := ⟨_, rfl⟩
        rw [hold] at hcl
        clear hold h e1 hl2
        generalize xs[k] = y at hcell y0 y1 HU hf hcl HS
        go_wp2_with fail
        go_roundw
        case rel => exact ⟨k + 1, by omega, by go_num, by rw [HU.out]; exact HS.out, hb.setCell (Nat.le_refl _) _⟩
        case measure => simp [intOf]; omega
      · have hlt' : ¬ (k : Int) < (n : Int) := by omega
        obtain rfl : k = n := by omega
        clear h
        go_wp2_with fail
        go_ret2
        refine ⟨_, k', k', rfl, ?_, hb⟩
        rw [HT.out, Int.toNat_natCast, HL.out]
        exact HO.out.own _ (Nat.le_refl _) k' (Ma.markUp_len _ _ _) (by omega)

/-- l2With: a list in new memory, never nil -/
def WithPost (W : World) (xs : List Int) (e : Ending) (w' : World) : Prop :=
  ∃ g n c, e = .returned (.slice (some ⟨g, 0, none⟩) n c) ∧ OwA w' W.heap.size (some ⟨g, 0, none⟩) n c xs ∧ Below W.heap.size W w'
set_option maxHeartbeats 1600000 in
theorem l2With_any (A : Option Addr) (n c : Nat) (xs : List Int) (r : Int) (W : World) (h : RdI W W.heap.size A n xs) (hn : n ≤ 4194303) :
    Calls Try.prog 35 #[.slice A n c, .int .i64 r] W (WithPost W (Ma.withF xs r 0)) := by
  have HL := Lib.hid h.len
  have HE := Lib.hid (OwA.empty W W.heap.size (Nat.le_refl _))
  go_enter Try.func35, Try.ntmps35
  go_wp2_with fail
  go_loopw [5, 6] (fun v i wr => ∃ (k : Nat) (g l c' : Nat), k ≤ n ∧ l ≤ k ∧ i = .int .i64 k ∧ v = .slice (some ⟨g, 0, none⟩) l c' ∧ OwA wr W.heap.size (some ⟨g, 0, none⟩) l c' (Ma.withF (xs.take k) r 0) ∧ Below W.heap.size W wr) (fun _ i _ => n - (intOf i).toNat)
  case atStart => exact ⟨0, _, 0, 0, Nat.zero_le _, Nat.le_refl _, rfl, rfl, HE.out, (Below.refl _ _).alloc (Nat.le_refl _) _⟩
  case round =>
    obtain ⟨k, g, l, c', hk, hlk, rfl, rfl, ho, hb⟩ := hrel
    have HO := Lib.hid ho
    clear ho
    have hBs := hb.size
    by_cases hlt : k < n
    · have hk2 : k < xs.length := by have := HL.out; omega
      obtain ⟨b, off, rfl, hbB, hcell⟩ := (h.below hb).at_ hlt hk2
      have hlt' : (k : Int) < (n : Int) := by omega
      have hk0 : (0 : Int) ≤ (k : Int) := by omega
      have hw := Ma.withF_snoc r hk2
      clear h
      by_cases hy : xs[k] = r
      · rw [if_pos hy] at hw
        have HW := Lib.hid hw
        rw [hy] at hcell
        clear hw hy
        go_wp2_with (at_builtin; refine wpList_app1 (by rfl) _ _ (by rfl) _ W.heap.size (some ⟨g, 0, none⟩) l c' _ _ (by rfl) HO.out (by rfl) (by omega) hBs ?_)
        intro g2 cap w1 ho1 hb1 _ _
        have hb2 := hb.trans hb1
        rw [← HW.out] at ho1
        have HO1 := Lib.hid ho1
        clear ho1 hb1 hb
        go_wp2_with fail
        go_roundw
        case rel => exact ⟨k + 1, _, l + 1, _, by omega, by omega, by go_num, rfl, HO1.out, hb2⟩
        case measure => simp [intOf]; omega
      · rw [if_neg hy, List.append_nil] at hw
        have HW := Lib.hid hw
        have hy' : (xs[k] == r) = false := by simpa using hy
        generalize xs[k] = y at hcell hy'
        clear hw hy
        go_wp2_with fail
        go_roundw
        case rel => exact ⟨k + 1, g, l, c', by omega, by omega, by go_num, rfl, by rw [HW.out]; exact HO.out, hb⟩
        case measure => simp [intOf]; omega
    · have hlt' : ¬ (k : Int) < (n : Int) := by omega
      have h1 := HO.out
      rw [List.take_of_length_le (by have := HL.out; omega)] at h1
      have HO1 := Lib.hid h1
      clear h h1
      go_wp2_with fail
      go_ret
      exact ⟨g, l, c', rfl, HO1.out, hb⟩

set_option maxHeartbeats 3200000 in
theorem sMarksRead_any (A : Option Addr) (n c : Nat) (xs : List Int) (W : World) (h : RdI W W.heap.size A n xs) (hn : n ≤ 4194303) :
    Calls Try.prog 19 #[.slice A n c] W (ResI W (Ma.mread xs) (Ma.mv xs)) := by
  have HL := Lib.hid h.len
  have HE := Lib.hid (OwA.empty W W.heap.size (Nat.le_refl _))
  have HV := Lib.hid (fun (w1 : World) (h1 : RdI w1 W.heap.size A n xs) => sMarks_any A n c xs w1 _ h1 (by omega))
  have HA := Lib.hid (h.below ((Below.refl _ _).alloc (Nat.le_refl _) (.cells #[] 3)))
  cases hok : Ma.mv xs with
  | false =>
    have hv := HV.out _ HA.out
    rw [hok] at hv
    have HV2 := Lib.hid hv
    have HT := Lib.hid (Ma.mread_f hok)
    clear hv hok h
    go_enter Try.func19, Try.ntmps19
    go_wp2_with fail
    refine HV2.out.mono ?_
    rintro e w1 ⟨rfl, rfl⟩
    go_wp2_with fail
    go_ret2
    exact ⟨_, 0, 0, rfl, by rw [HT.out]; exact HE.out, (Below.refl _ _).alloc (Nat.le_refl _) _⟩
  | true =>
    have hv := HV.out _ HA.out
    rw [hok] at hv
    have HV2 := Lib.hid hv
    have HT := Lib.hid (Ma.mread_t hok)
    have hl5 : n ≤ 5 := by have h1 := (Ma.mv_iff.1 hok).2; have h2 := HL.out; omega
    clear hv hok
    go_enter Try.func19, Try.ntmps19
    go_wp2_with fail
    refine HV2.out.mono ?_
    rintro e w1 ⟨rfl, rfl⟩
    go_wp2_with fail
    go_loopw [4, 5] (fun v i wr => ∃ (k : Nat) (A' : Option Addr) (l c' : Nat) (o : List Int), k ≤ 9 ∧ l ≤ k ∧ i = .int .i64 ((k : Int) + 1) ∧ v = .slice A' l c' ∧ OwA wr W.heap.size A' l c' o ∧ o ++ Ma.rd xs (9 - k) ((k : Int) + 1) = Ma.rd xs 9 1 ∧ Below W.heap.size W wr) (fun _ i _ => 11 - (intOf i).toNat)
    case atStart => exact ⟨0, _, 0, 0, [], Nat.zero_le _, Nat.le_refl _, rfl, rfl, HE.out, rfl, (Below.refl _ _).alloc (Nat.le_refl _) _⟩
    case round =>
      obtain ⟨k, A', l, c', o, hk, hlk, rfl, rfl, ho, hR, hb⟩ := hrel
      have HO := Lib.hid ho
      have HR := Lib.hid hR
      clear ho hR
      have hBs := hb.size
      by_cases hlt : (k : Int) + 1 ≤ 9
      · have h9 : 9 - k = (9 - (k + 1)) + 1 := by omega
        have hR1 := HR.out
        rw [h9] at hR1
        have HR1 := Lib.hid hR1
        have h' := (h.below hb).more hBs
        clear hR1 h9
        go_wp2_with fail
        refine (l2With_any A n c xs ((k : Int) + 1) wr h' hn).mono ?_
        rintro e w2 ⟨g2, l2, c2, rfl, ho2, hb2⟩
        have HO2 := Lib.hid ho2
        have HOk := Lib.hid (HO.out.below hb2)
        have hb3 := hb.trans (hb2.mono hBs)
        have hBs3 := hb3.size
        clear ho2 hb2 hb h'
        by_cases h1 : 1 < l2
        · have HX := Lib.hid (Ma.rd_stop HR1.out (by have := HO2.out.len; omega))
          have h1' : (1 : Int) < (l2 : Int) := by omega
          clear h
          go_wp2_with fail
          go_ret2
          exact ⟨A', l, c', rfl, by rw [HT.out, ← HX.out]; exact HOk.out, hb3⟩
        · have HX := Lib.hid (Ma.rd_go HR1.out (by have := HO2.out.len; omega))
          have h1' : ¬ (1 : Int) < (l2 : Int) := by omega
          have HSRC := Lib.hid (src_take HO2.out.rd l2 (Nat.le_refl _))
          have hll := HO2.out.len
          have hsrc := HSRC.out
          rw [List.take_of_length_le (by omega)] at hsrc
          have HS2 := Lib.hid hsrc
          have HLL := Lib.hid hll
          clear hsrc hll
          go_wp2_with (at_builtin; refine wpList_appN (by rfl) _ _ (by rfl) (B := W.heap.size) (by rfl) ⟨g2, 0, none⟩ l2 c2 (by rfl) HOk.out HLL.out HS2.out (l + l2) rfl (by omega) hBs3 ?_)
          intro A4 c4 w4 ho4 hb4 _ _
          have hb5 := hb3.trans hb4
          have HO4 := Lib.hid ho4
          clear ho4 hb4 hb3
          go_wp2_with fail
          go_roundw
          case rel => exact ⟨k + 1, A4, l + l2, c4, _, by omega, by omega, by go_num, rfl, HO4.out, by have h2 := HX.out; exact h2, hb5⟩
          case measure => simp [intOf]; omega
      · have h9 : k = 9 := by omega
        have hR1 := HR.out
        rw [h9] at hR1
        have HX := Lib.hid (show o = Ma.rd xs 9 1 by have h2 : o ++ [] = Ma.rd xs 9 1 := hR1; rwa [List.append_nil] at h2)
        clear h hR1 h9
        go_wp2_with fail
        go_ret2
        exact ⟨A', l, c', rfl, by rw [HT.out, ← HX.out]; exact HO.out, hb⟩

set_option maxHeartbeats 3200000 in
theorem iMarksRead_any (A : Option Addr) (n c : Nat) (xs : List Int) (W : World) (h : RdI W W.heap.size A n xs) (hnc : n ≤ c) (hn : n ≤ 4194303) (hcm : c ≤ maxLen) :
    Calls Try.prog 20 #[.slice A n c] W (ResI W (Ma.mread xs) (Ma.mv xs)) := by
  have HL := Lib.hid h.len
  have hv := iMarksValid_any A n c xs W _ h (by omega)
  cases hok : Ma.mv xs with
  | false =>
    rw [hok] at hv
    have HV2 := Lib.hid hv
    have HT := Lib.hid (Ma.mread_f hok)
    clear hv hok h
    go_enter Try.func20, Try.ntmps20
    go_wp2_with fail
    refine HV2.out.mono ?_
    rintro e w1 ⟨rfl, rfl⟩
    go_wp2_with fail
    go_ret2
    exact ⟨none, 0, 0, rfl, by rw [HT.out]; exact OwA.nil _ _, Below.refl _ _⟩
  | true =>
    rw [hok] at hv
    have HV2 := Lib.hid hv
    have HT := Lib.hid (Ma.mread_t hok)
    have hl5 : n ≤ 5 := by have h1 := (Ma.mv_iff.1 hok).2; have h2 := HL.out; omega
    have hl1 : 1 ≤ n := by have h1 := (Ma.mv_iff.1 hok).2; have h2 := HL.out; omega
    clear hv hok
    go_enter Try.func20, Try.ntmps20
    go_wp2_with fail
    refine HV2.out.mono ?_
    rintro e w1 ⟨rfl, rfl⟩
    go_wp2_with fail
    go_loopw [4, 5] (fun v i wr => ∃ (k : Nat) (A' : Option Addr) (l c' : Nat) (o : List Int), k ≤ 9 ∧ l ≤ k ∧ i = .int .i64 ((k : Int) + 1) ∧ v = .slice A' l c' ∧ OwA wr W.heap.size A' l c' o ∧ o ++ Ma.rd xs (9 - k) ((k : Int) + 1) = Ma.rd xs 9 1 ∧ Below W.heap.size W wr) (fun _ i _ => 11 - (intOf i).toNat)
    case atStart => exact ⟨0, none, 0, 0, [], Nat.zero_le _, Nat.le_refl _, rfl, rfl, OwA.nil _ _, rfl, Below.refl _ _⟩
    case round =>
      obtain ⟨k, A', l, c', o, hk, hlk, rfl, rfl, ho, hR, hb⟩ := hrel
      have HO := Lib.hid ho
      have HR := Lib.hid hR
      clear ho hR
      have hBs := hb.size
      by_cases hlt : (k : Int) + 1 ≤ 9
      · have h9 : 9 - k = (9 - (k + 1)) + 1 := by omega
        have hR1 := HR.out
        rw [h9] at hR1
        have HR1 := Lib.hid hR1
        have h' := (h.below hb)
        clear hR1 h9
        have hix := index_any A n c xs ((k : Int) + 1) wr _ h' (by omega)
        have hw := Ma.withF_idx ((k : Int) + 1) xs 0
        rcases hw with ⟨i1, i2⟩ | ⟨j, hj, i1, i2⟩
        · unfold Lib.idxOf at hix
          rw [i1] at hix
          have HIX := Lib.hid hix
          have HX := Lib.hid (Ma.rd_go HR1.out (by rw [i2]; simp))
          have HW := Lib.hid i2
          clear hix i1 i2 h'
          go_wp2_with fail
          refine HIX.out.mono ?_
          rintro e w2 ⟨rfl, rfl⟩
          go_wp2_with fail
          go_roundw
          case rel => exact ⟨k + 1, A', l, c', o, by omega, by omega, by go_num, rfl, HO.out, by have h2 := HX.out; rw [HW.out, List.append_nil] at h2; exact h2, hb⟩
          case measure => simp [intOf]; omega
        · unfold Lib.idxOf at hix
          rw [i1, Nat.zero_add] at hix
          rw [Nat.zero_add] at i2
          have HIX := Lib.hid hix
          have hjn : j < n := by have := HL.out; omega
          obtain ⟨b, off, rfl, hbB, _⟩ := h'.2 hl1
          have HW := Lib.hid i2
          clear hix i1 i2 hj
          have hj0 : (0 : Int) ≤ (j : Int) := by omega
          have hj1 : (j : Int) < (n : Int) := by omega
          have hi1' : (j : Int) + 1 ≤ (n : Int) := by omega
          have hi1c : (j : Int) + 1 ≤ (c : Int) := by omega
          have hncI : (n : Int) ≤ (c : Int) := by omega
          have hi2 : (0 : Int) ≤ (j : Int) + 1 := by omega
          have hmx : c ≤ 9223372036854775807 := by unfold maxLen at hcm; exact hcm
          have et : ((j : Int) + 1).toNat = j + 1 := by omega
          by_cases hcc : c = j + 1
          case' pos =>
            have hif : ∀ x y : Option Addr, (if c = j + 1 then x else y) = x := fun x y => if_pos hcc
            have hRD := h'.drop_ (j + 1) (by omega) (some ⟨b, off, none⟩) (fun h0 => by omega)
            have HCC := Lib.hid hcc
          case' neg =>
            have hif : ∀ x y : Option Addr, (if c = j + 1 then x else y) = y := fun x y => if_neg hcc
            have hRD := h'.drop_ (j + 1) (by omega) (some ⟨b, off + (j + 1), none⟩) (fun h0 => rfl)
          all_goals
            clear h' hcc
            have HRD := Lib.hid hRD
            clear hRD
            cases hct : (xs.drop (j + 1)).contains ((k : Int) + 1) with
            | true =>
              have HCT := Lib.hid (contains_b true _ (n - (j + 1)) (c - (j + 1)) (xs.drop (j + 1)) ((k : Int) + 1) wr _ HRD.out (by omega) hct)
              have HX := Lib.hid (Ma.rd_stop HR1.out (by rw [HW.out]; have h3 := Ma.withF_some _ _ (j + 1) hct; have h4 := List.length_pos_iff.2 h3; simp; omega))
              clear hct h
              go_wp2_with fail
              refine HIX.out.mono ?_
              rintro e w2 ⟨rfl, rfl⟩
              go_wp2_with fail
              refine HCT.out.mono ?_
              rintro e w2 ⟨rfl, rfl⟩
              go_wp2_with fail
              go_ret2
              exact ⟨A', l, c', rfl, by rw [HT.out, ← HX.out]; exact HO.out, hb⟩
            | false =>
              have HCT := Lib.hid (contains_b false _ (n - (j + 1)) (c - (j + 1)) (xs.drop (j + 1)) ((k : Int) + 1) wr _ HRD.out (by omega) hct)
              have hw1 := HW.out
              rw [Ma.withF_none _ _ _ hct] at hw1
              have HX := Lib.hid (Ma.rd_go HR1.out (by rw [hw1]; simp))
              have HW1 := Lib.hid hw1
              clear hct hw1
              go_wp2_with fail
              refine HIX.out.mono ?_
              rintro e w2 ⟨rfl, rfl⟩
              go_wp2_with fail
              refine HCT.out.mono ?_
              rintro e w2 ⟨rfl, rfl⟩
              go_wp2_with (at_builtin; refine wpList_app1 (by rfl) _ _ (by rfl) _ W.heap.size A' l c' _ _ (by rfl) HO.out (by rfl) (by omega) hBs ?_)
              intro g4 c4 w4 ho4 hb4 _ _
              have hb5 := hb.trans hb4
              have HO4 := Lib.hid ho4
              clear ho4 hb4 hb
              go_wp2_with fail
              go_roundw
              case rel => exact ⟨k + 1, _, l + 1, c4, _, by omega, by omega, by go_num, rfl, HO4.out, by have h2 := HX.out; rw [HW1.out] at h2; exact h2, hb5⟩
              case measure => simp [intOf]; omega
      · have h9 : k = 9 := by omega
        have hR1 := HR.out
        rw [h9] at hR1
        have HX := Lib.hid (show o = Ma.rd xs 9 1 by have h2 : o ++ [] = Ma.rd xs 9 1 := hR1; rwa [List.append_nil] at h2)
        clear h hR1 h9
        go_wp2_with fail
        go_ret2
        exact ⟨A', l, c', rfl, by rw [HT.out, ← HX.out]; exact HO.out, hb⟩
end Go.Proofs.Ytcaiddggokpmoaa
