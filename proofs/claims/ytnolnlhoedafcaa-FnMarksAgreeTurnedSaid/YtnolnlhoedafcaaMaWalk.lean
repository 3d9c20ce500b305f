/- marksValid, l2Marks, MarksOf, l2With, MarksRead. -/
import Derived.Test.YtnolnlhoedafcaaOwn
import Derived.Test.YtnolnlhoedafcaaBaWalk
import Derived.Test.YtnolnlhoedafcaaMaPlain
namespace Go.Proofs.Ytnolnlhoedafcaa
open Go.RowKit

theorem iMarksValid_any (A : Option Addr) (n c : Nat) (xs : List Int) (W : World) (B : Nat) (h : RdI W B A n xs) (hn : n ≤ 4194304) :
    Calls Try.prog 23 #[.slice A n c] W fun e w' => e = .returned (.bool (Ma.mv xs)) ∧ W = w' := by
  have HL := Lib.hid h.len
  go_enter Try.func23, Try.ntmps23
  go_wp2_with fail
  go_loop [7] (fun i => ∃ k : Nat, k ≤ n ∧ i = .int .i64 k ∧ Ma.MPre xs k) (fun i => n - (intOf i).toNat)
  case atStart => exact ⟨0, Nat.zero_le _, rfl, Ma.mpre_zero _⟩
  case round =>
    obtain ⟨k, hk, rfl, hf⟩ := hrel
    have HF := Lib.hid hf
    clear hf
    by_cases hlt : k < n
    · have hk' : k < xs.length := by have := HL.out; omega
      obtain ⟨b, off, rfl, hb, hcell⟩ := h.at_ hlt hk'
      have hlt' : (k : Int) < (n : Int) := by omega
      have hk0 : (0 : Int) ≤ (k : Int) := by omega
      clear h
      by_cases hr : 0 ≤ xs[k] ∧ xs[k] ≤ 9
      · have HS := Lib.hid (Ma.mpre_succ hk' HF.out hr.1 hr.2)
        obtain ⟨r0, r1⟩ := hr
        generalize xs[k] = y at hcell r0 r1
        go_wp2_with fail
        go_round
        case rel => exact ⟨k + 1, by omega, by go_num, HS.out⟩
        case measure => simp [intOf]; omega
      · have HN := Lib.hid (Ma.mv_at hk' hr)
        generalize xs[k] = y at hcell hr
        by_cases h0 : y < 0
        · clear hr
          go_wp2_with fail
          go_ret
          exact ⟨ret_bool HN.out.symm, rfl⟩
        · have h9 : 9 < y := by omega
          clear hr
          go_wp2_with fail
          go_ret
          exact ⟨ret_bool HN.out.symm, rfl⟩
    · have hlt' : ¬ (k : Int) < (n : Int) := by omega
      have hkl : k = xs.length := by have := HL.out; omega
      clear h
      by_cases h5 : 1 ≤ (n : Int) ∧ (n : Int) ≤ 5
      · have HR := Lib.hid (Ma.mv_of (by rw [← hkl]; exact HF.out) (by have := HL.out; omega))
        clear hkl
        go_wp2_with fail
        refine (isMany_t _ _ h5).mono ?_
        rintro e w1 ⟨rfl, rfl⟩
        go_wp2_with fail
        go_ret
        exact ⟨ret_bool HR.out.symm, rfl⟩
      · have HR := Lib.hid (Ma.mv_len (xs := xs) (by have := HL.out; omega))
        clear hkl
        go_wp2_with fail
        refine (isMany_f _ _ h5).mono ?_
        rintro e w1 ⟨rfl, rfl⟩
        go_wp2_with fail
        go_ret
        exact ⟨ret_bool HR.out.symm, rfl⟩

theorem sMarks_any (A : Option Addr) (n c : Nat) (xs : List Int) (W : World) (B : Nat) (h : RdI W B A n xs) (hn : n ≤ 4194304) :
    Calls Try.prog 19 #[.slice A n c] W fun e w' => e = .returned (.bool (Ma.mv xs)) ∧ W = w' := by
  have HL := Lib.hid h.len
  go_enter Try.func19, Try.ntmps19
  go_wp2_with fail
  go_loop [3] (fun i => ∃ k : Nat, k ≤ n ∧ i = .int .i64 k ∧ Ma.MPre xs k) (fun i => n - (intOf i).toNat)
  case atStart => exact ⟨0, Nat.zero_le _, rfl, Ma.mpre_zero _⟩
  case round =>
    obtain ⟨k, hk, rfl, hf⟩ := hrel
    have HF := Lib.hid hf
    clear hf
    by_cases hlt : k < n
    · have hk' : k < xs.length := by have := HL.out; omega
      obtain ⟨b, off, rfl, hb, hcell⟩ := h.at_ hlt hk'
      have hlt' : (k : Int) < (n : Int) := by omega
      have hk0 : (0 : Int) ≤ (k : Int) := by omega
      clear h
      by_cases hr : 0 ≤ xs[k] ∧ xs[k] ≤ 9
      · have HS := Lib.hid (Ma.mpre_succ hk' HF.out hr.1 hr.2)
        generalize xs[k] = y at hcell hr
        go_wp2_with fail
        refine (l6In_t _ _ _ _ hr).mono ?_
        rintro e w1 ⟨rfl, rfl⟩
        go_wp2_with fail
        go_round
        case rel => exact ⟨k + 1, by omega, by go_num, HS.out⟩
        case measure => simp [intOf]; omega
      · have HN := Lib.hid (Ma.mv_at hk' hr)
        generalize xs[k] = y at hcell hr
        go_wp2_with fail
        refine (l6In_f _ _ _ _ hr).mono ?_
        rintro e w1 ⟨rfl, rfl⟩
        go_wp2_with fail
        go_ret
        exact ⟨ret_bool HN.out.symm, rfl⟩
    · have hlt' : ¬ (k : Int) < (n : Int) := by omega
      have hkl : k = xs.length := by have := HL.out; omega
      clear h
      by_cases h5 : 1 ≤ (n : Int) ∧ (n : Int) ≤ 5
      · have HR := Lib.hid (Ma.mv_of (by rw [← hkl]; exact HF.out) (by have := HL.out; omega))
        clear hkl
        go_wp2_with fail
        refine (l6In_t _ _ _ _ h5).mono ?_
        rintro e w1 ⟨rfl, rfl⟩
        go_wp2_with fail
        go_ret
        exact ⟨ret_bool HR.out.symm, rfl⟩
      · have HR := Lib.hid (Ma.mv_len (xs := xs) (by have := HL.out; omega))
        clear hkl
        go_wp2_with fail
        refine (l6In_f _ _ _ _ h5).mono ?_
        rintro e w1 ⟨rfl, rfl⟩
        go_wp2_with fail
        go_ret
        exact ⟨ret_bool HR.out.symm, rfl⟩

/-! MarksOf -/
set_option maxHeartbeats 1600000 in
theorem sMarksOf_any (A : Option Addr) (n c : Nat) (xs : List Int) (m : Int) (W : World) (h : RdI W W.heap.size A n xs) (hn : n ≤ c) (hc : n ≤ 4194304) (hcm : c ≤ maxLen) :
    Calls Try.prog 29 #[.slice A n c, .int .i64 m] W (ResI W (Ma.marksOf xs m) (Bal.bv xs m)) := by
  have HL := Lib.hid h.len
  have hv := sBallotValid_any A n c xs m W _ h hn hc hcm
  cases hok : Bal.bv xs m with
  | false =>
    rw [hok] at hv
    have HV := Lib.hid hv
    have HT := Lib.hid (Ma.marksOf_f hok)
    have HE := Lib.hid (fun w => OwA.empty w W.heap.size)
    clear hv hok h
    go_enter Try.func29, Try.ntmps29
    go_wp2_with fail
    refine HV.out.mono ?_
    rintro e w1 ⟨rfl, q, rfl⟩
    go_wp2_with fail
    go_ret2
    exact ⟨_, 0, 0, rfl, by rw [HT.out]; exact HE.out _ (by simp), (Reg.drewN (Below.refl _ _) q).alloc (by simp) _⟩
  | true =>
    rw [hok] at hv
    have HV := Lib.hid hv
    have HT := Lib.hid (Ma.marksOf_t hok)
    have HB := Lib.hid (Bal.bv_iff.1 hok)
    obtain ⟨k', rfl⟩ : ∃ k' : Nat, m = k' := ⟨m.toNat, by have := HB.out.1; omega⟩
    have hm1 : 1 ≤ k' := by have := HB.out.1; omega
    have hm5 : k' ≤ 5 := by have := HB.out.1; omega
    have hl5 : n ≤ 5 := by have h1 := Bal.bv_len HB.out; have h2 := HL.out; omega
    have hmk := run_make_ints k' (by omega)
    have HM := Lib.hid (made W k')
    clear hv hok
    go_enter Try.func29, Try.ntmps29
    go_wp2_with fail
    refine HV.out.mono ?_
    rintro e w1 ⟨rfl, q, rfl⟩
    go_wp2_with fail
    clear hmk
    go_loopw [7] (fun i wr => ∃ k : Nat, k ≤ n ∧ i = .int .i64 k ∧ OwnI wr W.heap.size (Ma.markUp k' xs k) ∧ Below W.heap.size W wr) (fun i _ => n - (intOf i).toNat)
    case atStart => exact ⟨0, Nat.zero_le _, rfl, HM.out, Reg.drewN ((Below.refl _ _).alloc (Nat.le_refl _) _) q⟩
    case round =>
      obtain ⟨k, hk, rfl, ho, hb⟩ := hrel
      have HO := Lib.hid ho
      clear ho
      by_cases hlt : k < n
      · have hk2 : k < xs.length := by have := HL.out; omega
        obtain ⟨b, off, rfl, hbB, hcell⟩ := (h.below hb).at_ hlt hk2
        have hlt' : (k : Int) < (n : Int) := by omega
        have hk0 : (0 : Int) ≤ (k : Int) := by omega
        obtain ⟨y0, y1⟩ := HB.out.2.1 xs[k] (List.getElem_mem hk2)
        have HU := Lib.hid (Ma.markUp_succ k' xs k)
        have e1 : xs.getD k 0 = xs[k] := by rw [List.getD_eq_getElem?_getD, List.getElem?_eq_getElem hk2]; rfl
        rw [e1] at HU
        have hf := HO.out.frozen xs[k].toNat
        have hl2 := Ma.markUp_len k' xs k
        have hcl := HO.out.cell xs[k].toNat (by rw [hl2]; omega)
        have HS := Lib.hid (HO.out.set_ xs[k].toNat ((k : Int) + 1))
        obtain ⟨old, hold⟩ : ∃ v, (Ma.markUp k' xs k)[xs[k].toNat]'(by rw [hl2]; omega) = v := ⟨_, rfl⟩
        rw [hold] at hcl
        clear hold h e1 hl2
        generalize xs[k] = y at hcell y0 y1 HU hf hcl HS
        go_wp2_with fail
        go_roundw
        case rel => exact ⟨k + 1, by omega, by go_num, by rw [HU.out]; exact HS.out, hb.setCell (Nat.le_refl _) _⟩
        case measure => simp [intOf]; omega
      · have hlt' : ¬ (k : Int) < (n : Int) := by omega
        obtain rfl : k = n := by omega
        clear h
        go_wp2_with fail
        go_ret2
        refine ⟨_, k', k', rfl, ?_, hb⟩
        rw [HT.out, Int.toNat_natCast, HL.out]
        exact HO.out.own _ (Nat.le_refl _) k' (Ma.markUp_len _ _ _) (by omega)

/-- l2With: a list in new memory, never nil -/
def WithPost (W : World) (xs : List Int) (e : Ending) (w' : World) : Prop :=
  ∃ g n c, e = .returned (.slice (some ⟨g, 0, none⟩) n c) ∧ OwA w' W.heap.size (some ⟨g, 0, none⟩) n c xs ∧ Below W.heap.size W w'
end Go.Proofs.Ytnolnlhoedafcaa
