/- LotsValid, the program's and the reference's. -/
import Derived.Test.YtpiajeibfggpiaaBaWalk
namespace Go.Proofs.Ytpiajeibfggpiaa
open Go.RowKit

theorem iLotsValid_any (A : Option Addr) (n c : Nat) (xs : List Int) (W : World) (B : Nat) (h : RdI W B A n xs) (hn : n ≤ c) (hc : n ≤ 4194304) (hcm : c ≤ maxLen) :
    Calls Try.prog 23 #[.slice A n c] W fun e w' => e = .returned (.bool (Bal.bv xs (n : Int))) ∧ W = w' := by
  by_cases h0 : (0 : Int) < (n : Int)
  · go_enter Try.func23, Try.ntmps23
    go_wp2_with fail
    refine (iBallotValid_any A n c xs _ W B h hn hc hcm).mono ?_
    rintro e w1 ⟨rfl, rfl⟩
    go_wp2_with fail
    go_ret
    exact ⟨rfl, rfl⟩
  · have HN := Lib.hid (Bal.bv_f (b := xs) (n := (n : Int)) (fun h => by have := h.1.1; omega))
    clear h hn hcm
    go_enter Try.func23, Try.ntmps23
    go_wp2_with fail
    go_ret
    exact ⟨ret_bool HN.out.symm, rfl⟩

/-- spec.LotsValid: it reads; it may draw. -/
theorem sLotsValid_any (A : Option Addr) (n c : Nat) (xs : List Int) (W : World) (B : Nat) (h : RdI W B A n xs) (hn : n ≤ c) (hc : n ≤ 4194304) (_hcm : c ≤ maxLen) :
    Calls Try.prog 24 #[.slice A n c] W fun e w' => e = .returned (.bool (Bal.bv xs (n : Int))) ∧ ∃ q, w' = W.drewN q := by
  have hl := h.1
  have HL := Lib.hid hl
  clear hl
  obtain ⟨t, ht⟩ : ∃ t, IntKind.i64.wrap ((n : Int) - 1) = t := ⟨_, rfl⟩
  have htm : (1 ≤ (n : Int) ∧ (n : Int) ≤ 5) → t = (n : Int) - 1 := fun hm => by rw [← ht]; exact IntWalk.i64_in _ (by omega)
  have HTM := Lib.hid htm
  clear htm
  go_enter Try.func24, Try.ntmps24
  go_wp2_with fail
  go_loopw [3] (fun i wr => ∃ k q : Nat, k ≤ n ∧ i = .int .i64 k ∧ ((1 ≤ (n : Int) ∧ (n : Int) ≤ 5) → Bal.Pre xs (n : Int) k) ∧ wr = W.drewN q) (fun i _ => n - (intOf i).toNat)
  case atStart => exact ⟨0, 0, Nat.zero_le _, rfl, fun _ => Bal.pre_zero _ _, rfl⟩
  case round =>
    obtain ⟨k, q, hk, rfl, hf, hwq⟩ := hrel
    have HF := Lib.hid hf
    clear hf
    have h' : RdI wr B A n xs := by rw [hwq]; exact h.drewN q
    have HW := Lib.hid hwq
    clear hwq
    by_cases hlt : k < n
    · have hk' : k < xs.length := by have := HL.out; omega
      obtain ⟨b, off, rfl, hb, hcell⟩ := h'.at_ hlt hk'
      have hlt' : (k : Int) < (n : Int) := by omega
      have hk0 : (0 : Int) ≤ (k : Int) := by omega
      have hkc : (k : Int) ≤ (c : Int) := by omega
      have HT := Lib.hid (h'.take k hk)
      clear h h'
      by_cases g0 : 0 ≤ xs[k] ∧ xs[k] ≤ t
      · have HS := fun hm hq => Bal.pre_succ hk' (HF.out hm) g0.1 (by have := HTM.out hm; omega) hq
        have HN := fun hq => Bal.bv_f (Bal.not_bv (n := (n : Int)) hk' (.inr (.inr hq)))
        generalize xs[k] = y at hcell g0 HS HN
        cases hq : (xs.take k).contains y with
        | true =>
          have HN' := Lib.hid (HN hq)
          clear HN HS
          have HQ := Lib.hid hq
          clear hq
          go_wp2_with fail
          go_quiet ((first | (go_at_call 47; exact Calls.quiet_of_same ((l6In_t _ _ _ _ g0).mono fun _ _ ⟨he, hw⟩ => ⟨he, hw.symm⟩)) | (go_at_call 48; exact Calls.quiet_of_same ((l1Has_b true _ k c (xs.take k) y _ B (HT.out.drewN _) (by omega) HQ.out).mono fun _ _ ⟨he, hw⟩ => ⟨he, hw.symm⟩))))
          go_wp2_with fail
          go_ret
          exact ⟨ret_bool HN'.out.symm, by rw [HW.out]; exact ⟨q + nq, World.drewN_drewN _ _ _⟩⟩
        | false =>
          have HS' := Lib.hid (fun hm => HS hm hq)
          clear HN HS
          have HQ := Lib.hid hq
          clear hq
          go_wp2_with fail
          go_quiet ((first | (go_at_call 47; exact Calls.quiet_of_same ((l6In_t _ _ _ _ g0).mono fun _ _ ⟨he, hw⟩ => ⟨he, hw.symm⟩)) | (go_at_call 48; exact Calls.quiet_of_same ((l1Has_b false _ k c (xs.take k) y _ B (HT.out.drewN _) (by omega) HQ.out).mono fun _ _ ⟨he, hw⟩ => ⟨he, hw.symm⟩))))
          go_wp2_with fail
          go_roundw
          case rel => exact ⟨k + 1, q + nq, by omega, by go_num, HS'.out, by rw [HW.out]; exact World.drewN_drewN _ _ _⟩
          case measure => simp [intOf]; omega
      · have HN := Lib.hid (Bal.bv_f (b := xs) (n := (n : Int)) (fun hb => (Bal.not_bv (n := (n : Int)) hk' (by have := HTM.out hb.1; omega)) hb))
        generalize xs[k] = y at hcell g0
        go_wp2_with fail
        go_quiet ((first | (go_at_call 47; exact Calls.quiet_of_same ((l6In_f _ _ _ _ g0).mono fun _ _ ⟨he, hw⟩ => ⟨he, hw.symm⟩))))
        go_wp2_with fail
        go_ret
        exact ⟨ret_bool HN.out.symm, by rw [HW.out]; exact ⟨q + nq, World.drewN_drewN _ _ _⟩⟩
    · have hlt' : ¬ (k : Int) < (n : Int) := by omega
      clear h h'
      have h2 := HL.out
      by_cases hm : 1 ≤ (n : Int) ∧ (n : Int) ≤ 5
      · have HE := Lib.hid (Bal.bv_iff.2 (Bal.pre_bv (b := xs) hm.1 hm.2 (by have h3 := HF.out hm; have hkx : k = xs.length := (by omega); rw [hkx] at h3; exact h3)))
        clear h2
        go_wp2_with (first | (go_at_call 47; refine (l6In_t _ _ _ _ hm).mono ?_; rintro e w1 ⟨rfl, rfl⟩))
        go_ret
        exact ⟨ret_bool HE.out.symm, q, HW.out⟩
      · have HE := Lib.hid (Bal.bv_f (b := xs) (n := (n : Int)) (fun hb => hm hb.1))
        clear h2
        go_wp2_with (first | (go_at_call 47; refine (l6In_f _ _ _ _ hm).mono ?_; rintro e w1 ⟨rfl, rfl⟩))
        go_ret
        exact ⟨ret_bool HE.out.symm, q, HW.out⟩
end Go.Proofs.Ytpiajeibfggpiaa
