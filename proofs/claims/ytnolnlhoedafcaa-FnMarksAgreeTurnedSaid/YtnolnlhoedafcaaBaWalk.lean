/- BallotValid, the program's and the reference's. -/
import Derived.Test.YtnolnlhoedafcaaInts
namespace Go.Proofs.Ytnolnlhoedafcaa
open Go.RowKit
/-- spec.BallotValid: it reads; it may draw. -/
theorem sBallotValid_any (A : Option Addr) (n c : Nat) (xs : List Int) (m : Int) (W : World) (B : Nat) (h : RdI W B A n xs) (hn : n ≤ c) (hc : n ≤ 4194304) (_hcm : c ≤ maxLen) :
    Calls Try.prog 31 #[.slice A n c, .int .i64 m] W fun e w' => e = .returned (.bool (Bal.bv xs m)) ∧ ∃ q, w' = W.drewN q := by
  have hl := h.1
  have HL := Lib.hid hl
  clear hl
  obtain ⟨t, ht⟩ : ∃ t, IntKind.i64.wrap (m - 1) = t := ⟨_, rfl⟩
  have htm : (1 ≤ m ∧ m ≤ 5) → t = m - 1 := fun hm => by rw [← ht]; exact IntWalk.i64_in _ (by omega)
  have HTM := Lib.hid htm
  clear htm
  go_enter Try.func31, Try.ntmps31
  go_wp2_with fail
  go_loopw [5] (fun i wr => ∃ k q : Nat, k ≤ n ∧ i = .int .i64 k ∧ ((1 ≤ m ∧ m ≤ 5) → Bal.Pre xs m k) ∧ wr = W.drewN q) (fun i _ => n - (intOf i).toNat)
  case atStart => exact ⟨0, 0, Nat.zero_le _, rfl, fun _ => Bal.pre_zero _ _, rfl⟩
  case round =>
    obtain ⟨k, q, hk, rfl, hf, hwq⟩ := hrel
    have HF := Lib.hid hf
    clear hf
    have h' : RdI wr B A n xs := by rw [hwq]; exact h.drewN q
    have HW := Lib.hid hwq
    clear hwq
    by_cases hlt : k < n
    · have hk' : k < xs.length := by have := HL.out; omega
      obtain ⟨b, off, rfl, hb, hcell⟩ := h'.at_ hlt hk'
      have hlt' : (k : Int) < (n : Int) := by omega
      have hk0 : (0 : Int) ≤ (k : Int) := by omega
      have hkc : (k : Int) ≤ (c : Int) := by omega
      have HT := Lib.hid (h'.take k hk)
      clear h h'
      by_cases g0 : 0 ≤ xs[k] ∧ xs[k] ≤ t
      · have HS := fun hm hq => Bal.pre_succ hk' (HF.out hm) g0.1 (by have := HTM.out hm; omega) hq
        have HN := fun hq => Bal.bv_f (Bal.not_bv (n := m) hk' (.inr (.inr hq)))
        generalize xs[k] = y at hcell g0 HS HN
        cases hq : (xs.take k).contains y with
        | true =>
          have HN' := Lib.hid (HN hq)
          clear HN HS
          have HQ := Lib.hid hq
          clear hq
          go_wp2_with fail
          go_quiet ((first | (go_at_call 20; exact Calls.quiet_of_same ((l6In_t _ _ _ _ g0).mono fun _ _ ⟨he, hw⟩ => ⟨he, hw.symm⟩)) | (go_at_call 32; exact Calls.quiet_of_same ((l1Has_b true _ k c (xs.take k) y _ B (HT.out.drewN _) (by omega) HQ.out).mono fun _ _ ⟨he, hw⟩ => ⟨he, hw.symm⟩))))
          go_wp2_with fail
          go_ret
          exact ⟨ret_bool HN'.out.symm, by rw [HW.out]; exact ⟨q + nq, World.drewN_drewN _ _ _⟩⟩
        | false =>
          have HS' := Lib.hid (fun hm => HS hm hq)
          clear HN HS
          have HQ := Lib.hid hq
          clear hq
          go_wp2_with fail
          go_quiet ((first | (go_at_call 20; exact Calls.quiet_of_same ((l6In_t _ _ _ _ g0).mono fun _ _ ⟨he, hw⟩ => ⟨he, hw.symm⟩)) | (go_at_call 32; exact Calls.quiet_of_same ((l1Has_b false _ k c (xs.take k) y _ B (HT.out.drewN _) (by omega) HQ.out).mono fun _ _ ⟨he, hw⟩ => ⟨he, hw.symm⟩))))
          go_wp2_with fail
          go_roundw
          case rel => exact ⟨k + 1, q + nq, by omega, by go_num, HS'.out, by rw [HW.out]; exact World.drewN_drewN _ _ _⟩
          case measure => simp [intOf]; omega
      · have HN := Lib.hid (Bal.bv_f (b := xs) (n := m) (fun hb => (Bal.not_bv (n := m) hk' (by have := HTM.out hb.1; omega)) hb))
        generalize xs[k] = y at hcell g0
        go_wp2_with fail
        go_quiet ((first | (go_at_call 20; exact Calls.quiet_of_same ((l6In_f _ _ _ _ g0).mono fun _ _ ⟨he, hw⟩ => ⟨he, hw.symm⟩))))
        go_wp2_with fail
        go_ret
        exact ⟨ret_bool HN.out.symm, by rw [HW.out]; exact ⟨q + nq, World.drewN_drewN _ _ _⟩⟩
    · have hlt' : ¬ (k : Int) < (n : Int) := by omega
      clear h h'
      have h2 := HL.out
      by_cases hm : 1 ≤ m ∧ m ≤ 5
      · have HE := Lib.hid (Bal.bv_iff.2 (Bal.pre_bv (b := xs) hm.1 hm.2 (by have h3 := HF.out hm; have hkx : k = xs.length := (by omega); rw [hkx] at h3; exact h3)))
        clear h2
        go_wp2_with (first | (go_at_call 20; refine (l6In_t _ _ _ _ hm).mono ?_; rintro e w1 ⟨rfl, rfl⟩))
        go_ret
        exact ⟨ret_bool HE.out.symm, q, HW.out⟩
      · have HE := Lib.hid (Bal.bv_f (b := xs) (n := m) (fun hb => hm hb.1))
        clear h2
        go_wp2_with (first | (go_at_call 20; refine (l6In_f _ _ _ _ hm).mono ?_; rintro e w1 ⟨rfl, rfl⟩))
        go_ret
        exact ⟨ret_bool HE.out.symm, q, HW.out⟩
end Go.Proofs.Ytnolnlhoedafcaa
