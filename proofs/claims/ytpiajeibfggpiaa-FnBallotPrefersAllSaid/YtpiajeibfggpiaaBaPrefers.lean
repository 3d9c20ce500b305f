/- BallotPrefers, the program's and the reference's. -/
import Derived.Test.YtpiajeibfggpiaaBaText
namespace Go.Proofs.Ytpiajeibfggpiaa
open Go.RowKit

theorem iBallotPrefers_any (A : Option Addr) (n c : Nat) (xs : List Int) (x y : Int) (W : World) (B : Nat) (h : RdI W B A n xs) (hn : n ≤ c) (hc : n ≤ 4194304) (hcm : c ≤ maxLen) :
    Calls Try.prog 26 #[.slice A n c, .int .i64 x, .int .i64 y] W fun e w' => e = .returned (.bool (Bal.pref xs x y)) ∧ W = w' := by
  have hv := iBallotValid_any A n c xs 5 W B h hn hc hcm
  cases hok : Bal.bv xs 5 with
  | false =>
    rw [hok] at hv
    have HV := Lib.hid hv
    have HT := Lib.hid (Bal.pref_f x y hok)
    clear hv hok h
    go_enter Try.func26, Try.ntmps26
    go_wp2_with fail
    refine HV.out.mono ?_
    rintro e w1 ⟨rfl, rfl⟩
    go_wp2_with fail
    go_ret
    exact ⟨ret_bool HT.out.symm, rfl⟩
  | true =>
    rw [hok] at hv
    have HV := Lib.hid hv
    by_cases hxy : x = y
    · have HT := Lib.hid (Bal.pref_eq xs y)
      subst hxy
      clear hv hok h
      go_enter Try.func26, Try.ntmps26
      go_wp2_with fail
      refine HV.out.mono ?_
      rintro e w1 ⟨rfl, rfl⟩
      go_wp2_with fail
      go_ret
      exact ⟨ret_bool HT.out.symm, rfl⟩
    · have hne : (x == y) = false := by simpa using hxy
      have HI := Lib.hid (fun z => index_any A n c xs z W B h hc)
      have HT := Lib.hid (Bal.pref_idx hok hxy)
      clear hv hok h hxy
      obtain ⟨i, hi⟩ : ∃ i, Lib.idxOf xs x = i := ⟨_, rfl⟩
      obtain ⟨j, hj⟩ : ∃ j, Lib.idxOf xs y = j := ⟨_, rfl⟩
      have HX := HI.out x
      have HY := HI.out y
      have HP := HT.out
      rw [hi] at HX HP
      rw [hj] at HY HP
      have HX' := Lib.hid HX
      have HY' := Lib.hid HY
      have HP' := Lib.hid HP
      clear HX HY HP hi hj HI HT
      go_enter Try.func26, Try.ntmps26
      go_wp2_with fail
      refine HV.out.mono ?_
      rintro e w1 ⟨rfl, rfl⟩
      go_wp2_with fail
      refine HX'.out.mono ?_
      rintro e w1 ⟨rfl, rfl⟩
      go_wp2_with fail
      refine HY'.out.mono ?_
      rintro e w1 ⟨rfl, rfl⟩
      go_wp2_with fail
      all_goals
        go_ret
        exact ⟨ret_bool (by rw [HP'.out]; simp; omega), rfl⟩

set_option maxHeartbeats 1600000 in
theorem sBallotPrefers_any (A : Option Addr) (n c : Nat) (xs : List Int) (x y : Int) (W : World) (B : Nat) (h : RdI W B A n xs) (hn : n ≤ c) (hc : n ≤ 4194304) (hcm : c ≤ maxLen) :
    Calls Try.prog 27 #[.slice A n c, .int .i64 x, .int .i64 y] W fun e w' => e = .returned (.bool (Bal.pref xs x y)) ∧ ∃ q, w' = W.drewN q := by
  have hv := sBallotValid_any A n c xs 5 W B h hn hc hcm
  have HL := Lib.hid h.len
  cases hok : Bal.bv xs 5 with
  | false =>
    rw [hok] at hv
    have HV := Lib.hid hv
    have HT := Lib.hid (Bal.pref_f x y hok)
    clear hv hok h
    go_enter Try.func27, Try.ntmps27
    go_wp2_with fail
    refine HV.out.mono ?_
    rintro e w1 ⟨rfl, q, rfl⟩
    go_wp2_with fail
    go_ret
    exact ⟨ret_bool HT.out.symm, q, rfl⟩
  | true =>
    rw [hok] at hv
    have HV := Lib.hid hv
    by_cases hxy : x = y
    · have HT := Lib.hid (Bal.pref_eq xs y)
      subst hxy
      clear hv hok h
      go_enter Try.func27, Try.ntmps27
      go_wp2_with fail
      refine HV.out.mono ?_
      rintro e w1 ⟨rfl, q, rfl⟩
      go_wp2_with fail
      go_ret
      exact ⟨ret_bool HT.out.symm, q, rfl⟩
    · have hne : (x == y) = false := by simpa using hxy
      have HT := Lib.hid (fun c hf => Bal.pref_some (c := c) hok hxy hf)
      clear hv hok
      have HXY := Lib.hid hxy
      clear hxy
      go_enter Try.func27, Try.ntmps27
      go_wp2_with fail
      refine HV.out.mono ?_
      rintro e w1 ⟨rfl, q0, rfl⟩
      go_wp2_with fail
      go_loopw [7] (fun i wr => ∃ k q : Nat, k ≤ n ∧ i = .int .i64 k ∧ (xs.take k).find? (Bal.sel x y) = none ∧ wr = W.drewN q) (fun i _ => n - (intOf i).toNat)
      case atStart => exact ⟨0, q0, Nat.zero_le _, rfl, by simp, rfl⟩
      case round =>
        obtain ⟨k, q, hk, rfl, hf, hwq⟩ := hrel
        have HF := Lib.hid hf
        clear hf
        have h' : RdI wr B A n xs := by rw [hwq]; exact h.drewN q
        have HW := Lib.hid hwq
        clear hwq h
        by_cases hlt : k < n
        · have hk' : k < xs.length := by have := HL.out; omega
          obtain ⟨b, off, rfl, hb, hcell⟩ := h'.at_ hlt hk'
          have hlt' : (k : Int) < (n : Int) := by omega
          have hk0 : (0 : Int) ≤ (k : Int) := by omega
          have HH := fun hp => HT.out _ (Bal.find_hit (p := Bal.sel x y) hk' HF.out hp)
          have HS := fun hp => Bal.find_step (p := Bal.sel x y) hk' HF.out hp
          clear h'
          generalize xs[k] = v at hcell HH HS
          by_cases hx : v = x
          · have HR := Lib.hid (HH (by simp [Bal.sel, hx]))
            subst hx
            clear HH HS
            go_wp2_with fail
            go_ret
            exact ⟨ret_bool (by rw [HR.out]; simp), q, HW.out⟩
          · have hx' : (v == x) = false := by simpa using hx
            by_cases hy : v = y
            · have HR := Lib.hid (HH (by simp [Bal.sel, hy]))
              subst hy
              clear HH HS hx
              go_wp2_with fail
              go_ret
              exact ⟨ret_bool (by rw [HR.out, hx']), q, HW.out⟩
            · have hy' : (v == y) = false := by simpa using hy
              have HR := Lib.hid (HS (by simp [Bal.sel, hx, hy]))
              clear HH HS hx hy
              go_wp2_with fail
              go_roundw
              case rel => exact ⟨k + 1, q, by omega, by go_num, HR.out, HW.out⟩
              case measure => simp [intOf]; omega
        · have hlt' : ¬ (k : Int) < (n : Int) := by omega
          have HR := Lib.hid (Bal.pref_none (Bal.find_end (by have := HL.out; omega) HF.out))
          clear h'
          go_wp2_with fail
          go_ret
          exact ⟨ret_bool HR.out.symm, q, HW.out⟩
end Go.Proofs.Ytpiajeibfggpiaa
