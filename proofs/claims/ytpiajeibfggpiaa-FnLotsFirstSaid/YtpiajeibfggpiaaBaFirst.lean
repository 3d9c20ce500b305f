/- BallotFirst and LotsFirst, the program's and the reference's. -/
import Derived.Test.YtpiajeibfggpiaaBools
import Derived.Test.YtpiajeibfggpiaaLoWalk
namespace Go.Proofs.Ytpiajeibfggpiaa
open Go.RowKit

theorem l1First_any (A A' : Option Addr) (n c n' c' : Nat) (xs : List Int) (ls : List Bool) (W : World) (B B' : Nat) (h : RdI W B A n xs) (h' : RdB W B' A' n' ls) (HB : Hid (∀ c, c ∈ xs → 0 ≤ c ∧ c < (n' : Int))) (hn : n ≤ 4194304) (hn' : n' ≤ 4194304) :
    Calls Try.prog 53 #[.slice A n c, .slice A' n' c'] W fun e w' => e = .returned (.int .i64 (Bal.first xs ls)) ∧ W = w' := by
  have HL := Lib.hid h.len
  go_enter Try.func53, Try.ntmps53
  go_wp2_with fail
  go_loop [5] (fun i => ∃ k : Nat, k ≤ n ∧ i = .int .i64 k ∧ (xs.take k).find? (Bal.here ls) = none) (fun i => n - (intOf i).toNat)
  case atStart => exact ⟨0, Nat.zero_le _, rfl, by simp⟩
  case round =>
    obtain ⟨k, hk, rfl, hf⟩ := hrel
    have HF := Lib.hid hf
    clear hf
    by_cases hlt : k < n
    · have hk' : k < xs.length := by have := HL.out; omega
      obtain ⟨b, off, rfl, hbB, hcell⟩ := h.at_ hlt hk'
      obtain ⟨y0, y1⟩ := HB.out xs[k] (List.getElem_mem hk')
      obtain ⟨b', off', rfl, hbB', hcellL⟩ := h'.at_ (k := xs[k].toNat) (by omega)
      have hlt' : (k : Int) < (n : Int) := by omega
      have hk0 : (0 : Int) ≤ (k : Int) := by omega
      have HH := fun hp => Bal.getD_some (Bal.find_hit (p := Bal.here ls) hk' HF.out hp)
      have HS := fun hp => Bal.find_step (p := Bal.here ls) hk' HF.out hp
      clear h h'
      cases hv : ls.getD xs[k].toNat false with
      | false =>
        rw [hv] at hcellL
        have HX := Lib.hid (HH (by unfold Bal.here; rw [hv]; rfl))
        clear HH HS hv
        generalize xs[k] = y at hcell hcellL y0 y1 HX
        go_wp2_with fail
        go_ret
        exact ⟨ret_int (by rw [Bal.first]; exact HX.out.symm), rfl⟩
      | true =>
        rw [hv] at hcellL
        have HX := Lib.hid (HS (by unfold Bal.here; rw [hv]; rfl))
        clear HH HS hv
        generalize xs[k] = y at hcell hcellL y0 y1
        go_wp2_with fail
        go_round
        case rel => exact ⟨k + 1, by omega, by go_num, HX.out⟩
        case measure => simp [intOf]; omega
    · have hlt' : ¬ (k : Int) < (n : Int) := by omega
      have HX := Lib.hid (Bal.getD_none (Bal.find_end (by have := HL.out; omega) HF.out))
      clear h h'
      go_wp2_with fail
      go_ret
      exact ⟨ret_int (by rw [Bal.first]; exact HX.out.symm), rfl⟩

theorem l4First_any (A A' : Option Addr) (n c n' c' : Nat) (xs : List Int) (ls : List Bool) (W : World) (B B' : Nat) (h : RdI W B A n xs) (h' : RdB W B' A' n' ls) (HB : Hid (∀ c, c ∈ xs → 0 ≤ c ∧ c < (n' : Int))) (hn : n ≤ 4194304) (hn' : n' ≤ 4194304) :
    Calls Try.prog 55 #[.slice A n c, .slice A' n' c'] W fun e w' => e = .returned (.int .i64 (Bal.lotFirst xs ls)) ∧ W = w' := by
  have HL := Lib.hid h.len
  go_enter Try.func55, Try.ntmps55
  go_wp2_with fail
  go_loop [5] (fun i => ∃ k : Nat, k ≤ n ∧ i = .int .i64 k ∧ (xs.take k).find? (Bal.there ls) = none) (fun i => n - (intOf i).toNat)
  case atStart => exact ⟨0, Nat.zero_le _, rfl, by simp⟩
  case round =>
    obtain ⟨k, hk, rfl, hf⟩ := hrel
    have HF := Lib.hid hf
    clear hf
    by_cases hlt : k < n
    · have hk' : k < xs.length := by have := HL.out; omega
      obtain ⟨b, off, rfl, hbB, hcell⟩ := h.at_ hlt hk'
      obtain ⟨y0, y1⟩ := HB.out xs[k] (List.getElem_mem hk')
      obtain ⟨b', off', rfl, hbB', hcellL⟩ := h'.at_ (k := xs[k].toNat) (by omega)
      have hlt' : (k : Int) < (n : Int) := by omega
      have hk0 : (0 : Int) ≤ (k : Int) := by omega
      have HH := fun hp => Bal.getD_some (Bal.find_hit (p := Bal.there ls) hk' HF.out hp)
      have HS := fun hp => Bal.find_step (p := Bal.there ls) hk' HF.out hp
      clear h h'
      cases hv : ls.getD xs[k].toNat false with
      | true =>
        rw [hv] at hcellL
        have HX := Lib.hid (HH (by unfold Bal.there; rw [hv]))
        clear HH HS hv
        generalize xs[k] = y at hcell hcellL y0 y1 HX
        go_wp2_with fail
        go_ret
        exact ⟨ret_int (by rw [Bal.lotFirst]; exact HX.out.symm), rfl⟩
      | false =>
        rw [hv] at hcellL
        have HX := Lib.hid (HS (by unfold Bal.there; rw [hv]))
        clear HH HS hv
        generalize xs[k] = y at hcell hcellL y0 y1
        go_wp2_with fail
        go_round
        case rel => exact ⟨k + 1, by omega, by go_num, HX.out⟩
        case measure => simp [intOf]; omega
    · have hlt' : ¬ (k : Int) < (n : Int) := by omega
      have HX := Lib.hid (Bal.getD_none (Bal.find_end (by have := HL.out; omega) HF.out))
      clear h h'
      go_wp2_with fail
      go_ret
      exact ⟨ret_int (by rw [Bal.lotFirst]; exact HX.out.symm), rfl⟩

theorem sBallotFirst_any (A A' : Option Addr) (n c n' c' : Nat) (xs : List Int) (ls : List Bool) (W : World) (B B' : Nat) (h : RdI W B A n xs) (h' : RdB W B' A' n' ls) (hc : n ≤ c) (hcm : c ≤ maxLen) (hn : n ≤ 4194304) (hn' : n' ≤ 4194304) :
    Calls Try.prog 30 #[.slice A n c, .slice A' n' c'] W fun e w' => e = .returned (.int .i64 (Bal.bfirst xs ls)) ∧ ∃ q, w' = W.drewN q := by
  have hL := h'.len
  have hv := sBallotValid_any A n c xs (n' : Int) W B h hc hn hcm
  cases hok : Bal.bv xs (n' : Int) with
  | false =>
    rw [hok] at hv
    have HV := Lib.hid hv
    have HT := Lib.hid (Bal.bfirst_f (left := ls) (by rw [hL]) hok)
    clear hv hok h h' hL
    go_enter Try.func30, Try.ntmps30
    go_wp2_with fail
    refine HV.out.mono ?_
    rintro e w1 ⟨rfl, q, rfl⟩
    go_wp2_with fail
    go_ret
    exact ⟨ret_int HT.out.symm, q, rfl⟩
  | true =>
    rw [hok] at hv
    have HV := Lib.hid hv
    have HT := Lib.hid (Bal.bfirst_t (left := ls) (by rw [hL]) hok)
    have HC := Lib.hid (fun q => l1First_any A A' n c n' c' xs ls (W.drewN q) B B' (h.drewN q) (h'.drewN q) (Lib.hid (Bal.bv_iff.1 hok).2.1) hn hn')
    clear hv hok h h' hL
    go_enter Try.func30, Try.ntmps30
    go_wp2_with fail
    refine HV.out.mono ?_
    rintro e w1 ⟨rfl, q, rfl⟩
    go_wp2_with fail
    refine (HC.out q).mono ?_
    rintro e w1 ⟨rfl, rfl⟩
    go_wp2_with fail
    go_ret
    exact ⟨ret_int HT.out.symm, q, rfl⟩

theorem sLotsFirst_any (A A' : Option Addr) (n c n' c' : Nat) (xs : List Int) (ls : List Bool) (W : World) (B B' : Nat) (h : RdI W B A n xs) (h' : RdB W B' A' n' ls) (hc : n ≤ c) (hcm : c ≤ maxLen) (hn : n ≤ 4194304) (hn' : n' ≤ 4194304) :
    Calls Try.prog 41 #[.slice A n c, .slice A' n' c'] W fun e w' => e = .returned (.int .i64 (Bal.lfirst xs ls)) ∧ ∃ q, w' = W.drewN q := by
  have hL := h'.len
  have hL' := h.len
  have hv := sLotsValid_any A n c xs W B h hc hn hcm
  cases hok : Bal.bv xs (n : Int) with
  | false =>
    rw [hok] at hv
    have HV := Lib.hid hv
    have HT := Lib.hid (Bal.lfirst_f (some := ls) (by rw [hL']) hok)
    clear hv hok h h' hL hL'
    go_enter Try.func41, Try.ntmps41
    go_wp2_with fail
    refine HV.out.mono ?_
    rintro e w1 ⟨rfl, q, rfl⟩
    go_wp2_with fail
    go_ret
    exact ⟨ret_int HT.out.symm, q, rfl⟩
  | true =>
    rw [hok] at hv
    have HV := Lib.hid hv
    by_cases hnn : n' = n
    · have hb1 : ((n' : Int) != (n : Int)) = false := by simp [hnn]
      have HT := Lib.hid (Bal.lfirst_t (some := ls) (by rw [hL']) hok (by rw [hL, hL', hnn]))
      have HC := Lib.hid (fun q => l4First_any A A' n c n' c' xs ls (W.drewN q) B B' (h.drewN q) (h'.drewN q) (Lib.hid (by rw [hnn]; exact (Bal.bv_iff.1 hok).2.1)) hn hn')
      clear hv hok h h' hL hL' hnn
      go_enter Try.func41, Try.ntmps41
      go_wp2_with fail
      refine HV.out.mono ?_
      rintro e w1 ⟨rfl, q, rfl⟩
      go_wp2_with fail
      refine (HC.out q).mono ?_
      rintro e w1 ⟨rfl, rfl⟩
      go_wp2_with fail
      go_ret
      exact ⟨ret_int HT.out.symm, q, rfl⟩
    · have hb1 : ((n' : Int) != (n : Int)) = true := by simp; omega
      have HT := Lib.hid (Bal.lfirst_n (b := xs) (some := ls) (by rw [hL, hL']; exact hnn))
      clear hok h h' hL hL' hnn
      go_enter Try.func41, Try.ntmps41
      go_wp2_with fail
      refine HV.out.mono ?_
      rintro e w1 ⟨rfl, q, rfl⟩
      go_wp2_with fail
      go_ret
      exact ⟨ret_int HT.out.symm, q, rfl⟩

theorem iBallotFirst_any (A A' : Option Addr) (n c n' c' : Nat) (xs : List Int) (ls : List Bool) (W : World) (B B' : Nat) (h : RdI W B A n xs) (h' : RdB W B' A' n' ls) (hc : n ≤ c) (hcm : c ≤ maxLen) (hn : n ≤ 4194304) (hn' : n' ≤ 4194304) :
    Calls Try.prog 29 #[.slice A n c, .slice A' n' c'] W fun e w' => e = .returned (.int .i64 (Bal.bfirst xs ls)) ∧ W = w' := by
  have hL := h'.len
  have HL := Lib.hid h.len
  have hv := iBallotValid_any A n c xs (n' : Int) W B h hc hn hcm
  cases hok : Bal.bv xs (n' : Int) with
  | false =>
    rw [hok] at hv
    have HV := Lib.hid hv
    have HT := Lib.hid (Bal.bfirst_f (left := ls) (by rw [hL]) hok)
    clear hv hok h h' hL
    go_enter Try.func29, Try.ntmps29
    go_wp2_with fail
    refine HV.out.mono ?_
    rintro e w1 ⟨rfl, rfl⟩
    go_wp2_with fail
    go_ret
    exact ⟨ret_int HT.out.symm, rfl⟩
  | true =>
    rw [hok] at hv
    have HV := Lib.hid hv
    have HT := Lib.hid (Bal.bfirst_t (left := ls) (by rw [hL]) hok)
    have HB := Lib.hid (Bal.bv_iff.1 hok).2.1
    clear hv hok hL
    go_enter Try.func29, Try.ntmps29
    go_wp2_with fail
    refine HV.out.mono ?_
    rintro e w1 ⟨rfl, rfl⟩
    go_wp2_with fail
    go_loop [14] (fun i => ∃ k : Nat, k ≤ n ∧ i = .int .i64 k ∧ (xs.take k).find? (Bal.here ls) = none) (fun i => n - (intOf i).toNat)
    case atStart => exact ⟨0, Nat.zero_le _, rfl, by simp⟩
    case round =>
      obtain ⟨k, hk, rfl, hf⟩ := hrel
      have HF := Lib.hid hf
      clear hf
      by_cases hlt : k < n
      · have hk' : k < xs.length := by have := HL.out; omega
        obtain ⟨b, off, rfl, hbB, hcell⟩ := h.at_ hlt hk'
        obtain ⟨y0, y1⟩ := HB.out xs[k] (List.getElem_mem hk')
        obtain ⟨b', off', rfl, hbB', hcellL⟩ := h'.at_ (k := xs[k].toNat) (by omega)
        have hlt' : (k : Int) < (n : Int) := by omega
        have hk0 : (0 : Int) ≤ (k : Int) := by omega
        have HH := fun hp => Bal.getD_some (Bal.find_hit (p := Bal.here ls) hk' HF.out hp)
        have HS := fun hp => Bal.find_step (p := Bal.here ls) hk' HF.out hp
        clear h h'
        cases hv : ls.getD xs[k].toNat false with
        | false =>
          rw [hv] at hcellL
          have HX := Lib.hid (HH (by unfold Bal.here; rw [hv]; rfl))
          clear HH HS hv
          generalize xs[k] = y at hcell hcellL y0 y1 HX
          go_wp2_with fail
          go_ret
          exact ⟨ret_int (by rw [HT.out, Bal.first]; exact HX.out.symm), rfl⟩
        | true =>
          rw [hv] at hcellL
          have HX := Lib.hid (HS (by unfold Bal.here; rw [hv]; rfl))
          clear HH HS hv
          generalize xs[k] = y at hcell hcellL y0 y1
          go_wp2_with fail
          go_round
          case rel => exact ⟨k + 1, by omega, by go_num, HX.out⟩
          case measure => simp [intOf]; omega
      · have hlt' : ¬ (k : Int) < (n : Int) := by omega
        have HX := Lib.hid (Bal.getD_none (Bal.find_end (by have := HL.out; omega) HF.out))
        clear h h'
        go_wp2_with fail
        go_ret
        exact ⟨ret_int (by rw [HT.out, Bal.first]; exact HX.out.symm), rfl⟩

theorem iLotsFirst_any (A A' : Option Addr) (n c n' c' : Nat) (xs : List Int) (ls : List Bool) (W : World) (B B' : Nat) (h : RdI W B A n xs) (h' : RdB W B' A' n' ls) (hc : n ≤ c) (hcm : c ≤ maxLen) (hn : n ≤ 4194304) (hn' : n' ≤ 4194304) :
    Calls Try.prog 40 #[.slice A n c, .slice A' n' c'] W fun e w' => e = .returned (.int .i64 (Bal.lfirst xs ls)) ∧ W = w' := by
  have hL := h'.len
  have hL' := h.len
  have HL := Lib.hid h.len
  have hv := iLotsValid_any A n c xs W B h hc hn hcm
  cases hok : Bal.bv xs (n : Int) with
  | false =>
    rw [hok] at hv
    have HV := Lib.hid hv
    have HT := Lib.hid (Bal.lfirst_f (some := ls) (by rw [hL']) hok)
    clear hv hok h h' hL hL'
    go_enter Try.func40, Try.ntmps40
    go_wp2_with fail
    refine HV.out.mono ?_
    rintro e w1 ⟨rfl, rfl⟩
    go_wp2_with fail
    go_ret
    exact ⟨ret_int HT.out.symm, rfl⟩
  | true =>
    rw [hok] at hv
    have HV := Lib.hid hv
    by_cases hnn : n' = n
    · have hb1 : ((n' : Int) != (n : Int)) = false := by simp [hnn]
      have HT := Lib.hid (Bal.lfirst_t (some := ls) (by rw [hL']) hok (by rw [hL, hL', hnn]))
      have HB : Hid (∀ c, c ∈ xs → 0 ≤ c ∧ c < (n' : Int)) := Lib.hid (by rw [hnn]; exact (Bal.bv_iff.1 hok).2.1)
      clear hv hok hL hL' hnn
      go_enter Try.func40, Try.ntmps40
      go_wp2_with fail
      refine HV.out.mono ?_
      rintro e w1 ⟨rfl, rfl⟩
      go_wp2_with fail
      go_loop [19] (fun i => ∃ k : Nat, k ≤ n ∧ i = .int .i64 k ∧ (xs.take k).find? (Bal.there ls) = none) (fun i => n - (intOf i).toNat)
      case atStart => exact ⟨0, Nat.zero_le _, rfl, by simp⟩
      case round =>
        obtain ⟨k, hk, rfl, hf⟩ := hrel
        have HF := Lib.hid hf
        clear hf
        by_cases hlt : k < n
        · have hk' : k < xs.length := by have := HL.out; omega
          obtain ⟨b, off, rfl, hbB, hcell⟩ := h.at_ hlt hk'
          obtain ⟨y0, y1⟩ := HB.out xs[k] (List.getElem_mem hk')
          obtain ⟨b', off', rfl, hbB', hcellL⟩ := h'.at_ (k := xs[k].toNat) (by omega)
          have hlt' : (k : Int) < (n : Int) := by omega
          have hk0 : (0 : Int) ≤ (k : Int) := by omega
          have HH := fun hp => Bal.getD_some (Bal.find_hit (p := Bal.there ls) hk' HF.out hp)
          have HS := fun hp => Bal.find_step (p := Bal.there ls) hk' HF.out hp
          clear h h'
          cases hv : ls.getD xs[k].toNat false with
          | true =>
            rw [hv] at hcellL
            have HX := Lib.hid (HH (by unfold Bal.there; rw [hv]))
            clear HH HS hv
            generalize xs[k] = y at hcell hcellL y0 y1 HX
            go_wp2_with fail
            go_ret
            exact ⟨ret_int (by rw [HT.out, Bal.lotFirst]; exact HX.out.symm), rfl⟩
          | false =>
            rw [hv] at hcellL
            have HX := Lib.hid (HS (by unfold Bal.there; rw [hv]))
            clear HH HS hv
            generalize xs[k] = y at hcell hcellL y0 y1
            go_wp2_with fail
            go_round
            case rel => exact ⟨k + 1, by omega, by go_num, HX.out⟩
            case measure => simp [intOf]; omega
        · have hlt' : ¬ (k : Int) < (n : Int) := by omega
          have HX := Lib.hid (Bal.getD_none (Bal.find_end (by have := HL.out; omega) HF.out))
          clear h h'
          go_wp2_with fail
          go_ret
          exact ⟨ret_int (by rw [HT.out, Bal.lotFirst]; exact HX.out.symm), rfl⟩
    · have hb1 : ((n' : Int) != (n : Int)) = true := by simp; omega
      have HT := Lib.hid (Bal.lfirst_n (b := xs) (some := ls) (by rw [hL, hL']; exact hnn))
      clear hok h h' hL hL' hnn
      go_enter Try.func40, Try.ntmps40
      go_wp2_with fail
      refine HV.out.mono ?_
      rintro e w1 ⟨rfl, rfl⟩
      go_wp2_with fail
      go_ret
      exact ⟨ret_int HT.out.symm, rfl⟩
end Go.Proofs.Ytpiajeibfggpiaa
