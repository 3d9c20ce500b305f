/- before of the laws: whether a number comes before another one. -/
import Derived.Test.YtpiajeibfggpiaaHas
import Derived.Test.YtpiajeibfggpiaaBaPlain2
namespace Go.Proofs.Ytpiajeibfggpiaa
open Go.RowKit

theorem before_any (A : Option Addr) (n c : Nat) (xs : List Int) (x y : Int) (W : World) (B : Nat) (h : RdI W B A n xs) (hc : n ≤ 4194304) :
    Calls Try.prog 35 #[.slice A n c, .int .i64 x, .int .i64 y] W fun e w' => e = .returned (.bool (Bal.bef xs x y)) ∧ W = w' := by
  have HL := Lib.hid h.len
  obtain ⟨d, hd⟩ : ∃ d : Bool, (x != y) = d := ⟨_, rfl⟩
  have HD := Lib.hid hd
  go_enter Try.func35, Try.ntmps35
  go_wp2_with fail
  go_loop [7] (fun i => ∃ k : Nat, k ≤ n ∧ i = .int .i64 k ∧ (xs.take k).find? (Bal.sel x y) = none) (fun i => n - (intOf i).toNat)
  case atStart => exact ⟨0, Nat.zero_le _, rfl, by simp⟩
  case round =>
    obtain ⟨k, hk, rfl, hf⟩ := hrel
    have HF := Lib.hid hf
    clear hf
    by_cases hlt : k < n
    · have hk' : k < xs.length := by have := HL.out; omega
      obtain ⟨b, off, rfl, hb, hcell⟩ := h.at_ hlt hk'
      have hlt' : (k : Int) < (n : Int) := by omega
      have hk0 : (0 : Int) ≤ (k : Int) := by omega
      have HH := fun hp => Bal.find_hit (p := Bal.sel x y) hk' HF.out hp
      have HS := fun hp => Bal.find_step (p := Bal.sel x y) hk' HF.out hp
      clear h
      generalize xs[k] = v at hcell HH HS
      by_cases hx : v = x
      · have HR := Lib.hid (HH (by simp [Bal.sel, hx]))
        have hx' : (v == x) = true := by simpa using hx
        have HX := Lib.hid hx
        clear HH HS hx
        go_wp2_with fail
        go_ret
        exact ⟨ret_bool (by unfold Bal.bef; rw [HR.out, HX.out, HD.out]; simp), rfl⟩
      · have hx' : (v == x) = false := by simpa using hx
        by_cases hy : v = y
        · have HR := Lib.hid (HH (by simp [Bal.sel, hy]))
          have hy' : (v == y) = true := by simpa using hy
          have HX := Lib.hid hx'
          clear HH HS hx hy
          go_wp2_with fail
          go_ret
          exact ⟨ret_bool (by unfold Bal.bef; rw [HR.out]; have := HX.out; simp at this; simp; intro _ e; exact this e), rfl⟩
        · have hy' : (v == y) = false := by simpa using hy
          have HR := Lib.hid (HS (by simp [Bal.sel, hx, hy]))
          clear HH HS hx hy
          go_wp2_with fail
          go_round
          case rel => exact ⟨k + 1, by omega, by go_num, HR.out⟩
          case measure => simp [intOf]; omega
    · have hlt' : ¬ (k : Int) < (n : Int) := by omega
      have HR := Lib.hid (Bal.find_end (by have := HL.out; omega) HF.out)
      clear h
      go_wp2_with fail
      go_ret
      exact ⟨ret_bool (by unfold Bal.bef; rw [HR.out]; simp), rfl⟩
end Go.Proofs.Ytpiajeibfggpiaa
