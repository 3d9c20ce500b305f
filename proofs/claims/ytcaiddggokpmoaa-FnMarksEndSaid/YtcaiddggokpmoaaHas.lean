/- hasInt of the laws: whether a list has a number. -/
import Derived.Test.YtcaiddggokpmoaaInts
namespace Go.Proofs.Ytcaiddggokpmoaa
open Go.RowKit

/-- laws.hasInt -/
theorem hasInt_any (A : Option Addr) (n c : Nat) (xs : List Int) (x : Int) (W : World) (B : Nat) (h : RdI W B A n xs) (hn : n ≤ 4194304) :
    Calls Try.prog 30 #[.slice A n c, .int .i64 x] W fun e w' => e = .returned (.bool (xs.contains x)) ∧ W = w' := by
  have hl := h.1
  have HL := Lib.hid hl
  clear hl
  go_enter Try.func30, Try.ntmps30
  go_wp2
  go_loop [5] (fun i => ∃ k : Nat, k ≤ n ∧ i = .int .i64 k ∧ (xs.take k).contains x = false) (fun i => n - (intOf i).toNat)
  case atStart => exact ⟨0, Nat.zero_le _, rfl, by simp⟩
  case round =>
    obtain ⟨k, hk, rfl, hf⟩ := hrel
    have HF := Lib.hid hf
    clear hf
    by_cases hlt : k < n
    · have hk' : k < xs.length := by have := HL.out; omega
      obtain ⟨b, off, rfl, hb, hcell⟩ := h.at_ hlt hk'
      have hlt' : (k : Int) < (n : Int) := by omega
      have HS := Lib.hid (contains_snoc xs k x hk')
      generalize xs[k] = y at hcell HS
      clear h
      by_cases hy : y = x
      · subst hy
        go_wp2
        go_ret
        refine ⟨ret_bool ?_, rfl⟩
        have h1 := HS.out
        simp only [beq_self_eq_true, Bool.or_true] at h1
        have h2 : y ∈ xs.take (k + 1) := by simpa using h1
        simpa using List.mem_of_mem_take h2
      · have hy' : (y == x) = false := by simpa using hy
        go_wp2
        go_round
        case rel => exact ⟨k + 1, by omega, by go_num, by rw [HS.out, HF.out, hy']; rfl⟩
        case measure => simp [intOf]; omega
    · have hlt' : ¬ (k : Int) < (n : Int) := by omega
      clear h
      go_wp2
      go_ret
      have := HF.out
      rw [List.take_of_length_le (by have := HL.out; omega)] at this
      exact ⟨ret_bool (by simpa using this), rfl⟩
theorem hasInt_b (v : Bool) (A : Option Addr) (n c : Nat) (xs : List Int) (x : Int) (W : World) (B : Nat) (h : RdI W B A n xs) (hn : n ≤ 4194304) (hv : xs.contains x = v) :
    Calls Try.prog 30 #[.slice A n c, .int .i64 x] W fun e w' => e = .returned (.bool v) ∧ W = w' := by
  rw [← hv]; exact hasInt_any A n c xs x W B h hn
end Go.Proofs.Ytcaiddggokpmoaa
