/- A slice of numbers that is read as a list; the small functions over it: l6In, isMany, l1Has, slices.Contains, slices.Index. -/
import Derived.Test.YtnolnlhoedafcaaReg
import Derived.Test.YtnolnlhoedafcaaShelf
import Derived.Test.YtnolnlhoedafcaaBaPlain
import Derived.Lib.Slices
namespace Go.Proofs.Ytnolnlhoedafcaa
open Go.RowKit

theorem ret_int {k : IntKind} {a b : Int} (h : a = b) : Ending.returned (.int k a) = .returned (.int k b) := by rw [h]
theorem ret_bool {a b : Bool} (h : a = b) : Ending.returned (.bool a) = .returned (.bool b) := by rw [h]

/-- the slice at A, of n elements, reads as xs and lies below block B -/
def RdI (W : World) (B : Nat) (A : Option Addr) (n : Nat) (xs : List Int) : Prop :=
  xs.length = n ∧ (0 < n → ∃ b off, A = some ⟨b, off, none⟩ ∧ b < B ∧ ∀ j, j < n → W.cell? ⟨b, off + j, none⟩ = some (.int .i64 (xs.getD j 0)))

section
variable {W W' : World} {B B' n : Nat} {A : Option Addr} {xs : List Int}
theorem RdI.len (h : RdI W B A n xs) : xs.length = n := h.1
theorem RdI.nil : RdI W B A 0 [] := ⟨rfl, fun h => absurd h (by omega)⟩
theorem RdI.keep (h : RdI W B A n xs) (hk : ∀ b o, b < B → W'.cell? ⟨b, o, none⟩ = W.cell? ⟨b, o, none⟩) : RdI W' B A n xs :=
  ⟨h.1, fun hn => by
    obtain ⟨b, off, e, hb, hc⟩ := h.2 hn
    exact ⟨b, off, e, hb, fun j hj => (hk b _ hb).trans (hc j hj)⟩⟩
theorem RdI.more (h : RdI W B A n xs) (hB : B ≤ B') : RdI W B' A n xs :=
  ⟨h.1, fun hn => by
    obtain ⟨b, off, e, hb, hc⟩ := h.2 hn
    exact ⟨b, off, e, by omega, hc⟩⟩
theorem RdI.below (h : RdI W B A n xs) (hb : Below B W W') : RdI W' B A n xs := h.keep fun b o hlt => hb.cell (p := ⟨b, o, none⟩) hlt
theorem RdI.drewN (h : RdI W B A n xs) (k : Nat) : RdI (W.drewN k) B A n xs := h
theorem RdI.take (h : RdI W B A n xs) (k : Nat) (hk : k ≤ n) : RdI W B A k (xs.take k) :=
  ⟨by rw [List.length_take]; have := h.1; omega, fun h0 => by
    obtain ⟨b, off, e, hb, hc⟩ := h.2 (by omega)
    refine ⟨b, off, e, hb, fun j hj => ?_⟩
    rw [hc j (by omega)]
    congr 2
    rw [List.getD_eq_getElem?_getD, List.getD_eq_getElem?_getD, List.getElem?_take]
    simp [hj]⟩
theorem RdI.drop (h : RdI W B A n xs) (k c : Nat) (hk : k ≤ n) : RdI W B (if c = k then A else A.map (·.add k)) (n - k) (xs.drop k) ∨ c = k := by
  by_cases hc : c = k
  · exact .inr hc
  · refine .inl ⟨by rw [List.length_drop]; have := h.1; omega, fun h0 => ?_⟩
    obtain ⟨b, off, e, hb, hcell⟩ := h.2 (by omega)
    rw [if_neg hc, e]
    refine ⟨b, off + k, ?_, hb, fun j hj => ?_⟩
    · simp only [Option.map_some, Addr.add]
      split <;> simp_all
    · rw [Nat.add_assoc, hcell (k + j) (by omega)]
      congr 2
      simp [List.getD_eq_getElem?_getD, List.getElem?_drop]
theorem RdI.at_ {k : Nat} (h : RdI W B A n xs) (hk : k < n) (hl : k < xs.length) : ∃ b off, A = some ⟨b, off, none⟩ ∧ b < B ∧ W.cell? ⟨b, off + k, none⟩ = some (.int .i64 xs[k]) := by
  obtain ⟨b, off, e, hb, hc⟩ := h.2 (by omega)
  refine ⟨b, off, e, hb, ?_⟩
  rw [hc k hk, List.getD_eq_getElem?_getD, List.getElem?_eq_getElem hl]
  rfl
end

theorem l6In_any (n lo hi : Int) (w : World) :
    Calls Try.prog 20 #[.int .i64 n, .int .i64 lo, .int .i64 hi] w fun e w' => e = .returned (.bool (decide (lo ≤ n) && decide (n ≤ hi))) ∧ w = w' := by
  go_enter Try.func20, Try.ntmps20
  go_wp2
  all_goals
    go_ret
    exact ⟨ret_bool (by simp; omega), rfl⟩
theorem l6In_t (n lo hi : Int) (w : World) (h : lo ≤ n ∧ n ≤ hi) : Calls Try.prog 20 #[.int .i64 n, .int .i64 lo, .int .i64 hi] w fun e w' => e = .returned (.bool true) ∧ w = w' :=
  (l6In_any n lo hi w).mono fun _ _ ⟨he, hw⟩ => ⟨by rw [he]; simp [h.1, h.2], hw⟩
theorem l6In_f (n lo hi : Int) (w : World) (h : ¬ (lo ≤ n ∧ n ≤ hi)) : Calls Try.prog 20 #[.int .i64 n, .int .i64 lo, .int .i64 hi] w fun e w' => e = .returned (.bool false) ∧ w = w' :=
  (l6In_any n lo hi w).mono fun _ _ ⟨he, hw⟩ => ⟨by rw [he]; refine ret_bool ?_; simp; omega, hw⟩

theorem isMany_any (n : Int) (w : World) :
    Calls Try.prog 28 #[.int .i64 n] w fun e w' => e = .returned (.bool (decide (1 ≤ n) && decide (n ≤ 5))) ∧ w = w' := by
  go_enter Try.func28, Try.ntmps28
  go_wp2
  all_goals
    go_ret
    exact ⟨ret_bool (by simp; omega), rfl⟩
theorem isMany_t (n : Int) (w : World) (h : 1 ≤ n ∧ n ≤ 5) : Calls Try.prog 28 #[.int .i64 n] w fun e w' => e = .returned (.bool true) ∧ w = w' :=
  (isMany_any n w).mono fun _ _ ⟨he, hw⟩ => ⟨by rw [he]; simp [h.1, h.2], hw⟩
theorem isMany_f (n : Int) (w : World) (h : ¬ (1 ≤ n ∧ n ≤ 5)) : Calls Try.prog 28 #[.int .i64 n] w fun e w' => e = .returned (.bool false) ∧ w = w' :=
  (isMany_any n w).mono fun _ _ ⟨he, hw⟩ => ⟨by rw [he]; refine ret_bool ?_; simp; omega, hw⟩

theorem getD_of {xs : List Int} (W : World) (b off n : Nat) (hl : xs.length = n) (hc : ∀ j, j < n → W.cell? ⟨b, off + j, none⟩ = some (.int .i64 (xs.getD j 0))) : ∀ j, j < xs.length → W.cell? ⟨b, off + j, none⟩ = some (.int .i64 (xs.getD j 0)) :=
  fun j hj => hc j (by omega)

theorem contains_snoc (xs : List Int) (k : Nat) (x : Int) (hk : k < xs.length) : (xs.take (k + 1)).contains x = ((xs.take k).contains x || xs[k] == x) := by
  have h : x ∈ xs.take (k + 1) ↔ x ∈ xs.take k ∨ x = xs[k] := by
    rw [List.take_succ_eq_append_getElem hk]
    exact List.mem_append.trans (by rw [List.mem_singleton])
  rw [Bool.eq_iff_iff, Bool.or_eq_true, List.contains_iff_mem, List.contains_iff_mem, h, beq_iff_eq]
  exact or_congr Iff.rfl eq_comm

/-- spec.l1Has -/
theorem l1Has_any (A : Option Addr) (n c : Nat) (xs : List Int) (x : Int) (W : World) (B : Nat) (h : RdI W B A n xs) (hn : n ≤ 4194304) :
    Calls Try.prog 32 #[.slice A n c, .int .i64 x] W fun e w' => e = .returned (.bool (xs.contains x)) ∧ W = w' := by
  have hl := h.1
  have HL := Lib.hid hl
  clear hl
  go_enter Try.func32, Try.ntmps32
  go_wp2
  go_loop [5] (fun i => ∃ k : Nat, k ≤ n ∧ i = .int .i64 k ∧ (xs.take k).contains x = false) (fun i => n - (intOf i).toNat)
  case atStart => exact ⟨0, Nat.zero_le _, rfl, by simp⟩
  case round =>
    obtain ⟨k, hk, rfl, hf⟩ := hrel
    have HF := Lib.hid hf
    clear hf
    by_cases hlt : k < n
    · have hk' : k < xs.length := by have := HL.out; omega
      obtain ⟨b, off, rfl, hb, hcell⟩ := h.at_ hlt hk'
      have hlt' : (k : Int) < (n : Int) := by omega
      have HS := Lib.hid (contains_snoc xs k x hk')
      generalize xs[k] = y at hcell HS
      clear h
      by_cases hy : y = x
      · subst hy
        go_wp2
        go_ret
        refine ⟨ret_bool ?_, rfl⟩
        have h1 := HS.out
        simp only [beq_self_eq_true, Bool.or_true] at h1
        have h2 : y ∈ xs.take (k + 1) := by simpa using h1
        simpa using List.mem_of_mem_take h2
      · have hy' : (y == x) = false := by simpa using hy
        go_wp2
        go_round
        case rel => exact ⟨k + 1, by omega, by go_num, by rw [HS.out, HF.out, hy']; rfl⟩
        case measure => simp [intOf]; omega
    · have hlt' : ¬ (k : Int) < (n : Int) := by omega
      clear h
      go_wp2
      go_ret
      have := HF.out
      rw [List.take_of_length_le (by have := HL.out; omega)] at this
      exact ⟨ret_bool (by simpa using this), rfl⟩
theorem l1Has_b (v : Bool) (A : Option Addr) (n c : Nat) (xs : List Int) (x : Int) (W : World) (B : Nat) (h : RdI W B A n xs) (hn : n ≤ 4194304) (hv : xs.contains x = v) :
    Calls Try.prog 32 #[.slice A n c, .int .i64 x] W fun e w' => e = .returned (.bool v) ∧ W = w' := by
  rw [← hv]; exact l1Has_any A n c xs x W B h hn
end Go.Proofs.Ytnolnlhoedafcaa
