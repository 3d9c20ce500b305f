/- markIntS writes numbers one after the other into a slice that the call owns; heldIntS reads them again. -/
import Derived.Test.YtnolnlhoedafcaaOwn
namespace Go.Proofs.Ytnolnlhoedafcaa
open Go.RowKit

/-- n numbers from k on -/
def marks (k : Int) (n : Nat) : List Int := (List.range n).map fun (i : Nat) => k + (i : Int)
theorem marks_len (k : Int) (n : Nat) : (marks k n).length = n := by simp [marks]
theorem marks_at (k : Int) (n i : Nat) (h : i < n) : (marks k n).getD i 0 = k + i := by
  rw [List.getD_eq_getElem?_getD, marks, List.getElem?_map, List.getElem?_range h]
  rfl
/-- the first j are marked -/
def marked (xs : List Int) (k : Int) (j : Nat) : List Int := marks k j ++ xs.drop j
theorem marked_zero (xs : List Int) (k : Int) : marked xs k 0 = xs := by simp [marked, marks]
theorem marked_all (xs : List Int) (k : Int) (n : Nat) (h : xs.length = n) : marked xs k n = marks k n := by simp [marked, ← h]
theorem marked_len (xs : List Int) (k : Int) (j : Nat) (h : j ≤ xs.length) : (marked xs k j).length = xs.length := by simp [marked, marks_len]; omega
theorem marked_set (xs : List Int) (k : Int) (j : Nat) (h : j < xs.length) : (marked xs k j).set j (k + j) = marked xs k (j + 1) := by
  unfold marked
  rw [List.set_append_right _ _ (by rw [marks_len]; omega), marks_len, Nat.sub_self, ← List.getElem_cons_drop h, List.set_cons_zero]
  have e : marks k (j + 1) = marks k j ++ [k + (j : Int)] := by simp [marks, List.range_succ]
  rw [e, List.append_assoc]
  rfl

theorem grown_set {W : World} {g : Nat} (k : Nat) (v : Value) : W.grownBy (W.setCell ⟨g, k, none⟩ v) (some g) :=
  ⟨rfl, rfl, rfl, by simp [World.setCell], fun i _ hne => Below.heap_setCell W ⟨g, k, none⟩ v i (fun e => hne (by rw [e]))⟩
theorem grown_trans {a b c : World} {r : Option Nat} (h : a.grownBy b r) (k : b.grownBy c r) : a.grownBy c r :=
  ⟨k.os.trans h.os, k.tape.trans h.tape, k.output.trans h.output, Nat.le_trans h.size k.size, fun i hi hne => (k.block i (Nat.lt_of_lt_of_le hi h.size) hne).trans (h.block i hi hne)⟩

/-- what markIntS leaves -/
def MarkPost (W : World) (B : Nat) (A : Option Addr) (n c : Nat) (k : Int) (e : Ending) (w' : World) : Prop :=
  e = .returned (.int .i64 (k + n)) ∧ OwA w' B A n c (marks k n) ∧ W.grownBy w' (Value.ownBlock (.slice A n c)) ∧ w'.heap.size = W.heap.size

set_option maxHeartbeats 800000 in
theorem markIntS_any (A : Option Addr) (n c : Nat) (xs : List Int) (k : Int) (W : World) (B : Nat) (h : OwA W B A n c xs) (hn : n ≤ 4194304) (h0 : 0 ≤ k) (h1 : k ≤ 4294967296) :
    Calls Try.prog 14 #[.slice A n c, .int .i64 k] W (MarkPost W B A n c k) := by
  have HL := Lib.hid h.len
  have HC := Lib.hid h.cap
  go_enter Try.func14, Try.ntmps14
  go_wp2_with fail
  go_loopw [1, 5] (fun m i wr => ∃ j : Nat, j ≤ n ∧ i = .int .i64 j ∧ m = .int .i64 (k + j) ∧ OwA wr B A n c (marked xs k j) ∧ W.grownBy wr (Value.ownBlock (.slice A n c)) ∧ wr.heap.size = W.heap.size) (fun _ i _ => n - (intOf i).toNat)
  case atStart => exact ⟨0, Nat.zero_le _, rfl, by simp, by rw [marked_zero]; exact h, ⟨rfl, rfl, rfl, Nat.le_refl _, fun _ _ _ => rfl⟩, rfl⟩
  case round =>
    obtain ⟨j, hj, rfl, rfl, ho, hg, hz⟩ := hrel
    have HO := Lib.hid ho
    have HZ := Lib.hid hz
    clear ho hz h
    by_cases hlt : j < n
    · obtain ⟨g, rfl, hBg, hgl, hcell⟩ := HO.out.at_ (by omega)
      obtain ⟨hc, hf⟩ := hcell j hlt
      clear hcell
      have HS := Lib.hid (HO.out.set_ j (k + j))
      have HM := Lib.hid (marked_set xs k j (by have := HL.out; omega))
      have HG := Lib.hid (grown_trans hg (grown_set (W := wr) j (.int .i64 (k + j))))
      clear hg
      generalize (marked xs k j).getD j 0 = y at hc
      have hlt' : (j : Int) < (n : Int) := by omega
      go_wp2_with fail
      go_roundw
      case rel => exact ⟨j + 1, by omega, by go_num, by go_num, by rw [← HM.out]; exact HS.out, HG.out, by simpa [World.setCell] using HZ.out⟩
      case measure => simp [intOf]; omega
    · have hlt' : ¬ (j : Int) < (n : Int) := by omega
      obtain rfl : j = n := by omega
      go_wp2_with fail
      go_ret
      have h2 := HO.out
      rw [marked_all _ _ _ HL.out] at h2
      exact ⟨rfl, h2, hg, HZ.out⟩

/-- heldIntS over what markIntS has left: it reads; it may draw. -/
theorem heldIntS_any (A : Option Addr) (n c : Nat) (k : Int) (W : World) (B : Nat) (h : RdI W B A n (marks k n)) (hn : n ≤ 4194304) (h0 : 0 ≤ k) (h1 : k ≤ 4294967296) :
    Calls Try.prog 15 #[.slice A n c, .int .i64 k] W fun e w' => e = .returned (.int .i64 (k + n)) ∧ ∃ q, w' = W.drewN q := by
  have hml := Lib.hid (fun i hi => marks_at k n i hi)
  have HL := Lib.hid (marks_len k n)
  go_enter Try.func15, Try.ntmps15
  go_wp2_with fail
  go_loopw [1, 5] (fun m i wr => ∃ j q : Nat, j ≤ n ∧ i = .int .i64 j ∧ m = .int .i64 (k + j) ∧ wr = W.drewN q) (fun _ i _ => n - (intOf i).toNat)
  case atStart => exact ⟨0, 0, Nat.zero_le _, rfl, by simp, rfl⟩
  case round =>
    obtain ⟨j, q, hj, rfl, rfl, hwq⟩ := hrel
    have h' : RdI wr B A n (marks k n) := by rw [hwq]; exact h.drewN q
    have HW := Lib.hid hwq
    clear hwq h
    by_cases hlt : j < n
    · have hk' : j < (marks k n).length := by rw [HL.out]; exact hlt
      obtain ⟨b, off, rfl, hb, hcell⟩ := h'.at_ hlt hk'
      have hm := hml.out j hlt
      rw [List.getD_eq_getElem?_getD, List.getElem?_eq_getElem hk'] at hm
      simp only [Option.getD_some] at hm
      rw [hm] at hcell
      clear h' hm
      have hlt' : (j : Int) < (n : Int) := by omega
      go_wp2_with fail
      go_roundw
      case rel => exact ⟨j + 1, q, by omega, by go_num, by go_num, HW.out⟩
      case measure => simp [intOf]; omega
    · have hlt' : ¬ (j : Int) < (n : Int) := by omega
      obtain rfl : j = n := by omega
      clear h'
      go_wp2_with fail
      go_ret
      exact ⟨rfl, q, HW.out⟩
end Go.Proofs.Ytnolnlhoedafcaa
