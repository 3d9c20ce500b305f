/- A row of numbers that the call owns, known whole; toIntS copies a slice into one, eqIntS compares two slices. -/
import Derived.Test.YtnolnlhoedafcaaInts
import Derived.Laws.MakeOwn
namespace Go.Proofs.Ytnolnlhoedafcaa
open Go.RowKit

/-- block g is just the numbers xs -/
def OwnI (W : World) (g : Nat) (xs : List Int) : Prop := W.heap[g]? = some (.cells (xs.map (Value.int .i64)).toArray 3 (0, 0))

section
variable {W W' : World} {g : Nat} {xs : List Int}
theorem OwnI.lt (h : OwnI W g xs) : g < W.heap.size := by
  rcases Nat.lt_or_ge g W.heap.size with hl | hg
  · exact hl
  · unfold OwnI at h; rw [Array.getElem?_eq_none hg] at h; cases h
theorem OwnI.cell (h : OwnI W g xs) (k : Nat) (hk : k < xs.length) : W.cell? ⟨g, k, none⟩ = some (.int .i64 xs[k]) := by
  rw [cell_of_row W g k _ 3 (0, 0) h]
  simp [hk]
theorem OwnI.frozen (h : OwnI W g xs) (k : Nat) : W.frozen? ⟨g, k, none⟩ = false := by
  unfold OwnI at h
  simp [World.frozen?, h]
theorem OwnI.set_ (h : OwnI W g xs) (k : Nat) (v : Int) : OwnI (W.setCell ⟨g, k, none⟩ (.int .i64 v)) g (xs.set k v) := by
  unfold OwnI at h ⊢
  simp [World.setCell, Array.getElem?_modify, h, List.map_set]
theorem OwnI.keep (h : OwnI W g xs) (hk : W'.heap[g]? = W.heap[g]?) : OwnI W' g xs := hk.trans h
theorem OwnI.below {B : Nat} (h : OwnI W g xs) (hb : Below B W W') (hg : g < B) : OwnI W' g xs := h.keep (hb.block g hg)
theorem OwnI.rd (h : OwnI W g xs) (B : Nat) (hB : g < B) (n : Nat) (hn : xs.length = n) : RdI W B (some ⟨g, 0, none⟩) n xs :=
  ⟨hn, fun _ => ⟨g, 0, rfl, hB, fun j hj => by
    rw [Nat.zero_add, h.cell j (by omega), List.getD_eq_getElem?_getD, List.getElem?_eq_getElem (by omega)]
    rfl⟩⟩
end

theorem made (w : World) (n : Nat) : OwnI (w.alloc (.cells (madeCells #[Value.int .i64 0] n) 3)) w.heap.size (List.replicate n 0) := by
  unfold OwnI
  rw [heap_alloc_new]
  congr 2
  apply Array.ext_getElem?
  intro i
  simp only [madeCells]
  simp
  by_cases hi : i < n <;> simp [hi, Nat.mod_one]

theorem int_info : (Try.prog.info? 3).map (fun i => (i.zero, i.size, i.bytes)) = some (some (.int .i64 0), 1, 8) := by kernel_rfl

theorem run_make_ints (n : Nat) (hn : n ≤ 4194304) (w : World) :
    (Instr.makeSlice 24 (.int .i64 (n : Int)) (.int .i64 (n : Int))).run Try.prog w = .ok (.slice (some ⟨w.heap.size, 0, none⟩) n n) (w.alloc (.cells (madeCells #[Value.int .i64 0] n) 3)) := by
  obtain ⟨i, hi, hz, hs, hb⟩ := info_parts int_info
  have h := run_make (P := Try.prog) w 24 3 i _ Try.underlying24 hi hz .i64 .i64 (n : Int) (n : Int) (by omega) (by omega) (by rw [hb]; omega) (by omega)
  rw [hs] at h
  simpa [Value.cells] using h

/-- the first k of xs, then zeros -/
def fill (xs : List Int) (k : Nat) : List Int := xs.take k ++ List.replicate (xs.length - k) 0
theorem fill_zero (xs : List Int) : fill xs 0 = List.replicate xs.length 0 := by simp [fill]
theorem fill_len (xs : List Int) (k : Nat) (h : k ≤ xs.length) : (fill xs k).length = xs.length := by simp [fill]; omega
theorem fill_all (xs : List Int) : fill xs xs.length = xs := by simp [fill]
theorem fill_set (xs : List Int) (k : Nat) (h : k < xs.length) : (fill xs k).set k xs[k] = fill xs (k + 1) := by
  apply List.ext_getElem?
  intro i
  unfold fill
  rw [List.getElem?_set]
  by_cases hi : k = i
  · subst hi
    rw [if_pos rfl, if_pos (by simp; omega), List.getElem?_append_left (by simp; omega), List.getElem?_take, if_pos (by omega), List.getElem?_eq_getElem h]
  · rw [if_neg hi]
    by_cases h2 : i < k
    · rw [List.getElem?_append_left (by simp; omega), List.getElem?_append_left (by simp; omega), List.getElem?_take, List.getElem?_take, if_pos h2, if_pos (by omega)]
    · rw [List.getElem?_append_right (by simp; omega), List.getElem?_append_right (by simp; omega), List.getElem?_replicate, List.getElem?_replicate]
      simp
      by_cases h3 : i < xs.length
      · rw [if_pos (by omega), if_pos (by omega)]
      · rw [if_neg (by omega), if_neg (by omega)]

theorem take_eq_succ {xs ys : List Int} {k : Nat} (h1 : k < xs.length) (h2 : k < ys.length) (h : xs.take k = ys.take k) (hv : xs[k] = ys[k]) : xs.take (k + 1) = ys.take (k + 1) := by
  rw [List.take_succ_eq_append_getElem h1, List.take_succ_eq_append_getElem h2, h, hv]
theorem ne_of_at {xs ys : List Int} {k : Nat} (h1 : k < xs.length) (h2 : k < ys.length) (hv : ¬ xs[k] = ys[k]) : ¬ xs = ys := by
  rintro rfl
  exact hv rfl

theorem toIntS_any (A : Option Addr) (n c : Nat) (xs : List Int) (W : World) (h : RdI W W.heap.size A n xs) (hn : n ≤ 4194304) :
    Calls Try.prog 22 #[.slice A n c] W fun e w' => e = .returned (.slice (some ⟨W.heap.size, 0, none⟩) n n) ∧ OwnI w' W.heap.size xs ∧ Below W.heap.size W w' := by
  have hmk := run_make_ints n hn
  have HL := Lib.hid h.1
  have hM := made W n
  have HM := Lib.hid hM
  clear hM
  go_enter Try.func22, Try.ntmps22
  go_wp2_with fail
  clear hmk
  go_loopw [4] (fun i wr => ∃ k : Nat, k ≤ n ∧ i = .int .i64 k ∧ OwnI wr W.heap.size (fill xs k) ∧ Below W.heap.size W wr) (fun i _ => n - (intOf i).toNat)
  case atStart => exact ⟨0, Nat.zero_le _, rfl, by rw [fill_zero, HL.out]; exact HM.out, (Below.refl _ _).alloc (Nat.le_refl _) _⟩
  case round =>
    obtain ⟨k, hk, rfl, ho, hb⟩ := hrel
    have HO := Lib.hid ho
    clear ho
    by_cases hlt : k < n
    · have hk' : k < xs.length := by have := HL.out; omega
      obtain ⟨b, off, rfl, hbB, hcell⟩ := (h.below hb).at_ hlt hk'
      have hlt' : (k : Int) < (n : Int) := by omega
      have hf := HO.out.frozen k
      have hcl := HO.out.cell k (by rw [fill_len _ _ (by omega)]; exact hk')
      have HS := Lib.hid (HO.out.set_ k xs[k])
      have HF := Lib.hid (fill_set xs k hk')
      obtain ⟨old, hold⟩ : ∃ v, (fill xs k)[k]'(by rw [fill_len _ _ (by omega)]; exact hk') = v := ⟨_, rfl⟩
      rw [hold] at hcl
      clear hold h
      generalize xs[k] = y at hcell HS HF
      go_wp2_with fail
      go_roundw
      case rel => exact ⟨k + 1, by omega, by go_num, by rw [← HF.out]; exact HS.out, hb.setCell (Nat.le_refl _) _⟩
      case measure => simp [intOf]; omega
    · have hlt' : ¬ (k : Int) < (n : Int) := by omega
      clear h
      go_wp2_with fail
      go_ret
      have h1 := HO.out
      have hkn : k = xs.length := by have := HL.out; omega
      rw [hkn, fill_all] at h1
      exact ⟨rfl, h1, hb⟩

/-- eqIntS: it reads; it may draw. -/
theorem eqIntS_any (A A' : Option Addr) (n n' c c' : Nat) (xs ys : List Int) (W : World) (B B' : Nat) (h : RdI W B A n xs) (h' : RdI W B' A' n' ys) (hn : n ≤ 4194304) (_hn' : n' ≤ 4194304) :
    Calls Try.prog 11 #[.slice A n c, .slice A' n' c'] W fun e w' => e = .returned (.bool (decide (xs = ys))) ∧ ∃ q, w' = W.drewN q := by
  have HL := Lib.hid h.1
  have HL' := Lib.hid h'.1
  by_cases hnn : n = n'
  · subst hnn
    have hne : ((n : Int) != (n : Int)) = false := by simp
    go_enter Try.func11, Try.ntmps11
    go_wp2_with fail
    go_loopw [5] (fun i wr => ∃ k q : Nat, k ≤ n ∧ i = .int .i64 k ∧ xs.take k = ys.take k ∧ wr = W.drewN q) (fun i _ => n - (intOf i).toNat)
    case atStart => exact ⟨0, 0, Nat.zero_le _, rfl, by simp, rfl⟩
    case round =>
      obtain ⟨k, q, hk, rfl, hf, hwq⟩ := hrel
      have HF := Lib.hid hf
      clear hf
      have r1 : RdI wr B A n xs := by rw [hwq]; exact h.drewN q
      have r2 : RdI wr B' A' n ys := by rw [hwq]; exact h'.drewN q
      have HW := Lib.hid hwq
      clear hwq
      by_cases hlt : k < n
      · have hk1 : k < xs.length := by have := HL.out; omega
        have hk2 : k < ys.length := by have := HL'.out; omega
        obtain ⟨b, off, rfl, hbB, hcell⟩ := r1.at_ hlt hk1
        obtain ⟨b', off', rfl, hbB', hcell'⟩ := r2.at_ hlt hk2
        have hlt' : (k : Int) < (n : Int) := by omega
        have hk0 : (0 : Int) ≤ (k : Int) := by omega
        clear h h' r1 r2
        by_cases hv : xs[k] = ys[k]
        · have HS := Lib.hid (take_eq_succ hk1 hk2 HF.out hv)
          rw [← hv] at hcell'
          clear hv
          generalize xs[k] = y at hcell hcell'
          go_wp2_with fail
          go_quiet (fail)
          go_wp2_with fail
          go_roundw
          case rel => exact ⟨k + 1, q + nq, by omega, by go_num, HS.out, by rw [HW.out]; exact World.drewN_drewN _ _ _⟩
          case measure => simp [intOf]; omega
        · have HN := Lib.hid (ne_of_at hk1 hk2 hv)
          have hv' : (xs[k] != ys[k]) = true := by simpa using hv
          generalize xs[k] = y at hcell hv'
          generalize ys[k] = y' at hcell' hv'
          clear hv
          go_wp2_with fail
          go_quiet (fail)
          go_wp2_with fail
          go_ret
          exact ⟨ret_bool (by simp [HN.out]), by rw [HW.out]; exact ⟨q + nq, World.drewN_drewN _ _ _⟩⟩
      · have hlt' : ¬ (k : Int) < (n : Int) := by omega
        clear h h' r1 r2
        have HE : Hid (xs = ys) := by
          have h1 := HF.out
          rw [List.take_of_length_le (by have := HL.out; omega), List.take_of_length_le (by have := HL'.out; omega)] at h1
          exact h1
        go_wp2_with fail
        go_ret
        exact ⟨ret_bool (by simp [HE.out]), q, HW.out⟩
  · have hne : ((n : Int) != (n' : Int)) = true := by simp; omega
    have HN : Hid (¬ xs = ys) := fun e => hnn (by have h1 := HL.out; have h2 := HL'.out; rw [e] at h1; omega)
    clear h h'
    go_enter Try.func11, Try.ntmps11
    go_wp2_with fail
    go_ret
    exact ⟨ret_bool (by simp [HN.out]), 0, rfl⟩

/-- sameInts: it reads; it may draw. -/
theorem sameInts_any (A A' : Option Addr) (n n' c c' : Nat) (xs ys : List Int) (W : World) (B B' : Nat) (h : RdI W B A n xs) (h' : RdI W B' A' n' ys) (hn : n ≤ 4194304) (_hn' : n' ≤ 4194304) :
    Calls Try.prog 17 #[.slice A n c, .slice A' n' c'] W fun e w' => e = .returned (.bool (decide (xs = ys))) ∧ ∃ q, w' = W.drewN q := by
  have HL := Lib.hid h.1
  have HL' := Lib.hid h'.1
  by_cases hnn : n = n'
  · subst hnn
    have hne : ((n : Int) != (n : Int)) = false := by simp
    go_enter Try.func17, Try.ntmps17
    go_wp2_with fail
    go_loopw [5] (fun i wr => ∃ k q : Nat, k ≤ n ∧ i = .int .i64 k ∧ xs.take k = ys.take k ∧ wr = W.drewN q) (fun i _ => n - (intOf i).toNat)
    case atStart => exact ⟨0, 0, Nat.zero_le _, rfl, by simp, rfl⟩
    case round =>
      obtain ⟨k, q, hk, rfl, hf, hwq⟩ := hrel
      have HF := Lib.hid hf
      clear hf
      have r1 : RdI wr B A n xs := by rw [hwq]; exact h.drewN q
      have r2 : RdI wr B' A' n ys := by rw [hwq]; exact h'.drewN q
      have HW := Lib.hid hwq
      clear hwq
      by_cases hlt : k < n
      · have hk1 : k < xs.length := by have := HL.out; omega
        have hk2 : k < ys.length := by have := HL'.out; omega
        obtain ⟨b, off, rfl, hbB, hcell⟩ := r1.at_ hlt hk1
        obtain ⟨b', off', rfl, hbB', hcell'⟩ := r2.at_ hlt hk2
        have hlt' : (k : Int) < (n : Int) := by omega
        have hk0 : (0 : Int) ≤ (k : Int) := by omega
        clear h h' r1 r2
        by_cases hv : xs[k] = ys[k]
        · have HS := Lib.hid (take_eq_succ hk1 hk2 HF.out hv)
          rw [← hv] at hcell'
          clear hv
          generalize xs[k] = y at hcell hcell'
          go_wp2_with fail
          go_quiet (fail)
          go_wp2_with fail
          go_roundw
          case rel => exact ⟨k + 1, q + nq, by omega, by go_num, HS.out, by rw [HW.out]; exact World.drewN_drewN _ _ _⟩
          case measure => simp [intOf]; omega
        · have HN := Lib.hid (ne_of_at hk1 hk2 hv)
          have hv' : (xs[k] != ys[k]) = true := by simpa using hv
          generalize xs[k] = y at hcell hv'
          generalize ys[k] = y' at hcell' hv'
          clear hv
          go_wp2_with fail
          go_quiet (fail)
          go_wp2_with fail
          go_ret
          exact ⟨ret_bool (by simp [HN.out]), by rw [HW.out]; exact ⟨q + nq, World.drewN_drewN _ _ _⟩⟩
      · have hlt' : ¬ (k : Int) < (n : Int) := by omega
        clear h h' r1 r2
        have HE : Hid (xs = ys) := by
          have h1 := HF.out
          rw [List.take_of_length_le (by have := HL.out; omega), List.take_of_length_le (by have := HL'.out; omega)] at h1
          exact h1
        go_wp2_with fail
        go_ret
        exact ⟨ret_bool (by simp [HE.out]), q, HW.out⟩
  · have hne : ((n : Int) != (n' : Int)) = true := by simp; omega
    have HN : Hid (¬ xs = ys) := fun e => hnn (by have h1 := HL.out; have h2 := HL'.out; rw [e] at h1; omega)
    clear h h'
    go_enter Try.func17, Try.ntmps17
    go_wp2_with fail
    go_ret
    exact ⟨ret_bool (by simp [HN.out]), 0, rfl⟩
end Go.Proofs.Ytnolnlhoedafcaa
