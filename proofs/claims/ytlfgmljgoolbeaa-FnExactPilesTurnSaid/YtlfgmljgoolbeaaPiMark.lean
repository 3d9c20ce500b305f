/- markText; markPileS writes texts and numbers into piles, heldPileS reads them again. -/
import Derived.Test.YtlfgmljgoolbeaaPiCopy
import Derived.Test.YtlfgmljgoolbeaaMark
namespace Go.Proofs.Ytlfgmljgoolbeaa
open Go.RowKit
set_option linter.unusedSimpArgs false

def digB (k : Nat) : ByteArray := ⟨#[UInt8.ofNat (48 + k % 10)]⟩
theorem digB_size (k : Nat) : (digB k).size = 1 := rfl
/-- the digits of n ahead of out -/
def mtN (n : Nat) (out : ByteArray) : ByteArray := if _h : 0 < n then mtN (n / 10) (digB n ++ out) else out
termination_by n
decreasing_by omega
theorem mtN_pos {n : Nat} (out : ByteArray) (h : 0 < n) : mtN n out = mtN (n / 10) (digB n ++ out) := by
  rw [mtN, dif_pos h]
theorem mtN_zero (out : ByteArray) : mtN 0 out = out := by
  rw [mtN, dif_neg (by omega)]
def mt (n : Nat) : ByteArray := ⟨#[109]⟩ ++ mtN n ByteArray.empty

theorem digit_str (k : Nat) : strOfNums [48 + (k : Int) % 10] = digB k := by
  unfold strOfNums digB
  have e : (48 + (k : Int) % 10).toNat = 48 + k % 10 := by omega
  simp [e]

set_option maxRecDepth 100000 in
theorem markText_any (n : Nat) (W : World) (h0 : 0 < n) (h1 : n ≤ 4294967296) :
    Calls Try.prog 51 #[.int .i64 n] W fun e w' => e = .returned (.string (mt n)) ∧ Below W.heap.size W w' := by
  have hn0 : ¬ (n : Int) ≤ 0 := by omega
  go_enter Try.func51, Try.ntmps51
  go_wp2_with fail
  go_loopw [0, 3] (fun i s wr => ∃ (k : Nat) (out : ByteArray), out.size + k ≤ n ∧ i = .int .i64 k ∧ s = .string out ∧ mtN k out = mtN n ByteArray.empty ∧ Below W.heap.size W wr) (fun i _ _ => (intOf i).toNat)
  case atStart => exact ⟨n, ByteArray.empty, by simp, rfl, rfl, rfl, Below.refl _ _⟩
  case round =>
    obtain ⟨k, out, hk, rfl, rfl, hm, hb⟩ := hrel
    have HM := Lib.hid hm
    clear hm
    by_cases hlt : 0 < k
    · have hlt' : (0 : Int) < (k : Int) := by omega
      have HP := Lib.hid (mtN_pos out hlt)
      have hd0 : (0 : Int) ≤ (k : Int) % 10 := by omega
      have hd1 : (k : Int) % 10 < 10 := by omega
      have hcv := run_convert_bytes_arg (wr.alloc (.cells #[.int .u8 (48 + (k : Int) % 10)] 5)) 22 5 Try.underlying22 Try.underlying5 wr.heap.size 0 1 1 [48 + (k : Int) % 10] rfl (fun i hi => by
        have : i = 0 := by omega
        subst this
        simp [go_sem]) 9 Try.underlying9
      rw [digit_str] at hcv
      have hds : (digB k).size ≤ 1 := by rw [digB_size]; omega
      have HDS := Lib.hid (digB_size k)
      go_wp2_with fail
      go_roundw
      case rel => exact ⟨k / 10, _, by rw [ByteArray.size_append, HDS.out]; omega, by go_num, rfl, HP.out.symm.trans HM.out, hb.alloc hb.size _⟩
      case measure => simp [intOf]; omega
    · have hlt' : ¬ (0 : Int) < (k : Int) := by omega
      obtain rfl : k = 0 := by omega
      have hz := HM.out
      rw [mtN_zero] at hz
      have HZ := Lib.hid hz
      clear hz
      go_wp2_with fail
      go_ret
      exact ⟨ret_str (by rw [mt, ← HZ.out]), hb⟩

def marksP (k n : Nat) : List Pil.Pl := (List.range n).map fun i => (mt (k + 2 * i), ((k + 2 * i + 1 : Nat) : Int))
theorem marksP_len (k n : Nat) : (marksP k n).length = n := by simp [marksP]
theorem marksP_at (k n i : Nat) (h : i < n) : (marksP k n)[i]'(by rw [marksP_len]; exact h) = (mt (k + 2 * i), ((k + 2 * i + 1 : Nat) : Int)) := by
  simp [marksP]
def markedP (ps : List Pil.Pl) (k j : Nat) : List Pil.Pl := marksP k j ++ ps.drop j
theorem markedP_zero (ps : List Pil.Pl) (k : Nat) : markedP ps k 0 = ps := by simp [markedP, marksP]
theorem markedP_all (ps : List Pil.Pl) (k n : Nat) (h : ps.length = n) : markedP ps k n = marksP k n := by simp [markedP, ← h]
theorem markedP_len (ps : List Pil.Pl) (k j : Nat) (h : j ≤ ps.length) : (markedP ps k j).length = ps.length := by simp [markedP, marksP_len]; omega
theorem markedP_set (ps : List Pil.Pl) (k j : Nat) (h : j < ps.length) : (markedP ps k j).set j (mt (k + 2 * j), ((k + 2 * j + 1 : Nat) : Int)) = markedP ps k (j + 1) := by
  unfold markedP
  rw [List.set_append_right _ _ (by rw [marksP_len]; omega), marksP_len, Nat.sub_self, ← List.getElem_cons_drop h, List.set_cons_zero]
  have e : marksP k (j + 1) = marksP k j ++ [(mt (k + 2 * j), ((k + 2 * j + 1 : Nat) : Int))] := by simp [marksP, List.range_succ]
  rw [e, List.append_assoc]
  rfl
def MarkPostP (W : World) (B : Nat) (A : Option Addr) (n c k : Nat) (e : Ending) (w' : World) : Prop :=
  e = .returned (.int .i64 ((k + 2 * n : Nat) : Int)) ∧ OwP w' B A n c (marksP k n) ∧ W.grownBy w' (Value.ownBlock (.slice A n c))
theorem grown_below {a b c : World} {r : Option Nat} (h : a.grownBy b r) (k : Below b.heap.size b c) : a.grownBy c r :=
  ⟨k.os.trans h.os, k.tape.trans h.tape, k.output.trans h.output, Nat.le_trans h.size k.size, fun i hi hne => (k.block i (Nat.lt_of_lt_of_le hi h.size)).trans (h.block i hi hne)⟩

set_option maxHeartbeats 1600000 in
theorem markPileS_any (A : Option Addr) (n c : Nat) (ps : List Pil.Pl) (k : Nat) (W : World) (B : Nat) (h : OwP W B A n c ps) (hn : n ≤ 4194304) (h0 : 0 < k) (h1 : k ≤ 4194304) :
    Calls Try.prog 27 #[.slice A n c, .int .i64 (k : Int)] W (MarkPostP W B A n c k) := by
  have HL := Lib.hid h.len
  go_enter Try.func27, Try.ntmps27
  go_wp2_with fail
  go_loopw [1, 5] (fun m i wr => ∃ j : Nat, j ≤ n ∧ i = .int .i64 j ∧ m = .int .i64 ((k + 2 * j : Nat) : Int) ∧ OwP wr B A n c (markedP ps k j) ∧ W.grownBy wr (Value.ownBlock (.slice A n c))) (fun _ i _ => n - (intOf i).toNat)
  case atStart => exact ⟨0, Nat.zero_le _, rfl, by simp, by rw [markedP_zero]; exact h, ⟨rfl, rfl, rfl, Nat.le_refl _, fun _ _ _ => rfl⟩⟩
  case round =>
    obtain ⟨j, hj, rfl, rfl, ho, hg⟩ := hrel
    have HO := Lib.hid ho
    clear ho h
    by_cases hlt : j < n
    · have hlt' : (j : Int) < (n : Int) := by omega
      obtain ⟨kk, hkk⟩ : ∃ kk, kk = k + 2 * j := ⟨_, rfl⟩
      have HT := Lib.hid (fun w => markText_any kk w (by omega) (by omega))
      have HM := Lib.hid (markedP_set ps k j (by have := HL.out; omega))
      have HML := Lib.hid (markedP_len ps k j (by have := HL.out; omega))
      have HKK := Lib.hid hkk
      have hkb : kk ≤ 100000000 := by omega
      rw [← hkk] at HM ⊢
      clear hkk
      go_wp2_with fail
      refine (HT.out _).mono ?_
      rintro e w1 ⟨rfl, hb1⟩
      have HO1 := Lib.hid (HO.out.below hb1)
      have hj2 : j < (markedP ps k j).length := by have := HML.out; have := HL.out; omega
      obtain ⟨g, hA, hBg, hgl, hcell⟩ := HO1.out.at_ (by omega)
      subst hA
      obtain ⟨c0, c1, f0, f1⟩ := hcell j hj2
      have HS := Lib.hid (HO1.out.set_ j hj2 (mt kk) ((kk + 1 : Nat) : Int))
      have HG := Lib.hid (grown_trans (grown_trans (grown_below hg hb1) (grown_set (W := w1) (g := g) (j * 2) (.string (mt kk)))) (grown_set (g := g) (j * 2 + 1) (.int .i64 ((kk + 1 : Nat) : Int))))
      clear hcell hg hb1
      generalize (markedP ps k j)[j].1 = t0 at *
      generalize (markedP ps k j)[j].2 = t1 at *
      clear hj2
      go_wp2_with fail
      go_roundw
      case rel => exact ⟨j + 1, by omega, by go_num, by rw [HKK.out]; go_num, by rw [← HM.out]; exact HS.out, HG.out⟩
      case measure => simp [intOf]; omega
    · have hlt' : ¬ (j : Int) < (n : Int) := by omega
      obtain rfl : j = n := by omega
      go_wp2_with fail
      go_ret
      have h2 := HO.out
      rw [markedP_all _ _ _ HL.out] at h2
      exact ⟨rfl, h2, hg⟩

set_option maxHeartbeats 1600000 in
theorem heldPileS_any (A : Option Addr) (n c : Nat) (k : Nat) (W : World) (h : RdP W W.heap.size A n (marksP k n)) (hn : n ≤ 4194304) (h0 : 0 < k) (h1 : k ≤ 4194304) :
    Calls Try.prog 28 #[.slice A n c, .int .i64 (k : Int)] W fun e w' => e = .returned (.int .i64 ((k + 2 * n : Nat) : Int)) ∧ Below W.heap.size W w' := by
  have hml := Lib.hid (fun i hi => marksP_at k n i hi)
  have HL := Lib.hid (marksP_len k n)
  go_enter Try.func28, Try.ntmps28
  go_wp2_with fail
  go_loopw [1, 5] (fun m i wr => ∃ j : Nat, j ≤ n ∧ i = .int .i64 j ∧ m = .int .i64 ((k + 2 * j : Nat) : Int) ∧ Below W.heap.size W wr) (fun _ i _ => n - (intOf i).toNat)
  case atStart => exact ⟨0, Nat.zero_le _, rfl, by simp, Below.refl _ _⟩
  case round =>
    obtain ⟨j, hj, rfl, rfl, hb⟩ := hrel
    have hBs := hb.size
    by_cases hlt : j < n
    · have hlt' : (j : Int) < (n : Int) := by omega
      have hj0 : (0 : Int) ≤ (j : Int) := by omega
      have hk' : j < (marksP k n).length := by rw [HL.out]; exact hlt
      obtain ⟨b, off, rfl, hbB, hcell⟩ := (h.below hb).at_ hk'
      obtain ⟨c0, c1⟩ := hcell j hk'
      have hm := hml.out j hlt
      rw [hm] at c0 c1
      simp only at c0 c1
      obtain ⟨kk, hkk⟩ : ∃ kk, kk = k + 2 * j := ⟨_, rfl⟩
      have HT := Lib.hid (fun w => markText_any kk w (by omega) (by omega))
      have HKK := Lib.hid hkk
      have hkb : kk ≤ 100000000 := by omega
      rw [← hkk] at c0 c1 ⊢
      clear h hcell hm hkk
      have c1' : wr.cell? ⟨b, off + j * 2 + 1, none⟩ = some (.int .i64 ((kk : Int) + 1)) := by rw [c1]; simp
      have q0 : ∀ x : Grown wr, x.val.cell? ⟨b, off + j * 2, none⟩ = some (.string (mt kk)) := fun x => x.cell (by omega) c0
      clear c1
      go_wp2_with fail
      refine wp_region_grow (by kernel_rfl) (by kernel_rfl) ?_
      repeat (go_big_quiet_step (exact Grown.call _ (HT.out _)))
      refine wpQuiet_nil ?_
      rintro _ ⟨x, rfl⟩
      have hx := hb.trans (x.below.mono hBs)
      have q1 : x.val.cell? ⟨b, off + j * 2 + 1, none⟩ = some (.int .i64 ((kk : Int) + 1)) := x.cell (by omega) c1'
      go_wp2_with fail
      go_roundw
      case rel => exact ⟨j + 1, by omega, by go_num, by rw [HKK.out]; go_num, hx⟩
      case measure => simp [intOf]; omega
    · have hlt' : ¬ (j : Int) < (n : Int) := by omega
      obtain rfl : j = n := by omega
      clear h
      go_wp2_with fail
      go_ret
      exact ⟨rfl, hb⟩

def mkV (n : Nat) : Int := ((1 + 2 * n : Nat) : Int)
theorem mkV_nn (n : Nat) : 0 ≤ mkV n := Int.natCast_nonneg _
def Mark1 (W : World) (B : Nat) (A : Option Addr) (n c : Nat) (e : Ending) (w' : World) : Prop :=
  e = .returned (.int .i64 (mkV n)) ∧ OwP w' B A n c (marksP 1 n) ∧ W.grownBy w' (Value.ownBlock (.slice A n c))
theorem markPileS_one (A : Option Addr) (n c : Nat) (ps : List Pil.Pl) (W : World) (B : Nat) (h : OwP W B A n c ps) (hn : n ≤ 4194304) :
    Calls Try.prog 27 #[.slice A n c, .int .i64 1] W (Mark1 W B A n c) := markPileS_any A n c ps 1 W B h hn (by omega) (by omega)
theorem heldPileS_one (A : Option Addr) (n c : Nat) (W : World) (h : RdP W W.heap.size A n (marksP 1 n)) (hn : n ≤ 4194304) :
    Calls Try.prog 28 #[.slice A n c, .int .i64 1] W fun e w' => e = .returned (.int .i64 (mkV n)) ∧ Below W.heap.size W w' := heldPileS_any A n c 1 W h hn (by omega) (by omega)

def mkW (m n : Nat) : Int := ((1 + 2 * m + 2 * n : Nat) : Int)
theorem mkW_nn (m n : Nat) : 0 ≤ mkW m n := Int.natCast_nonneg _
def Mark2 (W : World) (B : Nat) (A : Option Addr) (m n c : Nat) (e : Ending) (w' : World) : Prop :=
  e = .returned (.int .i64 (mkW m n)) ∧ OwP w' B A n c (marksP (1 + 2 * m) n) ∧ W.grownBy w' (Value.ownBlock (.slice A n c))
theorem markPileS_two (A : Option Addr) (m n c : Nat) (ps : List Pil.Pl) (W : World) (B : Nat) (h : OwP W B A n c ps) (hn : n ≤ 4194304) (hm : m ≤ 1048576) :
    Calls Try.prog 27 #[.slice A n c, .int .i64 (mkV m)] W (Mark2 W B A m n c) := markPileS_any A n c ps (1 + 2 * m) W B h hn (by omega) (by omega)
end Go.Proofs.Ytlfgmljgoolbeaa
