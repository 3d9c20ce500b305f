/- BallotText, the program's and the reference's. -/
import Derived.Test.YtlfgmljgoolbeaaBaParse
import Derived.Laws.BytesArg
namespace Go.Proofs.Ytlfgmljgoolbeaa
open Go.RowKit

/-- block g is just the cells vs, of type T -/
def OwnC (W : World) (g : Nat) (T : TypeId) (vs : List Value) : Prop := W.heap[g]? = some (.cells vs.toArray T (0, 0))
section
variable {W W' : World} {g : Nat} {T : TypeId} {vs : List Value}
theorem OwnC.lt (h : OwnC W g T vs) : g < W.heap.size := (Array.getElem?_eq_some_iff.1 h).1
theorem OwnC.cell (h : OwnC W g T vs) (k : Nat) : W.cell? ⟨g, k, none⟩ = vs[k]? := by
  rw [cell_of_row W g k _ T (0, 0) h]
  simp
theorem OwnC.frozen (h : OwnC W g T vs) (k : Nat) : W.frozen? ⟨g, k, none⟩ = false := by
  unfold OwnC at h
  simp [World.frozen?, h]
theorem OwnC.set_ (h : OwnC W g T vs) (k : Nat) (v : Value) : OwnC (W.setCell ⟨g, k, none⟩ v) g T (vs.set k v) := by
  unfold OwnC at h ⊢
  simp [World.setCell, Array.getElem?_modify, h]
end

def u8s (b : List Int) : List Value := b.map fun c => Value.int .u8 (97 + c)
def fillU (b : List Int) (k : Nat) : List Value := u8s (b.take k) ++ List.replicate (b.length - k) (.int .u8 0)
theorem fillU_zero (b : List Int) : fillU b 0 = List.replicate b.length (.int .u8 0) := by simp [fillU, u8s]
theorem fillU_all (b : List Int) (k : Nat) (h : k = b.length) : fillU b k = u8s b := by subst h; simp [fillU, u8s]
theorem fillU_set (b : List Int) (k : Nat) (h : k < b.length) : (fillU b k).set k (.int .u8 (97 + b[k])) = fillU b (k + 1) := by
  unfold fillU u8s
  have hl : (List.map (fun c => Value.int .u8 (97 + c)) (b.take k)).length = k := by simp; omega
  rw [List.set_append_right _ _ (by omega), hl, Nat.sub_self]
  have e : b.length - k = (b.length - (k + 1)) + 1 := by omega
  rw [e, List.replicate_succ, List.set_cons_zero, Bal.take_succ_get b k h, List.map_append, List.append_assoc]
  rfl
theorem fillU_at (b : List Int) (k : Nat) (h : k < b.length) : (fillU b k)[k]? = some (.int .u8 0) := by
  unfold fillU u8s
  have hl : (List.map (fun c => Value.int .u8 (97 + c)) (b.take k)).length = k := by simp; omega
  rw [List.getElem?_append_right (by omega), hl, Nat.sub_self, List.getElem?_replicate, if_pos (by omega)]

theorem u8_info : (Try.prog.info? 5).map (fun i => (i.zero, i.size, i.bytes)) = some (some (.int .u8 0), 1, 1) := by kernel_rfl
theorem run_make_u8s (n : Nat) (hn : n ≤ 4194304) (w : World) :
    (Instr.makeSlice 22 (.int .i64 (n : Int)) (.int .i64 (n : Int))).run Try.prog w = .ok (.slice (some ⟨w.heap.size, 0, none⟩) n n) (w.alloc (.cells (madeCells #[Value.int .u8 0] n) 5)) := by
  obtain ⟨i, hi, hz, hs, hb⟩ := info_parts u8_info
  have h := run_make (P := Try.prog) w 22 5 i _ Try.underlying22 hi hz .i64 .i64 (n : Int) (n : Int) (by omega) (by omega) (by rw [hb]; omega) (by omega)
  rw [hs] at h
  simpa [Value.cells] using h
theorem madeU (w : World) (n : Nat) : OwnC (w.alloc (.cells (madeCells #[Value.int .u8 0] n) 5)) w.heap.size 5 (List.replicate n (.int .u8 0)) := by
  unfold OwnC
  rw [heap_alloc_new]
  congr 2
  apply Array.ext_getElem?
  intro i
  simp only [madeCells]
  simp
  by_cases hi : i < n <;> simp [hi, Nat.mod_one]

theorem str_of_letters (b : List Int) : strOfNums (b.map fun c => 97 + c) = ⟨(Bal.letters b).toArray⟩ := by
  unfold strOfNums Bal.letters
  rw [List.map_map]
  rfl
theorem ret_str {a b : ByteArray} (h : a = b) : Ending.returned (.string a) = .returned (.string b) := by rw [h]

set_option maxHeartbeats 1600000 in
theorem iBallotText_any (A : Option Addr) (n c : Nat) (xs : List Int) (W : World) (h : RdI W W.heap.size A n xs) (hn : n ≤ c) (hc : n ≤ 4194304) (hcm : c ≤ maxLen) :
    Calls Try.prog 49 #[.slice A n c] W fun e w' => e = .returned (.string ⟨(Bal.text xs).toArray⟩) ∧ Below W.heap.size W w' := by
  have HL := Lib.hid h.len
  have hv := iBallotValid_any A n c xs 5 W _ h hn hc hcm
  cases hok : Bal.bv xs 5 with
  | false =>
    rw [hok] at hv
    have HV := Lib.hid hv
    have HT := Lib.hid (Bal.text_f hok)
    clear hv hok h
    go_enter Try.func49, Try.ntmps49
    go_wp2_with fail
    refine HV.out.mono ?_
    rintro e w1 ⟨rfl, rfl⟩
    go_wp2_with fail
    go_ret
    exact ⟨ret_str (by rw [HT.out]), Below.refl _ _⟩
  | true =>
    rw [hok] at hv
    have HV := Lib.hid hv
    have HT := Lib.hid (Bal.text_t hok)
    have HB := Lib.hid (Bal.bv_iff.1 hok).2.1
    have HM := Lib.hid (madeU W n)
    have hmk := run_make_u8s n hc
    clear hv hok
    go_enter Try.func49, Try.ntmps49
    go_wp2_with fail
    refine HV.out.mono ?_
    rintro e w1 ⟨rfl, rfl⟩
    go_wp2_with fail
    clear hmk
    go_loopw [14] (fun i wr => ∃ k : Nat, k ≤ n ∧ i = .int .i64 k ∧ OwnC wr W.heap.size 5 (fillU xs k) ∧ Below W.heap.size W wr) (fun i _ => n - (intOf i).toNat)
    case atStart => exact ⟨0, Nat.zero_le _, rfl, by rw [fillU_zero, HL.out]; exact HM.out, (Below.refl _ _).alloc (Nat.le_refl _) _⟩
    case round =>
      obtain ⟨k, hk, rfl, ho, hb⟩ := hrel
      have HO := Lib.hid ho
      clear ho
      by_cases hlt : k < n
      · have hk' : k < xs.length := by have := HL.out; omega
        obtain ⟨b, off, rfl, hbB, hcell⟩ := (h.below hb).at_ hlt hk'
        have hlt' : (k : Int) < (n : Int) := by omega
        obtain ⟨y0, y1⟩ := HB.out xs[k] (List.getElem_mem hk')
        have hf := HO.out.frozen k
        have hcl := HO.out.cell k
        rw [fillU_at xs k hk'] at hcl
        have HS := Lib.hid (HO.out.set_ k (.int .u8 (97 + xs[k])))
        have HF := Lib.hid (fillU_set xs k hk')
        clear h
        generalize xs[k] = y at hcell HS HF y0 y1
        go_wp2_with fail
        go_roundw
        case rel => exact ⟨k + 1, by omega, by go_num, by rw [← HF.out]; exact HS.out, hb.setCell (Nat.le_refl _) _⟩
        case measure => simp [intOf]; omega
      · have hlt' : ¬ (k : Int) < (n : Int) := by omega
        have hkn : k = xs.length := by have := HL.out; omega
        have h1 := HO.out
        rw [fillU_all xs k hkn] at h1
        have hcv := run_convert_bytes_arg wr 22 5 Try.underlying22 Try.underlying5 W.heap.size 0 n n (xs.map fun c => 97 + c) (by simpa using HL.out) (fun i hi => by
          have hi' : i < xs.length := by have := HL.out; omega
          rw [Nat.zero_add, h1.cell i, u8s, List.getElem?_map, List.getD_eq_getElem?_getD, List.getElem?_map, List.getElem?_eq_getElem hi']
          rfl) 9 Try.underlying9
        rw [str_of_letters] at hcv
        have hz := h1.lt
        clear h h1 hkn
        go_wp2_with fail
        go_ret
        exact ⟨ret_str (by rw [HT.out]), hb⟩

theorem abc_at (y : Int) (h0 : 0 ≤ y) (h1 : y < 5) : (⟨#[97, 98, 99, 100, 101]⟩ : ByteArray).extract y.toNat (y + 1).toNat = ⟨#[Bal.letter y]⟩ := by
  rcases (show y = 0 ∨ y = 1 ∨ y = 2 ∨ y = 3 ∨ y = 4 by omega) with rfl | rfl | rfl | rfl | rfl <;> decide +kernel
theorem letters_snoc (xs : List Int) (k : Nat) (h : k < xs.length) : (⟨(Bal.letters (xs.take k)).toArray⟩ : ByteArray) ++ ⟨#[Bal.letter xs[k]]⟩ = ⟨(Bal.letters (xs.take (k + 1))).toArray⟩ := by
  have e := ByteArray.mk_append_mk (Bal.letters (xs.take k)) [Bal.letter xs[k]]
  rw [Bal.take_succ_get xs k h]
  unfold Bal.letters at e ⊢
  rw [List.map_append]
  exact e

set_option maxHeartbeats 1600000 in
theorem sBallotText_any (A : Option Addr) (n c : Nat) (xs : List Int) (W : World) (h : RdI W W.heap.size A n xs) (hn : n ≤ c) (hc : n ≤ 4194304) (hcm : c ≤ maxLen) :
    Calls Try.prog 46 #[.slice A n c] W fun e w' => e = .returned (.string ⟨(Bal.text xs).toArray⟩) ∧ ∃ q, w' = W.drewN q := by
  have HL := Lib.hid h.len
  have hv := fun q => sBallotValid_any A n c xs 5 (W.drewN q) _ (h.drewN q) hn hc hcm
  cases hok : Bal.bv xs 5 with
  | false =>
    rw [hok] at hv
    have HV := Lib.hid hv
    have HT := Lib.hid (Bal.text_f hok)
    clear hv hok h
    go_enter Try.func46, Try.ntmps46
    go_wp2_with fail
    go_loopw [3, 4] (fun s i wr => i = .int .i64 0 ∧ s = .string ⟨#[]⟩ ∧ wr = W.drewN 0) (fun _ _ _ => 0)
    case atStart => exact ⟨rfl, rfl, rfl⟩
    case round =>
      obtain ⟨rfl, rfl, rfl⟩ := hrel
      by_cases hlt : (0 : Int) < (n : Int)
      · go_wp2_with fail
        refine (HV.out 0).mono ?_
        rintro e w1 ⟨rfl, q, rfl⟩
        go_wp2_with fail
        go_ret
        exact ⟨ret_str (by rw [HT.out]), q, rfl⟩
      · go_wp2_with fail
        go_ret
        exact ⟨ret_str (by rw [HT.out]), 0, rfl⟩
  | true =>
    rw [hok] at hv
    have HV := Lib.hid hv
    have HT := Lib.hid (Bal.text_t hok)
    have HB := Lib.hid (Bal.bv_iff.1 hok).2.1
    have hlen := Bal.bv_len (Bal.bv_iff.1 hok)
    have hn5 : n ≤ 5 := by have := HL.out; omega
    clear hv hok hlen
    go_enter Try.func46, Try.ntmps46
    go_wp2_with fail
    go_loopw [3, 4] (fun s i wr => ∃ (k q : Nat) (S : ByteArray), k ≤ n ∧ i = .int .i64 k ∧ s = .string S ∧ S.size ≤ k ∧ S = ⟨(Bal.letters (xs.take k)).toArray⟩ ∧ wr = W.drewN q) (fun _ i _ => n - (intOf i).toNat)
    case atStart => exact ⟨0, 0, _, Nat.zero_le _, rfl, rfl, by decide, by simp [Bal.letters], rfl⟩
    case round =>
      obtain ⟨k, q, S, hk, rfl, rfl, hsz, hS, hwq⟩ := hrel
      have HS := Lib.hid hS
      clear hS
      have HW := Lib.hid hwq
      by_cases hlt : k < n
      · have hk' : k < xs.length := by have := HL.out; omega
        have hlt' : (k : Int) < (n : Int) := by omega
        have hk0 : (0 : Int) ≤ (k : Int) := by omega
        have hc' := HV.out q
        rw [← hwq] at hc'
        have HC := Lib.hid hc'
        clear hc' hwq
        go_wp2_with fail
        refine HC.out.mono ?_
        rintro e w1 ⟨rfl, q1, rfl⟩
        have hr1 : RdI wr W.heap.size A n xs := by rw [HW.out]; exact h
        obtain ⟨b, off, rfl, hbB, hcell⟩ := hr1.at_ hlt hk'
        clear h hr1
        obtain ⟨y0, y1⟩ := HB.out xs[k] (List.getElem_mem hk')
        have HA := Lib.hid (abc_at xs[k] y0 y1)
        have HE := Lib.hid (letters_snoc xs k hk')
        generalize xs[k] = y at hcell y0 y1 HA HE
        obtain ⟨Y, hY, hYs⟩ : ∃ Y : ByteArray, (⟨#[97, 98, 99, 100, 101]⟩ : ByteArray).extract y.toNat (y + 1).toNat = Y ∧ Y.size ≤ 1 := ⟨_, rfl, by rw [HA.out]; exact Nat.le_refl 1⟩
        have hsl : ∀ w, (Instr.slice 9 (.string ⟨#[97, 98, 99, 100, 101]⟩) (some (.int .i64 y)) (some (.int .i64 (y + 1))) none).run Try.prog w = .ok (.string Y) w := by
          intro w
          rw [run_slice_string w 9 _ .i64 .i64 y (y + 1) Try.underlying9 y0 (by omega) (by show y + 1 ≤ ((5 : Nat) : Int); omega), hY]
        have HY := Lib.hid hY
        clear hY
        have wy : IntKind.i64.wrap (y + 1) = y + 1 := IntWalk.i64_in _ (by omega)
        go_wp2_with fail
        go_quiet (fail)
        clear wy hsl
        go_wp2_with fail
        go_roundw
        case rel => exact ⟨k + 1, q + (q1 + nq), _, by omega, by go_num, rfl, by rw [ByteArray.size_append]; omega, by rw [← HE.out, ← HA.out, HY.out, HS.out], by rw [HW.out]; simp only [World.drewN_drewN]⟩
        case measure => simp [intOf]; omega
      · have hlt' : ¬ (k : Int) < (n : Int) := by omega
        have hkn : k = xs.length := by have := HL.out; omega
        have HR : Hid (S = ⟨(Bal.text xs).toArray⟩) := by
          have h1 := HS.out
          rw [hkn, List.take_length] at h1
          rw [HT.out]; exact h1
        clear hkn hwq
        go_wp2_with fail
        go_ret
        exact ⟨ret_str HR.out, q, HW.out⟩
end Go.Proofs.Ytlfgmljgoolbeaa
