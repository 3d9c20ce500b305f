/- toPileS copies piles; eqPileS, samePiles compare them; szPileS counts what they weigh. -/
import Derived.Test.YtlfgmljgoolbeaaPiOwn
namespace Go.Proofs.Ytlfgmljgoolbeaa
open Go.RowKit
set_option linter.unusedSimpArgs false

theorem toPile_any (s : ByteArray) (m : Int) (W : World) :
    Calls Try.prog 47 #[.agg #[.string s, .int .i64 m]] W fun e w' => e = .returned (.agg #[.string s, .int .i64 m]) ∧ Below W.heap.size W w' := by
  go_enter Try.func47, Try.ntmps47
  go_wp2_with fail
  exact bodyPost_ret (v := .agg #[.string s, .int .i64 m]) (by simp [results, Try.results47, go_sem]) rfl ⟨rfl, by go_grown⟩

/-- the first k of ps, then empty piles -/
def fillP (ps : List Pil.Pl) (k : Nat) : List Pil.Pl := ps.take k ++ List.replicate (ps.length - k) zpile
theorem fillP_zero (ps : List Pil.Pl) : fillP ps 0 = List.replicate ps.length zpile := by simp [fillP]
theorem fillP_len (ps : List Pil.Pl) (k : Nat) (h : k ≤ ps.length) : (fillP ps k).length = ps.length := by simp [fillP]; omega
theorem fillP_all (ps : List Pil.Pl) : fillP ps ps.length = ps := by simp [fillP]
theorem fillP_set (ps : List Pil.Pl) (k : Nat) (h : k < ps.length) : (fillP ps k).set k ps[k] = fillP ps (k + 1) := by
  apply List.ext_getElem?
  intro i
  unfold fillP
  rw [List.getElem?_set]
  by_cases hi : k = i
  · subst hi
    rw [if_pos rfl, if_pos (by simp; omega), List.getElem?_append_left (by simp; omega), List.getElem?_take, if_pos (by omega), List.getElem?_eq_getElem h]
  · rw [if_neg hi]
    by_cases h2 : i < k
    · rw [List.getElem?_append_left (by simp; omega), List.getElem?_append_left (by simp; omega), List.getElem?_take, List.getElem?_take, if_pos h2, if_pos (by omega)]
    · rw [List.getElem?_append_right (by simp; omega), List.getElem?_append_right (by simp; omega), List.getElem?_replicate, List.getElem?_replicate]
      simp
      by_cases h3 : i < ps.length
      · rw [if_pos (by omega), if_pos (by omega)]
      · rw [if_neg (by omega), if_neg (by omega)]

set_option maxHeartbeats 1600000 in
theorem toPileS_any (A : Option Addr) (n c : Nat) (ps : List Pil.Pl) (W : World) (h : RdP W W.heap.size A n ps) (hn : n ≤ 4194304) :
    Calls Try.prog 24 #[.slice A n c] W fun e w' => e = .returned (.slice (some ⟨W.heap.size, 0, none⟩) n n) ∧ OwP w' W.heap.size (some ⟨W.heap.size, 0, none⟩) n n ps ∧ Below W.heap.size W w' := by
  have hmk := run_make_piles n hn
  have HL := Lib.hid h.1
  have HM := Lib.hid (madeP W n hn)
  go_enter Try.func24, Try.ntmps24
  go_wp2_with fail
  clear hmk
  go_loopw [4] (fun i wr => ∃ k : Nat, k ≤ n ∧ i = .int .i64 k ∧ OwP wr W.heap.size (some ⟨W.heap.size, 0, none⟩) n n (fillP ps k) ∧ Below W.heap.size W wr) (fun i _ => n - (intOf i).toNat)
  case atStart => exact ⟨0, Nat.zero_le _, rfl, by rw [fillP_zero, HL.out]; exact HM.out, (Below.refl _ _).alloc (Nat.le_refl _) _⟩
  case round =>
    obtain ⟨k, hk, rfl, ho, hb⟩ := hrel
    have HO := Lib.hid ho
    clear ho
    by_cases hlt : k < n
    · have hk' : k < ps.length := by have := HL.out; omega
      obtain ⟨b, off, rfl, hbB, hcell⟩ := (h.below hb).at_ hk'
      obtain ⟨c0, c1⟩ := hcell k hk'
      have hlt' : (k : Int) < (n : Int) := by omega
      have hk0 : (0 : Int) ≤ (k : Int) := by omega
      have HF := Lib.hid (fillP_set ps k hk')
      have HFL := Lib.hid (fillP_len ps k (by omega))
      clear h hcell
      obtain ⟨s, m, hsm⟩ : ∃ s m, ps[k] = (s, m) := ⟨_, _, rfl⟩
      rw [hsm] at c0 c1 HF
      clear hsm
      simp only at c0 c1
      go_wp2_with fail
      refine (toPile_any s m wr).mono ?_
      rintro e w1 ⟨rfl, hb1⟩
      have hk2 : k < (fillP ps k).length := by have := HFL.out; omega
      have HO1 := Lib.hid (HO.out.below hb1)
      have hb2 := hb.trans (hb1.mono hb.size)
      obtain ⟨g, hg, hBg, hgl, hcl⟩ := HO1.out.at_ (by omega)
      obtain rfl : g = W.heap.size := by injection hg with e; injection e with e; exact e.symm
      obtain ⟨d0, d1, f0, f1⟩ := hcl k hk2
      have HS := Lib.hid (HO1.out.set_ k hk2 s m)
      clear hcl hg hb1 hb
      generalize (fillP ps k)[k].1 = t0 at *
      generalize (fillP ps k)[k].2 = t1 at *
      clear hk2
      go_wp2_with fail
      go_roundw
      case rel => exact ⟨k + 1, by omega, by go_num, by rw [← HF.out]; exact HS.out, (hb2.setCell (Nat.le_refl _) _).setCell (Nat.le_refl _) _⟩
      case measure => simp [intOf]; omega
    · have hlt' : ¬ (k : Int) < (n : Int) := by omega
      clear h
      go_wp2_with fail
      go_ret
      have h1 := HO.out
      have hkn : k = ps.length := by have := HL.out; omega
      rw [hkn, fillP_all] at h1
      exact ⟨rfl, h1, hb⟩

theorem eqPile_same (s : ByteArray) (m : Int) (W : World) :
    Calls Try.prog 50 #[.agg #[.string s, .int .i64 m], .agg #[.string s, .int .i64 m]] W fun e w' => e = .returned (.bool true) ∧ Below W.heap.size W w' := by
  go_enter Try.func50, Try.ntmps50
  go_wp2_with fail
  go_ret
  exact ⟨rfl, by go_grown⟩

set_option maxHeartbeats 1600000 in
/-- eqPileS at equal lists -/
theorem eqPileS_same (A A' : Option Addr) (n n' c c' : Nat) (ps : List Pil.Pl) (W : World) (h : RdP W W.heap.size A n ps) (h' : RdP W W.heap.size A' n' ps) (hn : n ≤ 4194304) :
    Calls Try.prog 26 #[.slice A n c, .slice A' n' c'] W fun e w' => e = .returned (.bool true) ∧ Below W.heap.size W w' := by
  obtain rfl : n = n' := by have h1 := h.len; have h2 := h'.len; omega
  have HL := Lib.hid h.1
  have hne : ((n : Int) != (n : Int)) = false := by simp
  have HE := Lib.hid (fun s m w => eqPile_same s m w)
  go_enter Try.func26, Try.ntmps26
  go_wp2_with fail
  go_loopw [5] (fun i wr => ∃ k : Nat, k ≤ n ∧ i = .int .i64 k ∧ Below W.heap.size W wr) (fun i _ => n - (intOf i).toNat)
  case atStart => exact ⟨0, Nat.zero_le _, rfl, Below.refl _ _⟩
  case round =>
    obtain ⟨k, hk, rfl, hb⟩ := hrel
    have hBs := hb.size
    by_cases hlt : k < n
    · have hk' : k < ps.length := by have := HL.out; omega
      obtain ⟨b, off, rfl, hbB, hcell⟩ := (h.below hb).at_ hk'
      obtain ⟨b', off', rfl, hbB', hcell'⟩ := (h'.below hb).at_ hk'
      obtain ⟨c0, c1⟩ := hcell k hk'
      obtain ⟨d0, d1⟩ := hcell' k hk'
      have hlt' : (k : Int) < (n : Int) := by omega
      have hk0 : (0 : Int) ≤ (k : Int) := by omega
      clear h h' hcell hcell'
      generalize ps[k].1 = s at *
      generalize ps[k].2 = m at *
      have q0 : ∀ x : Grown wr, x.val.cell? ⟨b, off + k * 2, none⟩ = some (.string s) := fun x => x.cell (by omega) c0
      have q1 : ∀ x : Grown wr, x.val.cell? ⟨b, off + k * 2 + 1, none⟩ = some (.int .i64 m) := fun x => x.cell (by omega) c1
      have q2 : ∀ x : Grown wr, x.val.cell? ⟨b', off' + k * 2, none⟩ = some (.string s) := fun x => x.cell (by omega) d0
      have q3 : ∀ x : Grown wr, x.val.cell? ⟨b', off' + k * 2 + 1, none⟩ = some (.int .i64 m) := fun x => x.cell (by omega) d1
      go_wp2_with fail
      refine wp_region_grow (by kernel_rfl) (by kernel_rfl) ?_
      repeat (go_big_quiet_step (exact Grown.call _ (HE.out s m _)))
      refine wpQuiet_nil ?_
      rintro _ ⟨x, rfl⟩
      have hx := hb.trans (x.below.mono hBs)
      go_wp2_with fail
      go_roundw
      case rel => exact ⟨k + 1, by omega, by go_num, hx⟩
      case measure => simp [intOf]; omega
    · have hlt' : ¬ (k : Int) < (n : Int) := by omega
      clear h h'
      go_wp2_with fail
      go_ret
      exact ⟨rfl, hb⟩

set_option maxHeartbeats 1600000 in
/-- samePiles at equal lists -/
theorem samePiles_same (A A' : Option Addr) (n n' c c' : Nat) (ps : List Pil.Pl) (W : World) (h : RdP W W.heap.size A n ps) (h' : RdP W W.heap.size A' n' ps) (hn : n ≤ 4194304) :
    Calls Try.prog 19 #[.slice A n c, .slice A' n' c'] W fun e w' => e = .returned (.bool true) ∧ Below W.heap.size W w' := by
  obtain rfl : n = n' := by have h1 := h.len; have h2 := h'.len; omega
  have HL := Lib.hid h.1
  have hne : ((n : Int) != (n : Int)) = false := by simp
  go_enter Try.func19, Try.ntmps19
  go_wp2_with fail
  go_loopw [5] (fun i wr => ∃ k : Nat, k ≤ n ∧ i = .int .i64 k ∧ Below W.heap.size W wr) (fun i _ => n - (intOf i).toNat)
  case atStart => exact ⟨0, Nat.zero_le _, rfl, Below.refl _ _⟩
  case round =>
    obtain ⟨k, hk, rfl, hb⟩ := hrel
    have hBs := hb.size
    by_cases hlt : k < n
    · have hk' : k < ps.length := by have := HL.out; omega
      obtain ⟨b, off, rfl, hbB, hcell⟩ := (h.below hb).at_ hk'
      obtain ⟨b', off', rfl, hbB', hcell'⟩ := (h'.below hb).at_ hk'
      obtain ⟨c0, c1⟩ := hcell k hk'
      obtain ⟨d0, d1⟩ := hcell' k hk'
      have hlt' : (k : Int) < (n : Int) := by omega
      have hk0 : (0 : Int) ≤ (k : Int) := by omega
      clear h h' hcell hcell'
      generalize ps[k].1 = s at *
      generalize ps[k].2 = m at *
      have q0 : ∀ x : Grown wr, x.val.cell? ⟨b, off + k * 2, none⟩ = some (.string s) := fun x => x.cell (by omega) c0
      have q1 : ∀ x : Grown wr, x.val.cell? ⟨b, off + k * 2 + 1, none⟩ = some (.int .i64 m) := fun x => x.cell (by omega) c1
      have q2 : ∀ x : Grown wr, x.val.cell? ⟨b', off' + k * 2, none⟩ = some (.string s) := fun x => x.cell (by omega) d0
      have q3 : ∀ x : Grown wr, x.val.cell? ⟨b', off' + k * 2 + 1, none⟩ = some (.int .i64 m) := fun x => x.cell (by omega) d1
      go_wp2_with fail
      refine wp_region_grow (by kernel_rfl) (by kernel_rfl) ?_
      repeat (go_big_quiet_step (fail))
      refine wpQuiet_nil ?_
      rintro _ ⟨x, rfl⟩
      have hx := hb.trans (x.below.mono hBs)
      go_wp2_with fail
      go_roundw
      case rel => exact ⟨k + 1, by omega, by go_num, hx⟩
      case measure => simp [intOf]; omega
    · have hlt' : ¬ (k : Int) < (n : Int) := by omega
      clear h h'
      go_wp2_with fail
      go_ret
      exact ⟨rfl, hb⟩

theorem szPile_any (s : ByteArray) (m l : Int) (W : World) (hs : s.size ≤ maxLen) (h0 : 0 ≤ l) (h1 : l ≤ 1048576) :
    Calls Try.prog 42 #[.agg #[.string s, .int .i64 m], .int .i64 l] W fun e w' => e = .returned (.int .i64 (if (s.size : Int) ≤ l then l - s.size else -1)) ∧ Below W.heap.size W w' := by
  unfold maxLen at hs
  by_cases hl : (s.size : Int) ≤ l
  all_goals
    simp only [hl, if_true, if_false]
    go_enter Try.func42, Try.ntmps42
    go_wp2_with fail
    go_ret
    exact ⟨rfl, by go_grown⟩

/-- what szPileS tells -/
def SzPost (W : World) (n : Nat) (ps : List Pil.Pl) (e : Ending) (w' : World) : Prop :=
  ∃ v : Int, e = .returned (.int .i64 v) ∧ (v = -1 ∨ (0 ≤ v ∧ v ≤ 1048576 ∧ n ≤ 1048576 ∧ ∀ p ∈ ps, p.1.size ≤ 1048576)) ∧ Below W.heap.size W w'
theorem take_le (ps : List Pil.Pl) (k : Nat) (hk : k < ps.length) (h : ∀ p ∈ ps.take k, p.1.size ≤ 1048576) (h1 : ps[k].1.size ≤ 1048576) : ∀ p ∈ ps.take (k + 1), p.1.size ≤ 1048576 := by
  intro p hp
  rw [Bal.take_succ_get ps k hk] at hp
  rcases List.mem_append.1 hp with hp | hp
  · exact h p hp
  · rw [List.mem_singleton.1 hp]; exact h1
set_option maxHeartbeats 1600000 in
theorem szPileS_any (A : Option Addr) (n c : Nat) (ps : List Pil.Pl) (l : Int) (W : World) (h : RdP W W.heap.size A n ps) (hn : n ≤ maxLen) (hS : ∀ p ∈ ps, p.1.size ≤ maxLen) (hl0 : 0 ≤ l) (hl1 : l ≤ 1048576) :
    Calls Try.prog 22 #[.slice A n c, .int .i64 l] W (SzPost W n ps) := by
  have HL := Lib.hid h.1
  have HSz := Lib.hid hS
  unfold maxLen at hn
  clear hS
  by_cases hnl : (n : Int) ≤ l
  · have hn20 : n ≤ 1048576 := by omega
    go_enter Try.func22, Try.ntmps22
    go_wp2_with fail
    go_loopw [1, 5] (fun v i wr => ∃ (k : Nat) (x : Int), k ≤ n ∧ i = .int .i64 k ∧ v = .int .i64 x ∧ 0 ≤ x ∧ x ≤ 1048576 ∧ (∀ p ∈ ps.take k, p.1.size ≤ 1048576) ∧ Below W.heap.size W wr) (fun _ i _ => n - (intOf i).toNat)
    case atStart => exact ⟨0, _, Nat.zero_le _, rfl, rfl, by omega, by omega, by simp, Below.refl _ _⟩
    case round =>
      obtain ⟨k, x, hk, rfl, rfl, hx0, hx1, hf, hb⟩ := hrel
      have HF := Lib.hid hf
      clear hf
      by_cases hlt : k < n
      · have hk' : k < ps.length := by have := HL.out; omega
        obtain ⟨b, off, rfl, hbB, hcell⟩ := (h.below hb).at_ hk'
        obtain ⟨c0, c1⟩ := hcell k hk'
        have hlt' : (k : Int) < (n : Int) := by omega
        have hk0 : (0 : Int) ≤ (k : Int) := by omega
        have hs := HSz.out ps[k] (List.getElem_mem hk')
        have HT := Lib.hid (take_le ps k hk' HF.out)
        clear h hcell
        generalize ps[k].1 = s at *
        generalize ps[k].2 = m at *
        have HZ := Lib.hid (szPile_any s m x wr hs hx0 hx1)
        by_cases hsx : (s.size : Int) ≤ x
        · have hz := HZ.out
          rw [if_pos hsx] at hz
          have HZ2 := Lib.hid hz
          have HT2 := Lib.hid (HT.out (by omega))
          clear hz
          go_wp2_with fail
          refine HZ2.out.mono ?_
          rintro e w1 ⟨rfl, hb1⟩
          have hb2 := hb.trans (hb1.mono hb.size)
          go_wp2_with fail
          go_roundw
          case rel => exact ⟨k + 1, _, by omega, by go_num, rfl, by omega, by omega, HT2.out, hb2⟩
          case measure => simp [intOf]; omega
        · have hz := HZ.out
          rw [if_neg hsx] at hz
          have HZ2 := Lib.hid hz
          clear hz
          go_wp2_with fail
          refine HZ2.out.mono ?_
          rintro e w1 ⟨rfl, hb1⟩
          have hb2 := hb.trans (hb1.mono hb.size)
          go_wp2_with fail
          go_ret
          exact ⟨_, rfl, .inl rfl, hb2⟩
      · have hlt' : ¬ (k : Int) < (n : Int) := by omega
        have hkn : ps.length ≤ k := by have := HL.out; omega
        have hT := HF.out
        rw [List.take_of_length_le hkn] at hT
        have HT := Lib.hid hT
        clear h hT
        go_wp2_with fail
        go_ret
        exact ⟨_, rfl, .inr ⟨hx0, hx1, hn20, HT.out⟩, hb⟩
  · clear h
    go_enter Try.func22, Try.ntmps22
    go_wp2_with fail
    go_ret
    exact ⟨_, rfl, .inl rfl, Below.refl _ _⟩
end Go.Proofs.Ytlfgmljgoolbeaa
