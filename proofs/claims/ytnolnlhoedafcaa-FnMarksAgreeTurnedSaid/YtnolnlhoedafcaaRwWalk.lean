/- Slices of rows: szIntSS, toIntSS, eqIntSS, markIntSS. -/
import Derived.Test.YtnolnlhoedafcaaRwKit
import Derived.Test.YtnolnlhoedafcaaMark
import Derived.Laws.MakeOwn
import Derived.StillTailTactics
namespace Go.Proofs.Ytnolnlhoedafcaa
open Go.RowKit
set_option linter.unusedSimpArgs false
set_option maxRecDepth 100000

def tot (Xs : List Rw) : Nat := (Xs.map List.length).sum
theorem tot_take_succ {Xs : List Rw} {k : Nat} (h : k < Xs.length) : tot (Xs.take (k + 1)) = tot (Xs.take k) + Xs[k].length := by
  unfold tot
  rw [List.take_succ_eq_append_getElem h, List.map_append, List.sum_append]; simp
theorem tot_take_le (Xs : List Rw) (k : Nat) : tot (Xs.take k) ≤ tot Xs := by
  have h : tot Xs = tot (Xs.take k) + tot (Xs.drop k) := by
    unfold tot; rw [← List.sum_append, ← List.map_append, List.take_append_drop]
  omega
theorem tot_row {Xs : List Rw} {k : Nat} (h : k < Xs.length) : tot (Xs.take k) + Xs[k].length ≤ tot Xs := by
  rw [← tot_take_succ h]; exact tot_take_le _ _
theorem tot_mem {Xs : List Rw} {x : Rw} (h : x ∈ Xs) : x.length ≤ tot Xs := by
  obtain ⟨k, hk, rfl⟩ := List.getElem_of_mem h
  have := tot_row hk; omega

theorem szIntS_any (A : Option Addr) (n c : Nat) (l : Int) (W : World) (hn : n ≤ maxLen) (h0 : 0 ≤ l) (h1 : l ≤ 1048576) :
    Calls Try.prog 18 #[.slice A n c, .int .i64 l] W fun e w' => e = .returned (.int .i64 (if (n : Int) ≤ l then l - n else -1)) ∧ W = w' := by
  unfold maxLen at hn
  by_cases h : (n : Int) ≤ l
  · have hR := Lib.hid (show (if (n : Int) ≤ l then l - n else -1) = l - n from if_pos h)
    go_enter Try.func18, Try.ntmps18
    go_wp2_with fail
    go_ret
    exact ⟨rfl, rfl⟩
  · have hR := Lib.hid (show (if (n : Int) ≤ l then l - n else -1) = -1 from if_neg h)
    have h' : l - (n : Int) < 0 := by omega
    go_enter Try.func18, Try.ntmps18
    go_wp2_with fail
    go_ret
    exact ⟨rfl, rfl⟩

def SzR (W : World) (n : Nat) (Xs : List Rw) (e : Ending) (w' : World) : Prop := ∃ v : Int, e = .returned (.int .i64 v) ∧ (v = -1 ∨ (0 ≤ v ∧ v ≤ 1048576 ∧ n ≤ 1048576 ∧ tot Xs ≤ 1048576)) ∧ W = w'
set_option maxHeartbeats 800000 in
theorem szIntSS_any (A : Option Addr) (n c : Nat) (Xs : List Rw) (W : World) (h : RdR W W.heap.size A n Xs) (hn : n ≤ maxLen) :
    Calls Try.prog 7 #[.slice A n c, .int .i64 1048576] W (SzR W n Xs) := by
  have HL := Lib.hid h.1
  unfold maxLen at hn
  by_cases hnl : n ≤ 1048576
  · go_enter Try.func7, Try.ntmps7
    go_wp2_with fail
    go_loop [1, 5] (fun v i => ∃ k : Nat, k ≤ n ∧ i = .int .i64 k ∧ v = .int .i64 (1048576 - (n : Int) - (tot (Xs.take k) : Int)) ∧ (n : Int) + (tot (Xs.take k) : Int) ≤ 1048576) (fun _ i => n - (intOf i).toNat)
    case atStart => exact ⟨0, Nat.zero_le _, rfl, by simp [tot], by simp [tot]; omega⟩
    case round =>
      obtain ⟨k, hk, rfl, rfl, hf⟩ := hrel
      by_cases hlt : k < n
      · have hk' : k < Xs.length := by have := HL.out; omega
        obtain ⟨b, off, rfl, hbB, hcell⟩ := h.at_ hk'
        obtain ⟨Aj, cj, c0, c1, c2, c3⟩ := hcell k hk'
        have hlt' : (k : Int) < (n : Int) := by omega
        have hk0 : (0 : Int) ≤ (k : Int) := by omega
        have HT := Lib.hid (tot_take_succ hk')
        have hm : Xs[k].length ≤ maxLen := by omega
        generalize tot (Xs.take k) = t at *
        generalize Xs[k].length = m at *
        obtain ⟨x, hx⟩ : ∃ x : Int, x = 1048576 - (n : Int) - (t : Int) := ⟨_, rfl⟩
        have hx0 : 0 ≤ x := by omega
        have hx1 : x ≤ 1048576 := by omega
        rw [← hx]
        have HX := Lib.hid hx
        have HZ := szIntS_any Aj m cj x W hm hx0 hx1
        clear h hcell c1 c2 c3 hx hm
        by_cases hmx : (m : Int) ≤ x
        · rw [if_pos hmx] at HZ
          have HZ2 := Lib.hid HZ
          clear HZ
          go_wp2_with fail
          refine HZ2.out.mono ?_
          rintro e w1 ⟨rfl, rfl⟩
          go_wp2_with fail
          go_round
          case rel => exact ⟨k + 1, by omega, by go_num, by rw [HT.out]; have := HX.out; exact congrArg (Value.int .i64) (by omega), by rw [HT.out]; have := HX.out; omega⟩
          case measure => simp [intOf]; omega
        · rw [if_neg hmx] at HZ
          have HZ2 := Lib.hid HZ
          clear HZ
          go_wp2_with fail
          refine HZ2.out.mono ?_
          rintro e w1 ⟨rfl, rfl⟩
          go_wp2_with fail
          go_ret
          exact ⟨-1, rfl, .inl rfl, rfl⟩
      · have hlt' : ¬ (k : Int) < (n : Int) := by omega
        rw [List.take_of_length_le (by have := HL.out; omega)] at *
        clear h
        go_wp2_with fail
        go_ret
        exact ⟨_, rfl, .inr ⟨by omega, by omega, hnl, by omega⟩, rfl⟩
  · have hnl' : 1048576 - (n : Int) < 0 := by omega
    clear h
    go_enter Try.func7, Try.ntmps7
    go_wp2_with fail
    go_ret
    exact ⟨-1, rfl, .inl rfl, rfl⟩

theorem rw_info : (Try.prog.info? 24).map (fun i => (i.zero, i.size, i.bytes)) = some (some (.slice none 0 0), 1, 24) := by kernel_rfl
theorem run_make_rows (n : Nat) (hn : n ≤ 4194304) (w : World) :
    (Instr.makeSlice 22 (.int .i64 (n : Int)) (.int .i64 (n : Int))).run Try.prog w = .ok (.slice (some ⟨w.heap.size, 0, none⟩) n n) (w.alloc (.cells (madeCells #[Value.slice none 0 0] n) 24)) := by
  obtain ⟨i, hi, hz, hs, hb⟩ := info_parts rw_info
  have h := run_make (P := Try.prog) w 22 24 i _ Try.underlying22 hi hz .i64 .i64 (n : Int) (n : Int) (by omega) (by omega) (by rw [hb]; omega) (by omega)
  rw [hs] at h
  simpa [Value.cells] using h
/-- rows so far: k of them are laid -/
def PreR (W : World) (G : Nat) (n k : Nat) (Xs : List Rw) (gs : Nat → Nat) : Prop :=
  G < W.heap.size ∧ (∀ j, j < n → (∃ v, W.cell? ⟨G, j, none⟩ = some v) ∧ W.frozen? ⟨G, j, none⟩ = false) ∧
  (∀ j (h : j < Xs.length), j < k → W.cell? ⟨G, j, none⟩ = some (.slice (some ⟨gs j, 0, none⟩) Xs[j].length Xs[j].length) ∧ G < gs j ∧ gs j < W.heap.size ∧ OwnI W (gs j) Xs[j]) ∧ ∀ i j, i < j → j < k → gs i < gs j
theorem preR_zero (W : World) (n : Nat) (Xs : List Rw) (gs : Nat → Nat) : PreR (W.alloc (.cells (madeCells #[Value.slice none 0 0] n) 24)) W.heap.size n 0 Xs gs := by
  have h0 : (W.alloc (.cells (madeCells #[Value.slice none 0 0] n) 24)).heap[W.heap.size]? = some (.cells (madeCells #[Value.slice none 0 0] n) 24 (0, 0)) := heap_alloc_new _ _
  refine ⟨by simp, fun j hj => ⟨⟨.slice none 0 0, ?_⟩, by generalize (W.alloc (.cells (madeCells #[Value.slice none 0 0] n) 24)) = w at h0; simp [World.frozen?, h0]⟩, fun j _ h => absurd h (by omega), fun i j _ h => absurd h (by omega)⟩
  rw [cell_of_row _ W.heap.size j _ 24 (0, 0) h0]
  simp [madeCells, hj, Nat.mod_one]
theorem PreR.below {W W' : World} {G n k : Nat} {Xs : List Rw} {gs : Nat → Nat} (h : PreR W G n k Xs gs) (hb : Below W.heap.size W W') : PreR W' G n k Xs gs :=
  ⟨Nat.lt_of_lt_of_le h.1 hb.size, fun j hj => by
    obtain ⟨⟨v, h1⟩, h2⟩ := h.2.1 j hj
    exact ⟨⟨v, (hb.cell (p := ⟨G, j, none⟩) h.1).trans h1⟩, (hb.frozen (p := ⟨G, j, none⟩) h.1).trans h2⟩, fun j hj hk => by
    obtain ⟨h1, h2, h3, h4⟩ := h.2.2.1 j hj hk
    exact ⟨(hb.cell (p := ⟨G, j, none⟩) h.1).trans h1, h2, Nat.lt_of_lt_of_le h3 hb.size, h4.below hb h3⟩, h.2.2.2⟩
theorem PreR.store {W : World} {G n k g : Nat} {Xs : List Rw} {gs : Nat → Nat} (h : PreR W G n k Xs gs) (hkn : k < n) (hk : k < Xs.length) (hg : G < g) (hgl : g < W.heap.size) (ho : OwnI W g Xs[k]) (hlt : ∀ j, j < k → gs j < g) :
    PreR (W.setCell ⟨G, k, none⟩ (.slice (some ⟨g, 0, none⟩) Xs[k].length Xs[k].length)) G n (k + 1) Xs (fun j => if j = k then g else gs j) := by
  obtain ⟨⟨v, hv⟩, -⟩ := h.2.1 k hkn
  refine ⟨by simpa [World.setCell] using h.1, fun j hj => ?_, fun j hj hjk => ?_, fun i j hij hjk => ?_⟩
  · obtain ⟨⟨u, h1⟩, h2⟩ := h.2.1 j hj
    refine ⟨?_, ?_⟩
    · by_cases e : j = k
      · subst e; exact ⟨_, World.cell?_setCell_same _ _ _ h1⟩
      · exact ⟨u, (World.cell?_setCell_other _ _ _ _ (by simp <;> omega)).trans h1⟩
    · simpa using h2
  · by_cases e : j = k
    · subst e
      simp only [if_true]
      exact ⟨World.cell?_setCell_same _ _ _ hv, hg, by simpa [World.setCell] using hgl, ho.keep (Below.heap_setCell _ _ _ _ (by simp <;> omega))⟩
    · obtain ⟨h1, h2, h3, h4⟩ := h.2.2.1 j hj (by omega)
      simp only [if_neg e]
      exact ⟨(World.cell?_setCell_other _ _ _ _ (by simp <;> omega)).trans h1, h2, by simpa [World.setCell] using h3, h4.keep (Below.heap_setCell _ _ _ _ (by simp <;> omega))⟩
  · by_cases e : j = k
    · subst e
      have e1 : ¬ i = j := by omega
      simp [e1]; exact hlt i hij
    · have e1 : ¬ i = k := by omega
      simp [e, e1]; exact h.2.2.2 i j hij (by omega)

def ToR (W : World) (n : Nat) (Xs : List Rw) (e : Ending) (w' : World) : Prop := ∃ gs, e = .returned (.slice (some ⟨W.heap.size, 0, none⟩) n n) ∧ OwR w' W.heap.size w'.heap.size Xs gs ∧ Below W.heap.size W w'
set_option maxHeartbeats 800000 in
theorem toIntSS_any (A : Option Addr) (n c : Nat) (Xs : List Rw) (W : World) (h : RdR W W.heap.size A n Xs) (hn : n ≤ 4194304) (hm : ∀ x ∈ Xs, x.length ≤ 4194304) :
    Calls Try.prog 9 #[.slice A n c] W (ToR W n Xs) := by
  have hmk := run_make_rows n hn
  have HL := Lib.hid h.1
  have HM := Lib.hid (preR_zero W n Xs (fun _ => 0))
  have HS := Lib.hid hm
  clear hm
  go_enter Try.func9, Try.ntmps9
  go_wp2_with fail
  clear hmk
  go_loopw [4] (fun i wr => ∃ (k : Nat) (gs : Nat → Nat), k ≤ n ∧ i = .int .i64 k ∧ PreR wr W.heap.size n k Xs gs ∧ Below W.heap.size W wr) (fun i _ => n - (intOf i).toNat)
  case atStart => exact ⟨0, _, Nat.zero_le _, rfl, HM.out, (Below.refl _ _).alloc (Nat.le_refl _) _⟩
  case round =>
    obtain ⟨k, gs, hk, rfl, hp, hb⟩ := hrel
    have HP := Lib.hid hp
    have hBs := hb.size
    clear hp
    by_cases hlt : k < n
    · have hk' : k < Xs.length := by have := HL.out; omega
      obtain ⟨b, off, rfl, hbB, hcell⟩ := (h.below hb).at_ hk'
      obtain ⟨Aj, cj, c0, c1, c2, c3⟩ := hcell k hk'
      have hlt' : (k : Int) < (n : Int) := by omega
      have hk0 : (0 : Int) ≤ (k : Int) := by omega
      have HT := Lib.hid (toIntS_any Aj Xs[k].length cj Xs[k] wr (c1.more hBs) (HS.out _ (List.getElem_mem hk')))
      have HST := Lib.hid (fun (w : World) (hp : PreR w W.heap.size n k Xs gs) g h1 h2 h3 h4 => hp.store (g := g) hlt hk' h1 h2 h3 h4)
      clear h hcell c1 c2 c3
      generalize hx : Xs[k] = x at *
      go_wp2_with fail
      refine HT.out.mono ?_
      rintro e w1 ⟨rfl, ho, hb1⟩
      have hp1 := HP.out.below hb1
      obtain ⟨⟨v, hv⟩, hfz⟩ := hp1.2.1 k hlt
      have hb2 := hb.trans (hb1.mono hBs)
      have HN := Lib.hid (HST.out w1 hp1 wr.heap.size HP.out.1 ho.lt ho (fun j hj => (HP.out.2.2.1 j (by omega) hj).2.2.1))
      clear hp1 ho hb1 hx
      go_wp2_with fail
      go_roundw
      case rel => exact ⟨k + 1, _, by omega, by go_num, HN.out, hb2.setCell (Nat.le_refl _) _⟩
      case measure => simp [intOf]; omega
    · have hlt' : ¬ (k : Int) < (n : Int) := by omega
      obtain rfl : k = n := by omega
      clear h
      go_wp2_with fail
      go_ret
      have hp := HP.out
      have hl := HL.out
      exact ⟨gs, rfl, ⟨hp.1, fun j hj => hp.2.2.1 j hj (by omega), fun i j hij hj => hp.2.2.2 i j hij (by omega)⟩, hb⟩

set_option maxHeartbeats 800000 in
theorem eqIntSS_same (A A' : Option Addr) (n n' c c' : Nat) (Xs : List Rw) (W : World) (h : RdR W W.heap.size A n Xs) (h' : RdR W W.heap.size A' n' Xs) (hn : n ≤ 4194304) (hm : ∀ x ∈ Xs, x.length ≤ 4194304) :
    Calls Try.prog 12 #[.slice A n c, .slice A' n' c'] W fun e w' => e = .returned (.bool true) ∧ Below W.heap.size W w' := by
  obtain rfl : n = n' := by have h1 := h.len; have h2 := h'.len; omega
  have HL := Lib.hid h.1
  have HS := Lib.hid hm
  have hne : ((n : Int) != (n : Int)) = false := by simp
  clear hm
  go_enter Try.func12, Try.ntmps12
  go_wp2_with fail
  go_loopw [5] (fun i wr => ∃ k : Nat, k ≤ n ∧ i = .int .i64 k ∧ Below W.heap.size W wr) (fun i _ => n - (intOf i).toNat)
  case atStart => exact ⟨0, Nat.zero_le _, rfl, Below.refl _ _⟩
  case round =>
    obtain ⟨k, hk, rfl, hb⟩ := hrel
    have hBs := hb.size
    by_cases hlt : k < n
    · have hk' : k < Xs.length := by have := HL.out; omega
      obtain ⟨b, off, rfl, hbB, hcell⟩ := (h.below hb).at_ hk'
      obtain ⟨b', off', rfl, hbB', hcell'⟩ := (h'.below hb).at_ hk'
      obtain ⟨Aj, cj, c0, c1, c2, c3⟩ := hcell k hk'
      obtain ⟨Bj, dj, d0, d1, d2, d3⟩ := hcell' k hk'
      have hlt' : (k : Int) < (n : Int) := by omega
      have hk0 : (0 : Int) ≤ (k : Int) := by omega
      have hsz := HS.out _ (List.getElem_mem hk')
      have HE := Lib.hid (fun q => eqIntS_any Aj Bj Xs[k].length Xs[k].length cj dj Xs[k] Xs[k] (wr.drewN q) _ _ (c1.drewN q) (d1.drewN q) hsz hsz)
      clear h h' hcell hcell' c1 c2 c3 d1 d2 d3
      generalize Xs[k] = x at *
      have HE2 := Lib.hid (fun q => (show Calls Try.prog 11 #[.slice Aj x.length cj, .slice Bj x.length dj] (wr.drewN q) fun e w' => e = .returned (.bool true) ∧ Below (wr.drewN q).heap.size (wr.drewN q) w' from (HE.out q).mono fun _ _ ⟨he, p, hp⟩ => ⟨by rw [he]; simp, by rw [hp]; exact Reg.drewN (Below.refl _ _) p⟩))
      clear HE hsz
      generalize x.length = m at *
      go_wp2_with fail
      go_still_tail 8, (by kernel_rfl)
      have HE3 := Lib.hid (HE2.out 1)
      go_wp2_with fail
      refine HE3.out.mono ?_
      rintro e w1 ⟨rfl, hb1⟩
      have hb2 := hb.trans ((Reg.undrewN hb1).mono hBs)
      go_wp2_with fail
      go_roundw
      case rel => exact ⟨k + 1, by omega, by go_num, hb2⟩
      case measure => simp [intOf]; omega
    · have hlt' : ¬ (k : Int) < (n : Int) := by omega
      clear h h'
      go_wp2_with fail
      go_ret
      exact ⟨rfl, hb⟩

/-- rows j and above are as they were -/
def LeftR (W : World) (G H j : Nat) (Xs : List Rw) (gs : Nat → Nat) : Prop :=
  G < W.heap.size ∧ (∀ i (h : i < Xs.length), W.cell? ⟨G, i, none⟩ = some (.slice (some ⟨gs i, 0, none⟩) Xs[i].length Xs[i].length) ∧ G < gs i ∧ gs i < H ∧ (j ≤ i → OwnI W (gs i) Xs[i])) ∧ ∀ i j, i < j → j < Xs.length → gs i < gs j
set_option maxHeartbeats 800000 in
theorem markIntSS_any (G H n c : Nat) (Xs : List Rw) (gs : Nat → Nat) (W : World) (h : OwR W G H Xs gs) (hn : Xs.length = n) (hn2 : n ≤ 4194304) (ht : tot Xs ≤ 1048576) :
    Calls Try.prog 13 #[.slice (some ⟨G, 0, none⟩) n c, .int .i64 1] W fun e w' => ∃ m : Int, e = .returned (.int .i64 m) ∧ 0 ≤ m ∧ Rng G H W w' := by
  have HL := Lib.hid hn
  have HT := Lib.hid ht
  have HO := Lib.hid (show LeftR W G H 0 Xs gs from ⟨h.1, fun i hi => let ⟨h1, h2, h3, h4⟩ := h.2.1 i hi; ⟨h1, h2, h3, fun _ => h4⟩, h.2.2⟩)
  clear h ht hn
  go_enter Try.func13, Try.ntmps13
  go_wp2_with fail
  go_loopw [1, 5] (fun m i wr => ∃ k : Nat, k ≤ n ∧ i = .int .i64 k ∧ m = .int .i64 (1 + (tot (Xs.take k) : Int)) ∧ LeftR wr G H k Xs gs ∧ Rng G H W wr) (fun _ i _ => n - (intOf i).toNat)
  case atStart => exact ⟨0, Nat.zero_le _, rfl, by simp [tot], HO.out, Rng.refl _ _ _⟩
  case round =>
    obtain ⟨k, hk, rfl, rfl, hl, hr⟩ := hrel
    have HLf := Lib.hid hl
    have HR := Lib.hid hr
    have htk := tot_take_le Xs k
    have htm := HT.out
    clear hl hr HO
    by_cases hlt : k < n
    · have hk' : k < Xs.length := by have := HL.out; omega
      obtain ⟨c0, c1, c2, c3⟩ := HLf.out.2.1 k hk'
      have hlt' : (k : Int) < (n : Int) := by omega
      have hk0 : (0 : Int) ≤ (k : Int) := by omega
      have htr := tot_row hk'
      have HTS := Lib.hid (tot_take_succ hk')
      have hown := (c3 (Nat.le_refl _)).own (G + 1) (by omega) Xs[k].length rfl (by omega)
      have HM := Lib.hid (markIntS_any (some ⟨gs k, 0, none⟩) Xs[k].length Xs[k].length Xs[k] (1 + (tot (Xs.take k) : Int)) wr (G + 1) hown (by omega) (by omega) (by omega))
      clear c3 hown
      generalize tot (Xs.take k) = t at *
      generalize hm : Xs[k].length = m at *
      go_wp2_with fail
      refine HM.out.mono ?_
      rintro e w1 ⟨rfl, -, hg, hz⟩
      have hgb : ∀ i, i ≠ gs k → w1.heap[i]? = wr.heap[i]? := fun i hi => by
        by_cases hil : i < wr.heap.size
        · exact hg.block i hil (fun e => hi (by simp [Value.ownBlock] at e; omega))
        · rw [Array.getElem?_eq_none (by omega), Array.getElem?_eq_none (by omega)]
      have HR1 := Lib.hid (show Rng G H W w1 from ⟨hg.os.trans HR.out.1, hg.tape.trans HR.out.2.1, hg.output.trans HR.out.2.2.1, HR.out.2.2.2.1.trans hz.symm, fun i hi => (hgb i (by omega)).trans (HR.out.2.2.2.2 i hi)⟩)
      have HL1 := Lib.hid (show LeftR w1 G H (k + 1) Xs gs from ⟨by have := HLf.out.1; omega, fun i hi => by
        obtain ⟨h1, h2, h3, h4⟩ := HLf.out.2.1 i hi
        refine ⟨(World.cell?_of_block (hgb G (by omega))).trans h1, h2, h3, fun hki => (h4 (by omega)).keep (hgb _ ?_)⟩
        have := HLf.out.2.2 k i (by omega) hi
        omega, HLf.out.2.2⟩)
      clear hg hz hgb c0 c1 c2
      go_wp2_with fail
      go_roundw
      case rel => exact ⟨k + 1, by omega, by go_num, by rw [HTS.out]; go_num, HL1.out, HR1.out⟩
      case measure => simp [intOf]; omega
    · have hlt' : ¬ (k : Int) < (n : Int) := by omega
      go_wp2_with fail
      go_ret
      exact ⟨_, rfl, by omega, HR.out⟩
end Go.Proofs.Ytnolnlhoedafcaa
