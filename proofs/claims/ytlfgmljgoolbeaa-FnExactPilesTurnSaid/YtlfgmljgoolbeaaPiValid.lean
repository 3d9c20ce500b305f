/- PilesValid, of the program and of the reference. -/
import Derived.Test.YtlfgmljgoolbeaaPiWalk
namespace Go.Proofs.Ytlfgmljgoolbeaa
open Go.RowKit
set_option linter.unusedSimpArgs false

theorem bool_to {P : Program} {f : FuncId} {args : Array Value} {w : World} {b c : Bool} (h : Calls P f args w fun e w' => e = .returned (.bool b) ∧ Below w.heap.size w w') (e : b = c) :
    Calls P f args w fun e w' => e = .returned (.bool c) ∧ Below w.heap.size w w' := by
  subst e; exact h

set_option maxHeartbeats 3200000 in
theorem iPilesValid_any (A : Option Addr) (n c : Nat) (ps : List Pil.Pl) (W : World) (h : RdP W W.heap.size A n ps) (hn : n ≤ 4194304) (hS : ∀ p ∈ ps, p.1.size ≤ 4194304) :
    Calls Try.prog 21 #[.slice A n c] W fun e w' => e = .returned (.bool (Pil.plv ps)) ∧ Below W.heap.size W w' := by
  have HL := Lib.hid h.len
  have HSz := Lib.hid hS
  clear hS
  go_enter Try.func21, Try.ntmps21
  go_wp2_with fail
  go_loopw [7] (fun i wr => ∃ k : Nat, k ≤ n ∧ i = .int .i64 k ∧ Below W.heap.size W wr ∧ Pil.PPre ps k) (fun i _ => n - (intOf i).toNat)
  case atStart => exact ⟨0, Nat.zero_le _, rfl, Below.refl _ _, Pil.ppre_zero _⟩
  case round =>
    obtain ⟨k, hk, rfl, hb, hp⟩ := hrel
    have HP := Lib.hid hp
    clear hp
    have hBs := hb.size
    by_cases hlt : k < n
    · have hk2 : k < ps.length := by have := HL.out; omega
      obtain ⟨b, off, rfl, hbB, hcell⟩ := (h.below hb).at_ hk2
      have HC := Lib.hid hcell
      obtain ⟨c0, c1⟩ := hcell k hk2
      clear hcell
      have hlt' : (k : Int) < (n : Int) := by omega
      have hk0 : (0 : Int) ≤ (k : Int) := by omega
      have hbr : b < wr.heap.size := by omega
      have hs := HSz.out ps[k] (List.getElem_mem hk2)
      have HVd := Lib.hid (fun hv => Pil.plv_bad hk2 hv)
      have HDs := Lib.hid (fun h0 hd => Pil.plv_desc hk2 h0 hd)
      have HNx := Lib.hid (fun hv hd => Pil.ppre_succ hk2 HP.out hv hd)
      clear h
      obtain ⟨s, hse⟩ : ∃ s, ps[k].1 = s := ⟨_, rfl⟩
      obtain ⟨m, hme⟩ : ∃ m, ps[k].2 = m := ⟨_, rfl⟩
      have hpk : ps[k] = (s, m) := by rw [← hse, ← hme]
      rw [hpk] at c0 c1 hs HVd HNx HDs
      clear hse hme hpk
      simp only at c0 c1 hs
      have q0 : ∀ x : Grown (wr.alloc (.cells #[.string s, .int .i64 m] 44)), x.val.cell? ⟨wr.heap.size, 0, none⟩ = some (.string s) := fun x => x.cell (by simp) (by simp [go_sem])
      have q1 : ∀ x : Grown (wr.alloc (.cells #[.string s, .int .i64 m] 44)), x.val.cell? ⟨wr.heap.size, 1, none⟩ = some (.int .i64 m) := fun x => x.cell (by simp) (by simp [go_sem])
      cases hv : Pil.pv (s, m) with
      | false =>
        have HV := Lib.hid (fun w => bool_to (iPileValid_any s m w hs) hv)
        have HR := Lib.hid (HVd.out hv)
        clear hv
        go_wp2_with fail
        refine wp_region_grow (by kernel_rfl) (by kernel_rfl) ?_
        repeat (go_big_quiet_step (exact Grown.call _ (HV.out _)))
        refine wpQuiet_nil ?_
        rintro _ ⟨x, rfl⟩
        have hx := hb.trans ((Reg.unalloc x.below).mono hBs)
        go_wp2_with fail
        go_ret
        exact ⟨ret_bool HR.out.symm, hx⟩
      | true =>
        have HV := Lib.hid (fun w => bool_to (iPileValid_any s m w hs) hv)
        by_cases hz : k = 0
        · subst hz
          simp only [Nat.zero_mul, Nat.add_zero] at c0 c1
          have HR := Lib.hid (HNx.out hv (fun h0 => absurd h0 (by omega)))
          clear hv
          go_wp2_with fail
          refine wp_region_grow (by kernel_rfl) (by kernel_rfl) ?_
          repeat (go_big_quiet_step (exact Grown.call _ (HV.out _)))
          refine wpQuiet_nil ?_
          rintro _ ⟨x, rfl⟩
          have hx := hb.trans ((Reg.unalloc x.below).mono hBs)
          go_wp2_with fail
          go_roundw
          case rel => exact ⟨1, by omega, by go_num, hx, HR.out⟩
          case measure => simp [intOf]; omega
        · obtain ⟨j, rfl⟩ : ∃ j, k = j + 1 := ⟨k - 1, by omega⟩
          have hj2 : j < ps.length := by omega
          obtain ⟨d0, -⟩ := HC.out j hj2
          have hb' : b < (wr.alloc (.cells #[.string s, .int .i64 m] 44)).heap.size := by simp; omega
          have q2 : ∀ x : Grown (wr.alloc (.cells #[.string s, .int .i64 m] 44)), x.val.cell? ⟨b, off + j * 2, none⟩ = some (.string ps[j].1) := fun x => x.cell hb' (Reg.keepa hbr d0)
          have HB := Lib.hid (show ps[j + 1 - 1]'(by omega) = ps[j] from rfl)
          cases hd : Pil.bl ps[j].1 s with
          | false =>
            have HR := Lib.hid (HDs.out (by omega) hd)
            have hle : (Op.bytesLess s.toList ps[j].1.toList || s.toList == ps[j].1.toList) = true := Pil.le_of_not hd
            clear hv hd
            generalize ps[j].1 = t at *
            go_wp2_with fail
            refine wp_region_grow (by kernel_rfl) (by kernel_rfl) ?_
            repeat (go_big_quiet_step (exact Grown.call _ (HV.out _)))
            refine wpQuiet_nil ?_
            rintro _ ⟨x, rfl⟩
            have hx := hb.trans ((Reg.unalloc x.below).mono hBs)
            go_wp2_with fail
            go_ret
            exact ⟨ret_bool HR.out.symm, hx⟩
          | true =>
            have HR := Lib.hid (HNx.out hv (fun _ => hd))
            have hle : (Op.bytesLess s.toList ps[j].1.toList || s.toList == ps[j].1.toList) = false := Pil.not_le hd
            clear hv hd
            generalize ps[j].1 = t at *
            go_wp2_with fail
            refine wp_region_grow (by kernel_rfl) (by kernel_rfl) ?_
            repeat (go_big_quiet_step (exact Grown.call _ (HV.out _)))
            refine wpQuiet_nil ?_
            rintro _ ⟨x, rfl⟩
            have hx := hb.trans ((Reg.unalloc x.below).mono hBs)
            go_wp2_with fail
            go_roundw
            case rel => exact ⟨j + 1 + 1, by omega, by go_num, hx, HR.out⟩
            case measure => simp [intOf]; omega
    · have hlt' : ¬ (k : Int) < (n : Int) := by omega
      have hkl : k = ps.length := by have := HL.out; omega
      have HR := Lib.hid (Pil.ppre_all (l := ps) (by rw [← hkl]; exact HP.out))
      clear h hkl
      go_wp2_with fail
      go_ret
      exact ⟨ret_bool (by rw [HR.out, HL.out]; simp; omega), hb⟩
set_option maxHeartbeats 3200000 in
theorem sPilesValid_any (A : Option Addr) (n c : Nat) (ps : List Pil.Pl) (W : World) (h : RdP W W.heap.size A n ps) (hn : n ≤ 4194304) (hS : ∀ p ∈ ps, p.1.size ≤ 4194304) :
    Calls Try.prog 30 #[.slice A n c] W fun e w' => e = .returned (.bool (Pil.plv ps)) ∧ Below W.heap.size W w' := by
  have HL := Lib.hid h.len
  have HSz := Lib.hid hS
  clear hS
  go_enter Try.func30, Try.ntmps30
  go_wp2_with fail
  go_loopw [3] (fun i wr => ∃ k : Nat, k ≤ n ∧ i = .int .i64 k ∧ Below W.heap.size W wr ∧ Pil.PPre ps k) (fun i _ => n - (intOf i).toNat)
  case atStart => exact ⟨0, Nat.zero_le _, rfl, Below.refl _ _, Pil.ppre_zero _⟩
  case round =>
    obtain ⟨k, hk, rfl, hb, hp⟩ := hrel
    have HP := Lib.hid hp
    clear hp
    have hBs := hb.size
    by_cases hlt : k < n
    · have hk2 : k < ps.length := by have := HL.out; omega
      obtain ⟨b, off, rfl, hbB, hcell⟩ := (h.below hb).at_ hk2
      have HC := Lib.hid hcell
      obtain ⟨c0, c1⟩ := hcell k hk2
      clear hcell
      have hlt' : (k : Int) < (n : Int) := by omega
      have hk0 : (0 : Int) ≤ (k : Int) := by omega
      have hbr : b < wr.heap.size := by omega
      have hs := HSz.out ps[k] (List.getElem_mem hk2)
      have HVd := Lib.hid (fun hv => Pil.plv_bad hk2 hv)
      have HDs := Lib.hid (fun h0 hd => Pil.plv_desc hk2 h0 hd)
      have HNx := Lib.hid (fun hv hd => Pil.ppre_succ hk2 HP.out hv hd)
      clear h
      obtain ⟨s, hse⟩ : ∃ s, ps[k].1 = s := ⟨_, rfl⟩
      obtain ⟨m, hme⟩ : ∃ m, ps[k].2 = m := ⟨_, rfl⟩
      have hpk : ps[k] = (s, m) := by rw [← hse, ← hme]
      rw [hpk] at c0 c1 hs HVd HNx HDs
      clear hse hme hpk
      simp only at c0 c1 hs
      have q0 : ∀ x : Grown wr, x.val.cell? ⟨b, off + k * 2, none⟩ = some (.string s) := fun x => x.cell hbr c0
      have q1 : ∀ x : Grown wr, x.val.cell? ⟨b, off + k * 2 + 1, none⟩ = some (.int .i64 m) := fun x => x.cell hbr c1
      cases hv : Pil.pv (s, m) with
      | false =>
        have HV := Lib.hid (fun w => bool_to (sPile_any s m w hs) hv)
        have HR := Lib.hid (HVd.out hv)
        clear hv
        go_wp2_with fail
        refine wp_region_grow (by kernel_rfl) (by kernel_rfl) ?_
        repeat (go_big_quiet_step (exact Grown.call _ (HV.out _)))
        refine wpQuiet_nil ?_
        rintro _ ⟨x, rfl⟩
        have hx := hb.trans (x.below.mono hBs)
        go_wp2_with fail
        go_ret
        exact ⟨ret_bool HR.out.symm, hx⟩
      | true =>
        have HV := Lib.hid (fun w => bool_to (sPile_any s m w hs) hv)
        by_cases hz : k = 0
        · subst hz
          simp only [Nat.zero_mul, Nat.add_zero] at c0 c1 q0 q1
          have HR := Lib.hid (HNx.out hv (fun h0 => absurd h0 (by omega)))
          clear hv
          go_wp2_with fail
          refine wp_region_grow (by kernel_rfl) (by kernel_rfl) ?_
          repeat (go_big_quiet_step (exact Grown.call _ (HV.out _)))
          refine wpQuiet_nil ?_
          rintro _ ⟨x, rfl⟩
          have hx := hb.trans (x.below.mono hBs)
          go_wp2_with fail
          go_roundw
          case rel => exact ⟨1, by omega, by go_num, hx, HR.out⟩
          case measure => simp [intOf]; omega
        · obtain ⟨j, rfl⟩ : ∃ j, k = j + 1 := ⟨k - 1, by omega⟩
          have hj2 : j < ps.length := by omega
          obtain ⟨d0, -⟩ := HC.out j hj2
          have q2 : ∀ x : Grown wr, x.val.cell? ⟨b, off + j * 2, none⟩ = some (.string ps[j].1) := fun x => x.cell hbr d0
          have HB := Lib.hid (show ps[j + 1 - 1]'(by omega) = ps[j] from rfl)
          cases hd : Pil.bl ps[j].1 s with
          | false =>
            have HR := Lib.hid (HDs.out (by omega) hd)
            have hle : (!Op.bytesLess ps[j].1.toList s.toList) = true := Pil.ge_of_not hd
            clear hv hd
            generalize ps[j].1 = t at *
            go_wp2_with fail
            refine wp_region_grow (by kernel_rfl) (by kernel_rfl) ?_
            repeat (go_big_quiet_step (exact Grown.call _ (HV.out _)))
            refine wpQuiet_nil ?_
            rintro _ ⟨x, rfl⟩
            have hx := hb.trans (x.below.mono hBs)
            go_wp2_with fail
            go_ret
            exact ⟨ret_bool HR.out.symm, hx⟩
          | true =>
            have HR := Lib.hid (HNx.out hv (fun _ => hd))
            have hle : (!Op.bytesLess ps[j].1.toList s.toList) = false := Pil.not_ge hd
            clear hv hd
            generalize ps[j].1 = t at *
            go_wp2_with fail
            refine wp_region_grow (by kernel_rfl) (by kernel_rfl) ?_
            repeat (go_big_quiet_step (exact Grown.call _ (HV.out _)))
            refine wpQuiet_nil ?_
            rintro _ ⟨x, rfl⟩
            have hx := hb.trans (x.below.mono hBs)
            go_wp2_with fail
            go_roundw
            case rel => exact ⟨j + 1 + 1, by omega, by go_num, hx, HR.out⟩
            case measure => simp [intOf]; omega
    · have hlt' : ¬ (k : Int) < (n : Int) := by omega
      have hkl : k = ps.length := by have := HL.out; omega
      have HR := Lib.hid (Pil.ppre_all (l := ps) (by rw [← hkl]; exact HP.out))
      clear h hkl
      go_wp2_with fail
      go_ret
      exact ⟨ret_bool (by rw [HR.out, HL.out]; simp; omega), hb⟩
end Go.Proofs.Ytlfgmljgoolbeaa
