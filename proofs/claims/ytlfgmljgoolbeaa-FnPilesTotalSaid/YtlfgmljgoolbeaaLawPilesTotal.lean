/- FnPilesTotal: whatever its arguments are, the law FnPilesTotal of the given program returns true, and leaves all memory as it was. -/
import Derived.Test.YtlfgmljgoolbeaaKit
import Derived.Test.YtlfgmljgoolbeaaPiLaws
import Derived.Test.YtlfgmljgoolbeaaPiTotal
import Derived.Test.YtlfgmljgoolbeaaPiCopy
import Derived.Test.YtlfgmljgoolbeaaLawKit
namespace Go.Proofs.Ytlfgmljgoolbeaa.fnPilesTotal
open Go.ChangeShapes Go.WideShapes Go.ChangeAt Go.RowKit Go.Joins
open Go.ChangeMaps (open_string shut_string)
set_option linter.unusedVariables false

set_option maxHeartbeats 1600000 in
/-- the walk -/
theorem walk (w : World) (a0 : Option Addr) (len0 cap0 : Nat) (z0 : List Int) (w0 : IsRow .u8 w a0 len0 cap0 z0) :
    Calls Try.prog 9 #[.slice a0 len0 cap0] w fun e w' => e = .returned (.bool true) ∧ Below w.heap.size w w' := by
  by_cases hl0 : (1048576 : Int) < (len0 : Int)
  · go_enter Try.func9, Try.ntmps9
    go_wp2_with fail
    go_ret
    exact ⟨rfl, Below.refl _ _⟩
  ·
    go_enter Try.func9, Try.ntmps9
    have hBw : w.heap.size ≤ w.heap.size := Nat.le_refl _
    go_wp2_with fail
    refine (drawPilesTotal_any a0 len0 cap0 z0 w w0).mono ?_
    rintro e u1 ⟨gg, nn, cc, ps, rfl, ho, hn, hsz, hb1⟩
    have hs1 := hb1.size
    have bw1 : Below w.heap.size w u1 := hb1.mono (by omega)
    obtain ⟨hc1, hc2⟩ := ho.cap
    have HL := Lib.hid ho.len
    have o_b_1 := ho
    clear ho
    have HZ := Lib.hid (fun (p : Pil.Pl) (hp : p ∈ ps) => Nat.le_trans (hsz p hp) (show 5 ≤ 4194304 by omega))
    clear hsz
    have HI := Lib.hid (fun u (h : RdP u u.heap.size (some ⟨gg, 0, none⟩) nn ps) => iPilesTotal_any _ nn cc ps u h (by omega) HZ.out)
    have HS := Lib.hid (fun u (h : RdP u u.heap.size (some ⟨gg, 0, none⟩) nn ps) => sPilesTotal_any _ nn cc ps u h (by omega) HZ.out)
    have HV := Lib.hid (fun u (h : RdP u u.heap.size (some ⟨gg, 0, none⟩) nn ps) => iPilesValid_any _ nn cc ps u h (by omega) HZ.out)
    cases hp : Pil.plv ps with
    | false =>
      have hv := fun u h => bool_to (HV.out u h) hp
      have HV2 := Lib.hid hv
      clear hv
      have ht : Pil.ptot ps = -1 := by simp [Pil.ptot, hp]
      have hi := HI.out; rw [ht] at hi; have HI2 := Lib.hid hi
      have hs := HS.out; rw [ht] at hs; have HS2 := Lib.hid hs
      clear hi hs ht HI HS HV hp
      go_wp2_with fail
      refine (HI2.out u1 o_b_1.rd).mono ?_
      rintro e u2 ⟨rfl, hb2⟩
      have hs2 := hb2.size
      have bw2 : Below w.heap.size w u2 := bw1.trans (hb2.mono (by omega))
      have o_b_2 := o_b_1.below hb2
      clear o_b_1 bw1
      go_wp2_with fail
      refine (HS2.out u2 o_b_2.rd).mono ?_
      rintro e u3 ⟨rfl, hb3⟩
      have hs3 := hb3.size
      have bw3 : Below w.heap.size w u3 := bw2.trans (hb3.mono (by omega))
      have o_b_3 := o_b_2.below hb3
      clear o_b_2 bw2
      go_wp2_with fail
      go_loop [6, 7] (fun n i => ∃ (k : Nat) (s : Int), k ≤ nn ∧ i = .int .i64 k ∧ n = .int .i64 s) (fun _ i => nn - (intOf i).toNat)
      case atStart => exact ⟨0, 0, by omega, rfl, rfl⟩
      case round =>
        obtain ⟨k, s, hk, rfl, rfl⟩ := hrel
        by_cases hlt : k < nn
        ·
          have hk' : k < ps.length := by have := HL.out; omega
          obtain ⟨g', hg', -, -, hcl⟩ := o_b_3.at_ (by omega)
          obtain rfl : g' = gg := by injection hg' with e; injection e with e; exact e.symm
          obtain ⟨-, d1, -, -⟩ := hcl k hk'
          have hlt' : (k : Int) < (nn : Int) := by omega
          have hk0 : (0 : Int) ≤ (k : Int) := by omega
          clear hcl hg'
          generalize ps[k].2 = m at *
          go_wp2_with fail
          go_round
          case rel => exact ⟨k + 1, _, by omega, by go_num, rfl⟩
          case measure => simp [intOf]; omega
        ·
          have hlt' : ¬ (k : Int) < (nn : Int) := by omega
          go_wp2_with fail
          refine (HV2.out u3 o_b_3.rd).mono ?_
          rintro e u4 ⟨rfl, hb4⟩
          have hs4 := hb4.size
          have bw4 : Below w.heap.size w u4 := bw3.trans (hb4.mono (by omega))
          have o_b_4 := o_b_3.below hb4
          clear o_b_3 bw3
          go_wp2_with fail
          refine (HV2.out u4 o_b_4.rd).mono ?_
          rintro e u5 ⟨rfl, hb5⟩
          have hs5 := hb5.size
          have bw5 : Below w.heap.size w u5 := bw4.trans (hb5.mono (by omega))
          have o_b_5 := o_b_4.below hb5
          clear o_b_4 bw4
          go_wp2_with fail
          go_ret
          exact ⟨rfl, bw5⟩
    | true =>
      have hv := fun u h => bool_to (HV.out u h) hp
      have HV2 := Lib.hid hv
      clear hv
      have ht : Pil.ptot ps = Pil.total ps := by simp [Pil.ptot, hp]
      have HTB := Lib.hid (Pil.plv_total hp)
      have HPB := Lib.hid (fun (p : Pil.Pl) (h : p ∈ ps) => Pil.pv_pos ((Pil.plv_iff.1 hp).1 p h))
      have HTK := Lib.hid (fun k => Pil.plv_total (Pil.plv_take hp k))
      obtain ⟨v, hv⟩ : ∃ v, v = Pil.total ps := ⟨_, rfl⟩
      rw [← hv] at ht
      have hi := HI.out; rw [ht] at hi; have HI2 := Lib.hid hi
      have hs := HS.out; rw [ht] at hs; have HS2 := Lib.hid hs
      have HVV := Lib.hid hv
      clear hi hs ht HI HS HV hp hv
      go_wp2_with fail
      refine (HI2.out u1 o_b_1.rd).mono ?_
      rintro e u2 ⟨rfl, hb2⟩
      have hs2 := hb2.size
      have bw2 : Below w.heap.size w u2 := bw1.trans (hb2.mono (by omega))
      have o_b_2 := o_b_1.below hb2
      clear o_b_1 bw1
      go_wp2_with fail
      refine (HS2.out u2 o_b_2.rd).mono ?_
      rintro e u3 ⟨rfl, hb3⟩
      have hs3 := hb3.size
      have bw3 : Below w.heap.size w u3 := bw2.trans (hb3.mono (by omega))
      have o_b_3 := o_b_2.below hb3
      clear o_b_2 bw2
      go_wp2_with fail
      go_loop [6, 7] (fun n i => ∃ (k : Nat) (s : Int), k ≤ nn ∧ i = .int .i64 k ∧ n = .int .i64 s ∧ s = Pil.total (ps.take k)) (fun _ i => nn - (intOf i).toNat)
      case atStart => exact ⟨0, 0, by omega, rfl, rfl, rfl⟩
      case round =>
        obtain ⟨k, s, hk, rfl, rfl, hs⟩ := hrel
        have hsb := HTK.out k
        rw [← hs] at hsb
        by_cases hlt : k < nn
        ·
          have hk' : k < ps.length := by have := HL.out; omega
          obtain ⟨g', hg', -, -, hcl⟩ := o_b_3.at_ (by omega)
          obtain rfl : g' = gg := by injection hg' with e; injection e with e; exact e.symm
          obtain ⟨-, d1, -, -⟩ := hcl k hk'
          have hlt' : (k : Int) < (nn : Int) := by omega
          have hk0 : (0 : Int) ≤ (k : Int) := by omega
          have hm := HPB.out ps[k] (List.getElem_mem hk')
          have HS1 := Lib.hid (show s + ps[k].2 = Pil.total (ps.take (k + 1)) by rw [total_take_succ hk', hs])
          clear hs
          clear hcl hg'
          generalize ps[k].2 = m at *
          go_wp2_with fail
          go_round
          case rel => exact ⟨k + 1, s + m, by omega, by go_num, rfl, HS1.out⟩
          case measure => simp [intOf]; omega
        ·
          have hlt' : ¬ (k : Int) < (nn : Int) := by omega
          obtain rfl : s = v := by rw [hs, HVV.out, List.take_of_length_le (by have := HL.out; omega)]
          clear hs
          go_wp2_with fail
          refine (HV2.out u3 o_b_3.rd).mono ?_
          rintro e u4 ⟨rfl, hb4⟩
          have hs4 := hb4.size
          have bw4 : Below w.heap.size w u4 := bw3.trans (hb4.mono (by omega))
          have o_b_4 := o_b_3.below hb4
          clear o_b_3 bw3
          go_wp2_with fail
          go_ret
          exact ⟨rfl, bw4⟩

set_option maxRecDepth 100000 in
theorem lifted (os : Os) (started : os.Started) (H : Type) (enc : TypeId × Value → H) :
    ReturnsInHanded {} Try.checked os 9 .any (Rows.fnPilesTotalSpec.pre6 enc Try.prog Try.f9 Rows.fnPilesTotalRow.domain false) (Rows.fnPilesTotalSpec.post enc Try.prog Try.f9 false true false false) := by
  refine returnsInHanded_of_change (C := Try.checked) own started (by kernel_rfl) Try.func9
    (ChangeSpec.witness6 (enc := enc) (C := Try.checked) false ⟨#[], #[.slice none 0 0], []⟩ 8 (by kernel_rfl) (by kernel_rfl) (by kernel_rfl) (by kernel_rfl)) ?_
  intro W base args ds gs before hval0 hW hcnd _
  have hval : ∀ (j : Nat) t v, Try.f9.params[j]? = some t → args[j]? = some v → Value.okWide Try.prog W .any base t v := hval0
  have hW' := hW
  obtain ⟨p, q, hA0, hV, rfl, hfz, hnd⟩ := hW
  have hA : DataW.TrodAll enc Try.prog W 0 (fun _ => true) true Try.f9.params.toList args.toList ds p := hA0
  rw [Try.params9] at hA hval
  obtain ⟨v0, vs0, d0, ds0, p0, q0, hargs, rfl, rfl, h0, r0⟩ := trodAll_cons hA
  obtain ⟨rfl, rfl, rfl⟩ := trodAll_nil r0
  obtain rfl : args = #[v0] := by cases args; simp_all
  obtain ⟨rfl, rfl⟩ := trodVars_none hV
  have k0 := h0
  have lt0 : ∀ x ∈ p0, x.block < W.heap.size := by obtain ⟨m, hm⟩ := k0; exact DataW.trod_lt m _ _ _ hm
  obtain ⟨a0, len0, cap0, rfl⟩ := okWide_slice Try.underlying22 (hval 0 22 v0 rfl rfl)
  obtain ⟨z0, w0⟩ : ∃ zs, IsRow .u8 W a0 len0 cap0 zs := by
    obtain ⟨fuel, hf⟩ := h0
    rcases open_ints Try.underlying22 Try.underlying5 (by kernel_rfl) hf with ⟨hcs, _⟩ | ⟨x, l, c, zs, hcs, _, hl, hm, hz, _, hcell, hwz⟩
    · simp [Value.cells] at hcs
      obtain ⟨rfl, rfl, rfl⟩ := hcs
      exact ⟨[], .inl ⟨rfl, rfl, rfl, rfl⟩⟩
    · simp [Value.cells] at hcs
      obtain ⟨rfl, rfl, rfl⟩ := hcs
      exact ⟨zs, .inr ⟨_, rfl, hl, hm, by simpa using hz, hcell, hwz⟩⟩
  clear hA0 hval0
  refine (walk W a0 len0 cap0 z0 w0).mono fun e W' ⟨he, bel⟩ => ?_
  subst he
  exact ⟨_, rfl, _, _, _, [], _, [], hW', trodAll_mk1 (shut_bool Try.underlying4 _), (trodAll_cons_mk (Below.trod laidOut (by kernel_rfl) (of_decide_eq_true (by kernel_rfl)) k0 bel lt0) trodAll_mk0), rfl, bel.frame _, fun h => by cases h⟩

theorem over : Rows.fnPilesTotalRow.holds Try.pinned (OpenSpec.ofChange Rows.fnPilesTotalSpec) :=
  OpenClaim.holds_of_wide 9 Try.f9 rfl rfl rfl rfl rfl rfl rfl ⟨rfl, rfl, rfl, rfl, rfl⟩ rfl rfl rfl rfl rfl (by kernel_rfl) Try.func9 (by kernel_rfl)
    (of_decide_eq_true (by kernel_rfl)) (by unfold Func.isWrapper; first | (rw [if_pos (by decide +kernel)]; kernel_rfl) | (rw [if_neg (by decide +kernel)]; exact ⟨rfl, rfl⟩))
    (fun os started H enc _ => lifted os started H enc)

/-- the statement -/
theorem proved : Rows.FnPilesTotalSaid := over
#print axioms proved
end Go.Proofs.Ytlfgmljgoolbeaa.fnPilesTotal
