/- FnLotsFirst: whatever its arguments are, the law FnLotsFirst of the given program returns true, and leaves all memory as it was. -/
import Derived.Test.YtpiajeibfggpiaaKit
import Derived.Test.YtpiajeibfggpiaaLawKit
import Derived.Test.YtpiajeibfggpiaaDraws
import Derived.Test.YtpiajeibfggpiaaBaFirst
namespace Go.Proofs.Ytpiajeibfggpiaa.fnLotsFirst
open Go.ChangeShapes Go.WideShapes Go.ChangeAt Go.RowKit Go.Joins
open Go.ChangeMaps (open_string shut_string)
set_option linter.unusedVariables false

set_option maxHeartbeats 800000 in
/-- the walk -/
theorem walk (w : World) (a0 : Option Addr) (len0 cap0 : Nat) (z0 : List Int) (w0 : IsRow .u8 w a0 len0 cap0 z0) :
    Calls Try.prog 13 #[.slice a0 len0 cap0] w fun e w' => e = .returned (.bool true) ∧ Below w.heap.size w w' := by
  by_cases hl0 : (1048576 : Int) < (len0 : Int)
  · go_enter Try.func13, Try.ntmps13
    go_wp2_with fail
    go_ret
    exact ⟨rfl, Below.refl _ _⟩
  · have hs0_ : len0 ≤ 1048576 := by omega
    go_enter Try.func13, Try.ntmps13
    go_wp2_with fail
    refine (drawLotsFirst_any a0 len0 cap0 z0 w w0).mono ?_
    rintro e u1 ⟨A, n, c, xs, A', n', c', ls, rfl, ho, ho', hn, hn', hb1⟩
    have hs1 := hb1.size
    have bw1 : Below w.heap.size w u1 := hb1.mono (by omega)
    obtain ⟨hc1, hc2⟩ := ho.cap
    have HLN := Lib.hid ho.len
    have HLN' := Lib.hid ho'.len
    have o_b_1 := ho
    have o_l_1 := ho'
    clear ho ho'
    have HI := Lib.hid (fun u B B' (h : RdI u B A n xs) (h' : RdB u B' A' n' ls) => iLotsFirst_any A A' n c n' c' xs ls u B B' h h' hc1 hc2 (by omega) (by omega))
    have HSP := Lib.hid (fun u B B' (h : RdI u B A n xs) (h' : RdB u B' A' n' ls) => sLotsFirst_any A A' n c n' c' xs ls u B B' h h' hc1 hc2 (by omega) (by omega))
    have HV := Lib.hid (fun u B (h : RdI u B A n xs) => sLotsValid_any A n c xs u B h hc1 (by omega) hc2)
    obtain ⟨r, hr⟩ : ∃ r, r = Bal.lfirst xs ls := ⟨_, rfl⟩
    have h1 := HI.out; have h2 := HSP.out
    rw [← hr] at h1 h2
    have H1 := Lib.hid h1; have H2 := Lib.hid h2
    have HR := Lib.hid hr
    clear h1 h2 hr HI HSP
    go_wp2_with fail
    refine (same_below (H1.out u1 _ _ o_b_1.rd o_l_1.rd)).mono ?_
    rintro e u2 ⟨rfl, hb2⟩
    have hs2 := hb2.size
    have bw2 : Below w.heap.size w u2 := bw1.trans (hb2.mono (by omega))
    have o_b_2 := o_b_1.below hb2
    have o_l_2 := o_l_1.below hb2
    clear o_b_1 o_l_1 bw1
    go_wp2_with fail
    refine (quiet_below (H2.out u2 _ _ o_b_2.rd o_l_2.rd)).mono ?_
    rintro e u3 ⟨rfl, hb3⟩
    have hs3 := hb3.size
    have bw3 : Below w.heap.size w u3 := bw2.trans (hb3.mono (by omega))
    have o_b_3 := o_b_2.below hb3
    have o_l_3 := o_l_2.below hb3
    clear o_b_2 o_l_2 bw2
    cases hv : Bal.bv xs (n : Int) with
    | false =>
      have h1 := HV.out; rw [hv] at h1; have HV2 := Lib.hid h1; clear h1 hv
      go_wp2_with fail
      refine (quiet_below (HV2.out u3 _ o_b_3.rd)).mono ?_
      rintro e u4 ⟨rfl, hb4⟩
      have hs4 := hb4.size
      have bw4 : Below w.heap.size w u4 := bw3.trans (hb4.mono (by omega))
      have o_b_4 := o_b_3.below hb4
      have o_l_4 := o_l_3.below hb4
      clear o_b_3 o_l_3 bw3
      go_wp2_with fail
      go_ret
      exact ⟨rfl, bw4⟩
    | true =>
      by_cases hnn : n' = n
      · have hb1 : ((n' : Int) != (n : Int)) = false := by simp [hnn]
        have h1 := HV.out; rw [hv] at h1; have HV2 := Lib.hid h1; clear h1
        have HB : Hid (∀ c, c ∈ xs → 0 ≤ c ∧ c < (n' : Int)) := Lib.hid (by rw [hnn]; exact (Bal.bv_iff.1 hv).2.1)
        have HF := Lib.hid (HR.out.trans (Bal.lfirst_t (some := ls) (by rw [HLN.out]) hv (by rw [HLN.out, HLN'.out, hnn])))
        clear hv hnn
        go_wp2_with fail
        refine (quiet_below (HV2.out u3 _ o_b_3.rd)).mono ?_
        rintro e u4 ⟨rfl, hb4⟩
        have hs4 := hb4.size
        have bw4 : Below w.heap.size w u4 := bw3.trans (hb4.mono (by omega))
        have o_b_4 := o_b_3.below hb4
        have o_l_4 := o_l_3.below hb4
        clear o_b_3 o_l_3 bw3
        go_wp2_with fail
        have hr1 := o_b_4.rd
        have hr2 := o_l_4.rd
        go_loop [7] (fun i => ∃ k : Nat, k ≤ n ∧ i = .int .i64 k ∧ (xs.take k).find? (Bal.there ls) = none) (fun i => n - (intOf i).toNat)
        case atStart => exact ⟨0, Nat.zero_le _, rfl, by simp⟩
        case round =>
          obtain ⟨k, hk, rfl, hf⟩ := hrel
          have HF1 := Lib.hid hf
          clear hf
          by_cases hlt : k < n
          · have hk' : k < xs.length := by have := HLN.out; omega
            obtain ⟨b, off, rfl, hbB, hcell⟩ := hr1.at_ hlt hk'
            obtain ⟨y0, y1⟩ := HB.out xs[k] (List.getElem_mem hk')
            obtain ⟨b', off', rfl, hbB', hcellL⟩ := hr2.at_ (k := xs[k].toNat) (by omega)
            have hlt' : (k : Int) < (n : Int) := by omega
            have hk0 : (0 : Int) ≤ (k : Int) := by omega
            have HH := fun hp => Bal.getD_some (Bal.find_hit (p := Bal.there ls) hk' HF1.out hp)
            have HS := fun hp => Bal.find_step (p := Bal.there ls) hk' HF1.out hp
            clear hr1 hr2 o_b_4 o_l_4
            cases hv : ls.getD xs[k].toNat false with
            | true =>
              rw [hv] at hcellL
              have HX := Lib.hid (HH (by unfold Bal.there; rw [hv]))
              clear HH HS hv
              have hrE : r = xs[k] := by rw [HF.out]; exact HX.out
              rw [← hrE] at hcell y0 y1 hcellL
              clear hrE
              go_wp2_with fail
              go_ret
              exact ⟨rfl, bw4⟩
            | false =>
              rw [hv] at hcellL
              have HX := Lib.hid (HS (by unfold Bal.there; rw [hv]))
              clear HH HS hv
              generalize xs[k] = y at hcell hcellL y0 y1
              go_wp2_with fail
              go_round
              case rel => exact ⟨k + 1, by omega, by go_num, HX.out⟩
              case measure => simp [intOf]; omega
          · have hlt' : ¬ (k : Int) < (n : Int) := by omega
            have HX := Lib.hid (Bal.getD_none (Bal.find_end (by have := HLN.out; omega) HF1.out))
            have hrE : r = -1 := by rw [HF.out]; exact HX.out
            clear hr1 hr2 o_b_4 o_l_4
            subst hrE
            go_wp2_with fail
            go_ret
            exact ⟨rfl, bw4⟩
      · have hb1 : ((n' : Int) != (n : Int)) = true := by simp; omega
        have h1 := HV.out; rw [hv] at h1; have HV2 := Lib.hid h1; clear h1 hv hnn
        go_wp2_with fail
        refine (quiet_below (HV2.out u3 _ o_b_3.rd)).mono ?_
        rintro e u4 ⟨rfl, hb4⟩
        have hs4 := hb4.size
        have bw4 : Below w.heap.size w u4 := bw3.trans (hb4.mono (by omega))
        have o_b_4 := o_b_3.below hb4
        have o_l_4 := o_l_3.below hb4
        clear o_b_3 o_l_3 bw3
        go_wp2_with fail
        go_ret
        exact ⟨rfl, bw4⟩

set_option maxRecDepth 100000 in
theorem lifted (os : Os) (started : os.Started) (H : Type) (enc : TypeId × Value → H) :
    ReturnsInHanded {} Try.checked os 13 .any (Rows.fnLotsFirstSpec.pre6 enc Try.prog Try.f13 Rows.fnLotsFirstRow.domain false) (Rows.fnLotsFirstSpec.post enc Try.prog Try.f13 false true false false) := by
  refine returnsInHanded_of_change (C := Try.checked) own started (by kernel_rfl) Try.func13
    (ChangeSpec.witness6 (enc := enc) (C := Try.checked) false ⟨#[], #[.slice none 0 0], []⟩ 8 (by kernel_rfl) (by kernel_rfl) (by kernel_rfl) (by kernel_rfl)) ?_
  intro W base args ds gs before hval0 hW hcnd _
  have hval : ∀ (j : Nat) t v, Try.f13.params[j]? = some t → args[j]? = some v → Value.okWide Try.prog W .any base t v := hval0
  have hW' := hW
  obtain ⟨p, q, hA0, hV, rfl, hfz, hnd⟩ := hW
  have hA : DataW.TrodAll enc Try.prog W 0 (fun _ => true) true Try.f13.params.toList args.toList ds p := hA0
  rw [Try.params13] at hA hval
  obtain ⟨v0, vs0, d0, ds0, p0, q0, hargs, rfl, rfl, h0, r0⟩ := trodAll_cons hA
  obtain ⟨rfl, rfl, rfl⟩ := trodAll_nil r0
  obtain rfl : args = #[v0] := by cases args; simp_all
  obtain ⟨rfl, rfl⟩ := trodVars_none hV
  have k0 := h0
  have lt0 : ∀ x ∈ p0, x.block < W.heap.size := by obtain ⟨m, hm⟩ := k0; exact DataW.trod_lt m _ _ _ hm
  obtain ⟨a0, len0, cap0, rfl⟩ := okWide_slice Try.underlying22 (hval 0 22 v0 rfl rfl)
  obtain ⟨z0, w0⟩ : ∃ zs, IsRow .u8 W a0 len0 cap0 zs := by
    obtain ⟨fuel, hf⟩ := h0
    rcases open_ints Try.underlying22 Try.underlying5 (by kernel_rfl) hf with ⟨hcs, _⟩ | ⟨x, l, c, zs, hcs, _, hl, hm, hz, _, hcell, hwz⟩
    · simp [Value.cells] at hcs
      obtain ⟨rfl, rfl, rfl⟩ := hcs
      exact ⟨[], .inl ⟨rfl, rfl, rfl, rfl⟩⟩
    · simp [Value.cells] at hcs
      obtain ⟨rfl, rfl, rfl⟩ := hcs
      exact ⟨zs, .inr ⟨_, rfl, hl, hm, by simpa using hz, hcell, hwz⟩⟩
  clear hA0 hval0
  refine (walk W a0 len0 cap0 z0 w0).mono fun e W' ⟨he, bel⟩ => ?_
  subst he
  exact ⟨_, rfl, _, _, _, [], _, [], hW', trodAll_mk1 (shut_bool Try.underlying4 _), (trodAll_cons_mk (Below.trod laidOut (by kernel_rfl) (of_decide_eq_true (by kernel_rfl)) k0 bel lt0) trodAll_mk0), rfl, bel.frame _, fun h => by cases h⟩

theorem over : Rows.fnLotsFirstRow.holds Try.pinned (OpenSpec.ofChange Rows.fnLotsFirstSpec) :=
  OpenClaim.holds_of_wide 13 Try.f13 rfl rfl rfl rfl rfl rfl rfl ⟨rfl, rfl, rfl, rfl, rfl⟩ rfl rfl rfl rfl rfl (by kernel_rfl) Try.func13 (by kernel_rfl)
    (of_decide_eq_true (by kernel_rfl)) (by unfold Func.isWrapper; first | (rw [if_pos (by decide +kernel)]; kernel_rfl) | (rw [if_neg (by decide +kernel)]; exact ⟨rfl, rfl⟩))
    (fun os started H enc _ => lifted os started H enc)

/-- the statement -/
theorem proved : Rows.FnLotsFirstSaid := over
#print axioms proved
end Go.Proofs.Ytpiajeibfggpiaa.fnLotsFirst
