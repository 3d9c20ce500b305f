/- FnLotsPart: whatever its arguments are, the law FnLotsPart of the given program returns true, and leaves all memory as it was. -/
import Derived.Test.YtpiajeibfggpiaaKit
import Derived.Test.YtpiajeibfggpiaaLawKit
import Derived.Test.YtpiajeibfggpiaaDraws
import Derived.Test.YtpiajeibfggpiaaLotFacts
namespace Go.Proofs.Ytpiajeibfggpiaa.fnLotsPart
open Go.ChangeShapes Go.WideShapes Go.ChangeAt Go.RowKit Go.Joins
open Go.ChangeMaps (open_string shut_string)
set_option linter.unusedVariables false

set_option maxHeartbeats 6400000 in
/-- the walk -/
theorem walk (w : World) (a0 : Option Addr) (len0 cap0 : Nat) (z0 : List Int) (w0 : IsRow .u8 w a0 len0 cap0 z0) :
    Calls Try.prog 6 #[.slice a0 len0 cap0] w fun e w' => e = .returned (.bool true) ∧ Below w.heap.size w w' := by
  by_cases hl0 : (1048576 : Int) < (len0 : Int)
  · go_enter Try.func6, Try.ntmps6
    go_wp2_with fail
    go_ret
    exact ⟨rfl, Below.refl _ _⟩
  · have hs0_ : len0 ≤ 1048576 := by omega
    go_enter Try.func6, Try.ntmps6
    go_wp2_with fail
    refine (drawLotsValid_any a0 len0 cap0 z0 w w0).mono ?_
    rintro e u1 ⟨A, n, c, xs, rfl, ho, hn, hb1⟩
    have hs1 := hb1.size
    have bw1 : Below w.heap.size w u1 := hb1.mono (by omega)
    obtain ⟨hc1, hc2⟩ := ho.cap
    have hBw : w.heap.size ≤ w.heap.size := Nat.le_refl _
    have HLN := Lib.hid ho.len
    have o_b_1 := ho
    clear ho
    have HI := Lib.hid (fun u B (h : RdI u B A n xs) => iLotsValid_any A n c xs u B h hc1 (by omega) hc2)
    have HSP := Lib.hid (fun u B (h : RdI u B A n xs) => sLotsValid_any A n c xs u B h hc1 (by omega) hc2)
    cases hv : Bal.bv xs (n : Int) with
    | false =>
      have h1 := HI.out; rw [hv] at h1; have H1 := Lib.hid h1
      have h2 := HSP.out; rw [hv] at h2; have H2 := Lib.hid h2
      clear h1 h2 hv
      go_wp2_with fail
      refine (same_below (H1.out u1 _ o_b_1.rd)).mono ?_
      rintro e u2 ⟨rfl, hb2⟩
      have hs2 := hb2.size
      have bw2 : Below w.heap.size w u2 := bw1.trans (hb2.mono (by omega))
      have o_b_2 := o_b_1.below hb2
      clear o_b_1 bw1
      go_wp2_with fail
      refine (quiet_below (H2.out u2 _ o_b_2.rd)).mono ?_
      rintro e u3 ⟨rfl, hb3⟩
      have hs3 := hb3.size
      have bw3 : Below w.heap.size w u3 := bw2.trans (hb3.mono (by omega))
      have o_b_3 := o_b_2.below hb3
      clear o_b_2 bw2
      go_wp2_with fail
      go_ret
      exact ⟨rfl, bw3⟩
    | true =>
      have h1 := HI.out; rw [hv] at h1; have H1 := Lib.hid h1
      have h2 := HSP.out; rw [hv] at h2; have H2 := Lib.hid h2
      have HVV := Lib.hid hv
      clear h1 h2 hv HI HSP
      go_wp2_with fail
      refine (same_below (H1.out u1 _ o_b_1.rd)).mono ?_
      rintro e u2 ⟨rfl, hb2⟩
      have hs2 := hb2.size
      have bw2 : Below w.heap.size w u2 := bw1.trans (hb2.mono (by omega))
      have o_b_2 := o_b_1.below hb2
      clear o_b_1 bw1
      go_wp2_with fail
      refine (quiet_below (H2.out u2 _ o_b_2.rd)).mono ?_
      rintro e u3 ⟨rfl, hb3⟩
      have hs3 := hb3.size
      have bw3 : Below w.heap.size w u3 := bw2.trans (hb3.mono (by omega))
      have o_b_3 := o_b_2.below hb3
      clear o_b_2 bw2
      by_cases hn2 : (n : Int) < 2
      · skip
        go_wp2_with fail
        go_ret
        exact ⟨rfl, bw3⟩
      · skip
        have hn0 : 0 < n := by omega
        have hs1i : IntKind.i64.wrap ((n : Int) - 1) = (n : Int) - 1 := IntWalk.i64_in _ (by omega)
        obtain ⟨gb, rfl, hgB, hgl, hcell⟩ := o_b_3.at_ hn0
        have hy := (hcell 0 hn0).1
        have HY0 : Hid (xs.getD 0 0 = xs.getD 0 0) := Lib.hid rfl
        obtain ⟨y, hyy⟩ : ∃ y, xs.getD 0 0 = y := ⟨_, rfl⟩
        rw [hyy] at hy
        have HYY := Lib.hid hyy
        have hi0 : (0 : Int) ≤ (n : Int) - 1 := by omega
        have hic : (n : Int) - 1 ≤ (c : Int) := by omega
        have hnI : (n : Int) ≤ (c : Int) := by omega
        have h0n : (0 : Int) < (n : Int) := by omega
        have h1n : (1 : Int) ≤ (n : Int) := by omega
        have hnc1 : (n : Int) ≤ (c : Int) + 1 := by omega
        have et : ((n : Int) - 1).toNat = n - 1 := by omega
        have tok1 : True := trivial
        have tok2 : True := trivial
        have hgl2 : ¬ gb = u3.heap.size := by omega
        clear hcell hyy
        go_wp2_with fail
        go_region_law (first | (have _t := tok1; refine step_appN (by rfl) _ _ (by rfl) (B := u3.heap.size) (n := 0) (c := 0) (xs := []) (ys := xs.take (n - 1)) (by rfl) _ (n - 1) _ (by rfl) (by first | exact OwA.empty u3 _ (Nat.le_refl _) | exact (OwA.empty u3 _ (Nat.le_refl _)).alloc _ | (have hq := OwA.empty (u3.alloc (.cells #[Value.int .i64 y] 3)) u3.heap.size (by simp); simp only [World.size_alloc] at hq; exact hq)) (by simp; have := HLN.out; omega) (by first | exact src_take (o_b_3.alloc _).rd (n - 1) (by omega) | exact src_take ((o_b_3.alloc _).alloc _).rd (n - 1) (by omega)) (n - 1) (by omega) (by omega) (by first | (simp; omega) | simp) ?_; clear tok1; intro A3 c3 w3 ho3 hb3 hgr3 _; have hbx : Below u3.heap.size u3 w3 := Below.trans (by go_grown) hb3; have O3 := o_b_3.below hbx; have hz3 := hbx.size; have hy3 : w3.cell? ⟨gb, 0, none⟩ = some (.int .i64 y) := (hbx.cell (p := ⟨gb, 0, none⟩) hgl).trans hy; rw [List.nil_append] at ho3) | (have _t := tok2; refine step_app1 (by rfl) _ _ (by rfl) (B := u3.heap.size) (xs := xs.take (n - 1)) (y := y) (by rfl) _ _ (by rfl) (by first | exact ho3.alloc _ | exact ho3) (by first | (simp [go_sem]; done) | (refine Eq.trans ((gcell hgr3).1 _ _ ?_ ?_) ?_ <;> simp [go_sem])) (by omega) (by first | exact hz3 | (simp; omega)) ?_; clear tok2; intro A4 c4 w4 ho4 hb4 _ _; have hby : Below u3.heap.size u3 w4 := hbx.trans (Below.trans (by go_grown) hb4); have hz4 := hby.size))
        all_goals
          have O4 := o_b_3.below hby
          have hE := OwA.empty w4 w4.heap.size (Nat.le_refl _)
          have HE := Lib.hid hE
          have HX4 := Lib.hid ho4
          clear hE ho4 ho3
          go_wp2_with fail
          go_loopw [8, 9] (fun v i wr => ∃ (j l : Nat) (A' : Option Addr) (c' : Nat), j ≤ n ∧ l + j = n ∧ i = .int .i64 ((j : Int) - 1) ∧ v = .slice A' l c' ∧ OwA wr w4.heap.size A' l c' (xs.drop j).reverse ∧ Below w4.heap.size w4 wr) (fun _ i _ => (intOf i + 1).toNat)
          case atStart => exact ⟨n, 0, _, _, Nat.le_refl _, by omega, rfl, rfl, by rw [List.drop_of_length_le (by have := HLN.out; omega)]; exact HE.out, (Below.refl _ _).alloc (Nat.le_refl _) _⟩
          case round =>
            obtain ⟨j, l, A', c', hj, hlj, rfl, rfl, ho, hb⟩ := hrel
            have HO := Lib.hid ho
            clear ho
            have hBs := hb.size
            by_cases hj0 : 0 < j
            · have hj1 : (0 : Int) ≤ (j : Int) - 1 := by omega
              have hj2 : (j : Int) - 1 < (n : Int) := by omega
              have ej : ((j : Int) - 1).toNat = j - 1 := by omega
              have hO := O4.below hb
              obtain ⟨gb', hgb', _, _, hcell⟩ := hO.at_ hn0
              have e2 : gb' = gb := by injection hgb' with e; injection e with e3; exact e3.symm
              subst e2
              have hc := (hcell (j - 1) (by omega)).1
              have hr : (xs.drop j).reverse ++ [xs.getD (j - 1) 0] = (xs.drop (j - 1)).reverse := by
                have h1 : xs.drop (j - 1) = xs[j - 1]'(by have := HLN.out; omega) :: xs.drop j := by
                  have h2 := List.getElem_cons_drop (show j - 1 < xs.length by have := HLN.out; omega)
                  rw [show j - 1 + 1 = j by omega] at h2
                  exact h2.symm
                rw [h1, List.reverse_cons, List.getD_eq_getElem?_getD, List.getElem?_eq_getElem (by have := HLN.out; omega)]
                rfl
              have HR := Lib.hid hr
              generalize xs.getD (j - 1) 0 = z at hc HR
              clear hcell hgb' hr hO
              go_wp2_with (at_builtin; refine wpList_app1 (by rfl) _ _ (by rfl) _ w4.heap.size A' l c' _ _ (by rfl) HO.out (by rfl) (by omega) hBs ?_)
              intro g5 c5 w5 ho5 hb5 _ _
              have hb6 := hb.trans hb5
              rw [HR.out] at ho5
              have HO5 := Lib.hid ho5
              clear ho5 hb5 hb
              go_wp2_with fail
              go_roundw
              case rel => exact ⟨j - 1, l + 1, _, _, by omega, by omega, by (have e9 : ((j : Int) - 1 - 1) = (((j - 1 : Nat) : Int) - 1) := (by omega)); rw [e9], rfl, HO5.out, hb6⟩
              case measure => simp [intOf]; omega
            · obtain rfl : j = 0 := by omega
              obtain rfl : n = l := by omega
              have hb7 : Below u3.heap.size u3 wr := hby.trans (hb.mono hz4)
              have bwz : Below w.heap.size w wr := bw3.trans (hb7.mono (by have := bw3.size; omega))
              have hx := (HX4.out).below hb
              obtain ⟨k1, k2⟩ := hx.cap
              obtain ⟨k3, k4⟩ := HO.out.cap
              have hX := iLotsValid_any A4 (n - 1 + 1) c4 _ wr _ hx.rd k1 (by omega) k2
              have hyx : y = xs[0]'(by have := HLN.out; omega) := by rw [← HYY.out, List.getD_eq_getElem?_getD, List.getElem?_eq_getElem (by have := HLN.out; omega)]; rfl
              rw [hyx, Bal.bv_again (by omega) (by have := HLN.out; omega)] at hX
              have HXX := Lib.hid hX
              have hY := iLotsValid_any A' n c' _ wr _ HO.out.rd k3 (by omega) k4
              rw [List.drop_zero, Bal.bv_rev HVV.out] at hY
              have HYY2 := Lib.hid hY
              clear hX hY hyx hs1i et hy
              go_wp2_with fail
              refine HXX.out.mono ?_
              rintro e v1 ⟨rfl, rfl⟩
              go_wp2_with fail
              refine HYY2.out.mono ?_
              rintro e v1 ⟨rfl, rfl⟩
              go_wp2_with fail
              go_ret
              exact ⟨rfl, bwz⟩

set_option maxRecDepth 100000 in
theorem lifted (os : Os) (started : os.Started) (H : Type) (enc : TypeId × Value → H) :
    ReturnsInHanded {} Try.checked os 6 .any (Rows.fnLotsPartSpec.pre6 enc Try.prog Try.f6 Rows.fnLotsPartRow.domain false) (Rows.fnLotsPartSpec.post enc Try.prog Try.f6 false true false false) := by
  refine returnsInHanded_of_change (C := Try.checked) own started (by kernel_rfl) Try.func6
    (ChangeSpec.witness6 (enc := enc) (C := Try.checked) false ⟨#[], #[.slice none 0 0], []⟩ 8 (by kernel_rfl) (by kernel_rfl) (by kernel_rfl) (by kernel_rfl)) ?_
  intro W base args ds gs before hval0 hW hcnd _
  have hval : ∀ (j : Nat) t v, Try.f6.params[j]? = some t → args[j]? = some v → Value.okWide Try.prog W .any base t v := hval0
  have hW' := hW
  obtain ⟨p, q, hA0, hV, rfl, hfz, hnd⟩ := hW
  have hA : DataW.TrodAll enc Try.prog W 0 (fun _ => true) true Try.f6.params.toList args.toList ds p := hA0
  rw [Try.params6] at hA hval
  obtain ⟨v0, vs0, d0, ds0, p0, q0, hargs, rfl, rfl, h0, r0⟩ := trodAll_cons hA
  obtain ⟨rfl, rfl, rfl⟩ := trodAll_nil r0
  obtain rfl : args = #[v0] := by cases args; simp_all
  obtain ⟨rfl, rfl⟩ := trodVars_none hV
  have k0 := h0
  have lt0 : ∀ x ∈ p0, x.block < W.heap.size := by obtain ⟨m, hm⟩ := k0; exact DataW.trod_lt m _ _ _ hm
  obtain ⟨a0, len0, cap0, rfl⟩ := okWide_slice Try.underlying22 (hval 0 22 v0 rfl rfl)
  obtain ⟨z0, w0⟩ : ∃ zs, IsRow .u8 W a0 len0 cap0 zs := by
    obtain ⟨fuel, hf⟩ := h0
    rcases open_ints Try.underlying22 Try.underlying5 (by kernel_rfl) hf with ⟨hcs, _⟩ | ⟨x, l, c, zs, hcs, _, hl, hm, hz, _, hcell, hwz⟩
    · simp [Value.cells] at hcs
      obtain ⟨rfl, rfl, rfl⟩ := hcs
      exact ⟨[], .inl ⟨rfl, rfl, rfl, rfl⟩⟩
    · simp [Value.cells] at hcs
      obtain ⟨rfl, rfl, rfl⟩ := hcs
      exact ⟨zs, .inr ⟨_, rfl, hl, hm, by simpa using hz, hcell, hwz⟩⟩
  clear hA0 hval0
  refine (walk W a0 len0 cap0 z0 w0).mono fun e W' ⟨he, bel⟩ => ?_
  subst he
  exact ⟨_, rfl, _, _, _, [], _, [], hW', trodAll_mk1 (shut_bool Try.underlying4 _), (trodAll_cons_mk (Below.trod laidOut (by kernel_rfl) (of_decide_eq_true (by kernel_rfl)) k0 bel lt0) trodAll_mk0), rfl, bel.frame _, fun h => by cases h⟩

theorem over : Rows.fnLotsPartRow.holds Try.pinned (OpenSpec.ofChange Rows.fnLotsPartSpec) :=
  OpenClaim.holds_of_wide 6 Try.f6 rfl rfl rfl rfl rfl rfl rfl ⟨rfl, rfl, rfl, rfl, rfl⟩ rfl rfl rfl rfl rfl (by kernel_rfl) Try.func6 (by kernel_rfl)
    (of_decide_eq_true (by kernel_rfl)) (by unfold Func.isWrapper; first | (rw [if_pos (by decide +kernel)]; kernel_rfl) | (rw [if_neg (by decide +kernel)]; exact ⟨rfl, rfl⟩))
    (fun os started H enc _ => lifted os started H enc)

/-- the statement -/
theorem proved : Rows.FnLotsPartSaid := over
#print axioms proved
end Go.Proofs.Ytpiajeibfggpiaa.fnLotsPart
