/- FnFracLessAdd: whatever its arguments are, the law FnFracLessAdd of the given program returns true, and leaves all memory as it was. -/
import Derived.Test.YticfncjhghjanaaKit
import Derived.Test.YticfncjhghjanaaFrLaws
namespace Go.Proofs.Yticfncjhghjanaa.fnFracLessAdd
open Go.ChangeShapes Go.WideShapes Go.ChangeAt Go.RowKit Go.Joins
open Go.ChangeMaps (open_string shut_string)
set_option linter.unusedVariables false

set_option maxHeartbeats 1600000 in
/-- the walk -/
theorem walk (w : World) (a0 : Option Addr) (len0 cap0 : Nat) (z0 : List Int) (w0 : IsRow .u8 w a0 len0 cap0 z0) :
    Calls Try.prog 5 #[.slice a0 len0 cap0] w fun e w' => e = .returned (.bool true) ∧ Below w.heap.size w w' := by
  by_cases hl0 : (1048576 : Int) < (len0 : Int)
  · go_enter Try.func5, Try.ntmps5
    go_wp2_with fail
    go_ret
    exact ⟨rfl, Below.refl _ _⟩
  · go_enter Try.func5, Try.ntmps5
    go_wp2_with fail
    refine (drawFracLess_any _ _ _ _ _ w0).mono ?_
    rintro e u1 ⟨a, b, c, d, rfl, hb1⟩
    cases hL : Frp.less a b c d with
    | false =>
      have HL := Lib.hid hL
      clear hL
      go_wp2_with fail
      refine (bool_at (iFracLess_any a b c d _) HL.out).mono ?_
      rintro e u2 ⟨rfl, hb2⟩
      have hs2 := (Reg.unalloc (Reg.unalloc hb2)).size
      have qA2 := BoxF.made (Reg.unalloc hb2)
      have qB2 := BoxF.made2 hb2
      have bw2 : Below w.heap.size w u2 := hb1.trans ((Reg.unalloc (Reg.unalloc hb2)).mono hb1.size)
      clear hb2 hb1
      obtain ⟨zA, cA0, cA1⟩ := id qA2
      obtain ⟨zB, cB0, cB1⟩ := id qB2
      go_wp2_with fail
      refine (bool_at (sFracLess_any a b c d _) HL.out).mono ?_
      rintro e u3 ⟨rfl, hb3⟩
      have hs3 := hb3.size
      have qA3 := qA2.next hb3
      have qB3 := qB2.next hb3
      have bw3 : Below w.heap.size w u3 := bw2.trans (hb3.mono bw2.size)
      clear hb3 bw2 qA2 qB2 zA cA0 cA1 zB cB0 cB1
      obtain ⟨zA, cA0, cA1⟩ := id qA3
      obtain ⟨zB, cB0, cB1⟩ := id qB3
      go_wp2_with fail
      all_goals
        go_ret
        exact ⟨rfl, bw3⟩
    | true =>
      have hl2 := hL
      unfold Frp.less at hl2
      simp only [Bool.and_eq_true, decide_eq_true_eq] at hl2
      have HLA := Lib.hid (Frp.less_add (Frp.fv_iff.1 hl2.1.1).2.2.1 (Frp.fv_iff.1 hl2.1.2).2.2.1 hl2.2)
      have HL := Lib.hid hL
      clear hL hl2
      go_wp2_with fail
      refine (bool_at (iFracLess_any a b c d _) HL.out).mono ?_
      rintro e u2 ⟨rfl, hb2⟩
      have hs2 := (Reg.unalloc (Reg.unalloc hb2)).size
      have qA2 := BoxF.made (Reg.unalloc hb2)
      have qB2 := BoxF.made2 hb2
      have bw2 : Below w.heap.size w u2 := hb1.trans ((Reg.unalloc (Reg.unalloc hb2)).mono hb1.size)
      clear hb2 hb1
      obtain ⟨zA, cA0, cA1⟩ := id qA2
      obtain ⟨zB, cB0, cB1⟩ := id qB2
      go_wp2_with fail
      refine (bool_at (sFracLess_any a b c d _) HL.out).mono ?_
      rintro e u3 ⟨rfl, hb3⟩
      have hs3 := hb3.size
      have qA3 := qA2.next hb3
      have qB3 := qB2.next hb3
      have bw3 : Below w.heap.size w u3 := bw2.trans (hb3.mono bw2.size)
      clear hb3 bw2 qA2 qB2 zA cA0 cA1 zB cB0 cB1
      obtain ⟨zA, cA0, cA1⟩ := id qA3
      obtain ⟨zB, cB0, cB1⟩ := id qB3
      rcases addR_cases a b 1 2 with hx | ⟨-, -, hx, vx⟩
      · have HX := Lib.hid hx
        clear hx
        obtain ⟨x2, y2, ok2, hy⟩ : ∃ x y ok, addR c d 1 2 = (x, y, ok) := ⟨_, _, _, rfl⟩
        have HY := Lib.hid hy
        clear hy HLA
        go_wp2_with fail
        refine (add_at (iFracAdd_any a b 1 2 _) HX.out).mono ?_
        rintro e u4 ⟨rfl, hb4⟩
        have hs4 := (Reg.unalloc hb4).size
        have qA4 := qA3.next (Reg.unalloc hb4)
        have qB4 := qB3.next (Reg.unalloc hb4)
        have qK4 := BoxF.made hb4
        have bw4 : Below w.heap.size w u4 := bw3.trans ((Reg.unalloc hb4).mono bw3.size)
        clear hb4 bw3 qA3 qB3 zA cA0 cA1 zB cB0 cB1
        obtain ⟨zA, cA0, cA1⟩ := id qA4
        obtain ⟨zB, cB0, cB1⟩ := id qB4
        obtain ⟨zK, cK0, cK1⟩ := id qK4
        go_wp2_with fail
        refine (add_at (iFracAdd_any c d 1 2 _) HY.out).mono ?_
        rintro e u5 ⟨rfl, hb5⟩
        have hs5 := (Reg.unalloc hb5).size
        have qA5 := qA4.next (Reg.unalloc hb5)
        have qB5 := qB4.next (Reg.unalloc hb5)
        have qK5 := qK4.next (Reg.unalloc hb5)
        have qX5 := BoxF.made hb5
        have bw5 : Below w.heap.size w u5 := bw4.trans ((Reg.unalloc hb5).mono bw4.size)
        clear hb5 bw4 qA4 qB4 qK4 zA cA0 cA1 zB cB0 cB1 zK cK0 cK1
        obtain ⟨zA, cA0, cA1⟩ := id qA5
        obtain ⟨zB, cB0, cB1⟩ := id qB5
        obtain ⟨zK, cK0, cK1⟩ := id qK5
        obtain ⟨zX, cX0, cX1⟩ := id qX5
        go_wp2_with fail
        all_goals
          go_ret
          exact ⟨rfl, bw5.alloc bw5.size _⟩
      · have HX := Lib.hid hx
        have VX := Lib.hid vx
        clear hx vx
        rcases addR_cases c d 1 2 with hy | ⟨-, -, hy, vy⟩
        · have HY := Lib.hid hy
          clear hy HLA VX
          generalize Frp.rN (a * 2 + 1 * b) (b * 2) = x1 at *
          generalize Frp.rD (a * 2 + 1 * b) (b * 2) = y1 at *
          go_wp2_with fail
          refine (add_at (iFracAdd_any a b 1 2 _) HX.out).mono ?_
          rintro e u4 ⟨rfl, hb4⟩
          have hs4 := (Reg.unalloc hb4).size
          have qA4 := qA3.next (Reg.unalloc hb4)
          have qB4 := qB3.next (Reg.unalloc hb4)
          have qK4 := BoxF.made hb4
          have bw4 : Below w.heap.size w u4 := bw3.trans ((Reg.unalloc hb4).mono bw3.size)
          clear hb4 bw3 qA3 qB3 zA cA0 cA1 zB cB0 cB1
          obtain ⟨zA, cA0, cA1⟩ := id qA4
          obtain ⟨zB, cB0, cB1⟩ := id qB4
          obtain ⟨zK, cK0, cK1⟩ := id qK4
          go_wp2_with fail
          refine (add_at (iFracAdd_any c d 1 2 _) HY.out).mono ?_
          rintro e u5 ⟨rfl, hb5⟩
          have hs5 := (Reg.unalloc hb5).size
          have qA5 := qA4.next (Reg.unalloc hb5)
          have qB5 := qB4.next (Reg.unalloc hb5)
          have qK5 := qK4.next (Reg.unalloc hb5)
          have qX5 := BoxF.made hb5
          have bw5 : Below w.heap.size w u5 := bw4.trans ((Reg.unalloc hb5).mono bw4.size)
          clear hb5 bw4 qA4 qB4 qK4 zA cA0 cA1 zB cB0 cB1 zK cK0 cK1
          obtain ⟨zA, cA0, cA1⟩ := id qA5
          obtain ⟨zB, cB0, cB1⟩ := id qB5
          obtain ⟨zK, cK0, cK1⟩ := id qK5
          obtain ⟨zX, cX0, cX1⟩ := id qX5
          go_wp2_with fail
          all_goals
            go_ret
            exact ⟨rfl, bw5.alloc bw5.size _⟩
        · have HY := Lib.hid hy
          have HZ := Lib.hid (less_t VX.out vy HLA.out)
          clear hy vy HLA VX
          generalize Frp.rN (a * 2 + 1 * b) (b * 2) = x1 at *
          generalize Frp.rD (a * 2 + 1 * b) (b * 2) = y1 at *
          generalize Frp.rN (c * 2 + 1 * d) (d * 2) = x2 at *
          generalize Frp.rD (c * 2 + 1 * d) (d * 2) = y2 at *
          go_wp2_with fail
          refine (add_at (iFracAdd_any a b 1 2 _) HX.out).mono ?_
          rintro e u4 ⟨rfl, hb4⟩
          have hs4 := (Reg.unalloc hb4).size
          have qA4 := qA3.next (Reg.unalloc hb4)
          have qB4 := qB3.next (Reg.unalloc hb4)
          have qK4 := BoxF.made hb4
          have bw4 : Below w.heap.size w u4 := bw3.trans ((Reg.unalloc hb4).mono bw3.size)
          clear hb4 bw3 qA3 qB3 zA cA0 cA1 zB cB0 cB1
          obtain ⟨zA, cA0, cA1⟩ := id qA4
          obtain ⟨zB, cB0, cB1⟩ := id qB4
          obtain ⟨zK, cK0, cK1⟩ := id qK4
          go_wp2_with fail
          refine (add_at (iFracAdd_any c d 1 2 _) HY.out).mono ?_
          rintro e u5 ⟨rfl, hb5⟩
          have hs5 := (Reg.unalloc hb5).size
          have qA5 := qA4.next (Reg.unalloc hb5)
          have qB5 := qB4.next (Reg.unalloc hb5)
          have qK5 := qK4.next (Reg.unalloc hb5)
          have qX5 := BoxF.made hb5
          have bw5 : Below w.heap.size w u5 := bw4.trans ((Reg.unalloc hb5).mono bw4.size)
          clear hb5 bw4 qA4 qB4 qK4 zA cA0 cA1 zB cB0 cB1 zK cK0 cK1
          obtain ⟨zA, cA0, cA1⟩ := id qA5
          obtain ⟨zB, cB0, cB1⟩ := id qB5
          obtain ⟨zK, cK0, cK1⟩ := id qK5
          obtain ⟨zX, cX0, cX1⟩ := id qX5
          go_wp2_with fail
          refine (bool_at (iFracLess_any x1 y1 x2 y2 _) HZ.out).mono ?_
          rintro e u6 ⟨rfl, hb6⟩
          have hs6 := (Reg.unalloc hb6).size
          have qA6 := qA5.next (Reg.unalloc hb6)
          have qB6 := qB5.next (Reg.unalloc hb6)
          have qK6 := qK5.next (Reg.unalloc hb6)
          have qX6 := qX5.next (Reg.unalloc hb6)
          have qY6 := BoxF.made hb6
          have bw6 : Below w.heap.size w u6 := bw5.trans ((Reg.unalloc hb6).mono bw5.size)
          clear hb6 bw5 qA5 qB5 qK5 qX5 zA cA0 cA1 zB cB0 cB1 zK cK0 cK1 zX cX0 cX1
          obtain ⟨zA, cA0, cA1⟩ := id qA6
          obtain ⟨zB, cB0, cB1⟩ := id qB6
          obtain ⟨zK, cK0, cK1⟩ := id qK6
          obtain ⟨zX, cX0, cX1⟩ := id qX6
          obtain ⟨zY, cY0, cY1⟩ := id qY6
          go_wp2_with fail
          all_goals
            go_ret
            exact ⟨rfl, bw6⟩

set_option maxRecDepth 100000 in
theorem lifted (os : Os) (started : os.Started) (H : Type) (enc : TypeId × Value → H) :
    ReturnsInHanded {} Try.checked os 5 .any (Rows.fnFracLessAddSpec.pre6 enc Try.prog Try.f5 Rows.fnFracLessAddRow.domain false) (Rows.fnFracLessAddSpec.post enc Try.prog Try.f5 false true false false) := by
  refine returnsInHanded_of_change (C := Try.checked) own started (by kernel_rfl) Try.func5
    (ChangeSpec.witness6 (enc := enc) (C := Try.checked) false ⟨#[], #[.slice none 0 0], []⟩ 8 (by kernel_rfl) (by kernel_rfl) (by kernel_rfl) (by kernel_rfl)) ?_
  intro W base args ds gs before hval0 hW hcnd _
  have hval : ∀ (j : Nat) t v, Try.f5.params[j]? = some t → args[j]? = some v → Value.okWide Try.prog W .any base t v := hval0
  have hW' := hW
  obtain ⟨p, q, hA0, hV, rfl, hfz, hnd⟩ := hW
  have hA : DataW.TrodAll enc Try.prog W 0 (fun _ => true) true Try.f5.params.toList args.toList ds p := hA0
  rw [Try.params5] at hA hval
  obtain ⟨v0, vs0, d0, ds0, p0, q0, hargs, rfl, rfl, h0, r0⟩ := trodAll_cons hA
  obtain ⟨rfl, rfl, rfl⟩ := trodAll_nil r0
  obtain rfl : args = #[v0] := by cases args; simp_all
  obtain ⟨rfl, rfl⟩ := trodVars_none hV
  have k0 := h0
  have lt0 : ∀ x ∈ p0, x.block < W.heap.size := by obtain ⟨m, hm⟩ := k0; exact DataW.trod_lt m _ _ _ hm
  obtain ⟨a0, len0, cap0, rfl⟩ := okWide_slice Try.underlying22 (hval 0 22 v0 rfl rfl)
  obtain ⟨z0, w0⟩ : ∃ zs, IsRow .u8 W a0 len0 cap0 zs := by
    obtain ⟨fuel, hf⟩ := h0
    rcases open_ints Try.underlying22 Try.underlying5 (by kernel_rfl) hf with ⟨hcs, _⟩ | ⟨x, l, c, zs, hcs, _, hl, hm, hz, _, hcell, hwz⟩
    · simp [Value.cells] at hcs
      obtain ⟨rfl, rfl, rfl⟩ := hcs
      exact ⟨[], .inl ⟨rfl, rfl, rfl, rfl⟩⟩
    · simp [Value.cells] at hcs
      obtain ⟨rfl, rfl, rfl⟩ := hcs
      exact ⟨zs, .inr ⟨_, rfl, hl, hm, by simpa using hz, hcell, hwz⟩⟩
  clear hA0 hval0
  refine (walk W a0 len0 cap0 z0 w0).mono fun e W' ⟨he, bel⟩ => ?_
  subst he
  exact ⟨_, rfl, _, _, _, [], _, [], hW', trodAll_mk1 (shut_bool Try.underlying4 _), (trodAll_cons_mk (Below.trod laidOut (by kernel_rfl) (of_decide_eq_true (by kernel_rfl)) k0 bel lt0) trodAll_mk0), rfl, bel.frame _, fun h => by cases h⟩

theorem over : Rows.fnFracLessAddRow.holds Try.pinned (OpenSpec.ofChange Rows.fnFracLessAddSpec) :=
  OpenClaim.holds_of_wide 5 Try.f5 rfl rfl rfl rfl rfl rfl rfl ⟨rfl, rfl, rfl, rfl, rfl⟩ rfl rfl rfl rfl rfl (by kernel_rfl) Try.func5 (by kernel_rfl)
    (of_decide_eq_true (by kernel_rfl)) (by unfold Func.isWrapper; first | (rw [if_pos (by decide +kernel)]; kernel_rfl) | (rw [if_neg (by decide +kernel)]; exact ⟨rfl, rfl⟩))
    (fun os started H enc _ => lifted os started H enc)

/-- the statement -/
theorem proved : Rows.FnFracLessAddSaid := over
#print axioms proved
end Go.Proofs.Yticfncjhghjanaa.fnFracLessAdd
