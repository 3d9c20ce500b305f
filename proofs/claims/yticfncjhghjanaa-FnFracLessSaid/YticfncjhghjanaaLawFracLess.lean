/- FnFracLess: whatever its arguments are, the law FnFracLess of the given program returns true, and leaves all memory as it was. -/
import Derived.Test.YticfncjhghjanaaKit
import Derived.Test.YticfncjhghjanaaFrLaws
namespace Go.Proofs.Yticfncjhghjanaa.fnFracLess
open Go.ChangeShapes Go.WideShapes Go.ChangeAt Go.RowKit Go.Joins
open Go.ChangeMaps (open_string shut_string)
set_option linter.unusedVariables false

set_option maxHeartbeats 3200000 in
/-- the walk -/
theorem walk (w : World) (a0 : Option Addr) (len0 cap0 : Nat) (z0 : List Int) (w0 : IsRow .u8 w a0 len0 cap0 z0) :
    Calls Try.prog 4 #[.slice a0 len0 cap0] w fun e w' => e = .returned (.bool true) ∧ Below w.heap.size w w' := by
  by_cases hl0 : (1048576 : Int) < (len0 : Int)
  · go_enter Try.func4, Try.ntmps4
    go_wp2_with fail
    go_ret
    exact ⟨rfl, Below.refl _ _⟩
  · go_enter Try.func4, Try.ntmps4
    go_wp2_with fail
    refine (drawFracLess_any _ _ _ _ _ w0).mono ?_
    rintro e u1 ⟨a, b, c, d, rfl, hb1⟩
    cases h1 : Frp.fv a b with
    | false =>
      have H1 := Lib.hid h1
      have HL0 := less_f1 (c := c) (d := d) h1
      clear h1
      have HL := Lib.hid (HL0)
      go_wp2_with fail
      refine (bool_at (iFracLess_any a b c d _) HL.out).mono ?_
      rintro e u2 ⟨rfl, hb2⟩
      have hs2 := (Reg.unalloc (Reg.unalloc hb2)).size
      have qA2 := BoxF.made (Reg.unalloc hb2)
      have qB2 := BoxF.made2 hb2
      have bw2 : Below w.heap.size w u2 := hb1.trans ((Reg.unalloc (Reg.unalloc hb2)).mono hb1.size)
      clear hb2 hb1
      obtain ⟨zA, cA0, cA1⟩ := id qA2
      obtain ⟨zB, cB0, cB1⟩ := id qB2
      go_wp2_with fail
      refine (bool_at (sFracLess_any a b c d _) HL.out).mono ?_
      rintro e u3 ⟨rfl, hb3⟩
      have hs3 := hb3.size
      have qA3 := qA2.next hb3
      have qB3 := qB2.next hb3
      have bw3 : Below w.heap.size w u3 := bw2.trans (hb3.mono bw2.size)
      clear hb3 bw2 qA2 qB2 zA cA0 cA1 zB cB0 cB1
      obtain ⟨zA, cA0, cA1⟩ := id qA3
      obtain ⟨zB, cB0, cB1⟩ := id qB3
      go_wp2_with fail
      refine (bool_at (sFracValid_any a b _) H1.out).mono ?_
      rintro e u4 ⟨rfl, hb4⟩
      have hs4 := hb4.size
      have qA4 := qA3.next hb4
      have qB4 := qB3.next hb4
      have bw4 : Below w.heap.size w u4 := bw3.trans (hb4.mono bw3.size)
      clear hb4 bw3 qA3 qB3 zA cA0 cA1 zB cB0 cB1
      obtain ⟨zA, cA0, cA1⟩ := id qA4
      obtain ⟨zB, cB0, cB1⟩ := id qB4
      go_wp2_with fail
      all_goals
        go_ret
        exact ⟨rfl, bw4⟩
    | true =>
      cases h2 : Frp.fv c d with
      | false =>
        have H1 := Lib.hid h1
        have H2 := Lib.hid h2
        have HL0 := less_f2 (a := a) (b := b) h2
        clear h1 h2
        have HL := Lib.hid (HL0)
        go_wp2_with fail
        refine (bool_at (iFracLess_any a b c d _) HL.out).mono ?_
        rintro e u2 ⟨rfl, hb2⟩
        have hs2 := (Reg.unalloc (Reg.unalloc hb2)).size
        have qA2 := BoxF.made (Reg.unalloc hb2)
        have qB2 := BoxF.made2 hb2
        have bw2 : Below w.heap.size w u2 := hb1.trans ((Reg.unalloc (Reg.unalloc hb2)).mono hb1.size)
        clear hb2 hb1
        obtain ⟨zA, cA0, cA1⟩ := id qA2
        obtain ⟨zB, cB0, cB1⟩ := id qB2
        go_wp2_with fail
        refine (bool_at (sFracLess_any a b c d _) HL.out).mono ?_
        rintro e u3 ⟨rfl, hb3⟩
        have hs3 := hb3.size
        have qA3 := qA2.next hb3
        have qB3 := qB2.next hb3
        have bw3 : Below w.heap.size w u3 := bw2.trans (hb3.mono bw2.size)
        clear hb3 bw2 qA2 qB2 zA cA0 cA1 zB cB0 cB1
        obtain ⟨zA, cA0, cA1⟩ := id qA3
        obtain ⟨zB, cB0, cB1⟩ := id qB3
        go_wp2_with fail
        refine (bool_at (sFracValid_any a b _) H1.out).mono ?_
        rintro e u4 ⟨rfl, hb4⟩
        have hs4 := hb4.size
        have qA4 := qA3.next hb4
        have qB4 := qB3.next hb4
        have bw4 : Below w.heap.size w u4 := bw3.trans (hb4.mono bw3.size)
        clear hb4 bw3 qA3 qB3 zA cA0 cA1 zB cB0 cB1
        obtain ⟨zA, cA0, cA1⟩ := id qA4
        obtain ⟨zB, cB0, cB1⟩ := id qB4
        go_wp2_with fail
        refine (bool_at (sFracValid_any c d _) H2.out).mono ?_
        rintro e u5 ⟨rfl, hb5⟩
        have hs5 := hb5.size
        have qA5 := qA4.next hb5
        have qB5 := qB4.next hb5
        have bw5 : Below w.heap.size w u5 := bw4.trans (hb5.mono bw4.size)
        clear hb5 bw4 qA4 qB4 zA cA0 cA1 zB cB0 cB1
        obtain ⟨zA, cA0, cA1⟩ := id qA5
        obtain ⟨zB, cB0, cB1⟩ := id qB5
        go_wp2_with fail
        all_goals
          go_ret
          exact ⟨rfl, bw5⟩
      | true =>
        have hF1 := Frp.fv_iff.1 h1
        have hF2 := Frp.fv_iff.1 h2
        have hor := Frp.less_or hF1 hF2
        have H1 := Lib.hid h1
        have H2 := Lib.hid h2
        by_cases lt : a * d < c * b
        · have nlt : ¬ c * b < a * d := by omega
          have HL0 := less_t h1 h2 lt
          have HB := Lib.hid (less_f (a := c) (b := d) (c := a) (d := b) nlt)
          rw [decide_eq_true lt] at hor
          simp at hor
          have hne : ¬ (a = c ∧ b = d) := fun h => hor h.1 h.2
          clear hor lt nlt h1 h2 hF1 hF2
          have HL := Lib.hid HL0
          clear HL0
          go_wp2_with fail
          refine (bool_at (iFracLess_any a b c d _) HL.out).mono ?_
          rintro e u2 ⟨rfl, hb2⟩
          have hs2 := (Reg.unalloc (Reg.unalloc hb2)).size
          have qA2 := BoxF.made (Reg.unalloc hb2)
          have qB2 := BoxF.made2 hb2
          have bw2 : Below w.heap.size w u2 := hb1.trans ((Reg.unalloc (Reg.unalloc hb2)).mono hb1.size)
          clear hb2 hb1
          obtain ⟨zA, cA0, cA1⟩ := id qA2
          obtain ⟨zB, cB0, cB1⟩ := id qB2
          go_wp2_with fail
          refine (bool_at (sFracLess_any a b c d _) HL.out).mono ?_
          rintro e u3 ⟨rfl, hb3⟩
          have hs3 := hb3.size
          have qA3 := qA2.next hb3
          have qB3 := qB2.next hb3
          have bw3 : Below w.heap.size w u3 := bw2.trans (hb3.mono bw2.size)
          clear hb3 bw2 qA2 qB2 zA cA0 cA1 zB cB0 cB1
          obtain ⟨zA, cA0, cA1⟩ := id qA3
          obtain ⟨zB, cB0, cB1⟩ := id qB3
          go_wp2_with fail
          refine (bool_at (sFracValid_any a b _) H1.out).mono ?_
          rintro e u4 ⟨rfl, hb4⟩
          have hs4 := hb4.size
          have qA4 := qA3.next hb4
          have qB4 := qB3.next hb4
          have bw4 : Below w.heap.size w u4 := bw3.trans (hb4.mono bw3.size)
          clear hb4 bw3 qA3 qB3 zA cA0 cA1 zB cB0 cB1
          obtain ⟨zA, cA0, cA1⟩ := id qA4
          obtain ⟨zB, cB0, cB1⟩ := id qB4
          go_wp2_with fail
          refine (bool_at (sFracValid_any c d _) H2.out).mono ?_
          rintro e u5 ⟨rfl, hb5⟩
          have hs5 := hb5.size
          have qA5 := qA4.next hb5
          have qB5 := qB4.next hb5
          have bw5 : Below w.heap.size w u5 := bw4.trans (hb5.mono bw4.size)
          clear hb5 bw4 qA4 qB4 zA cA0 cA1 zB cB0 cB1
          obtain ⟨zA, cA0, cA1⟩ := id qA5
          obtain ⟨zB, cB0, cB1⟩ := id qB5
          go_wp2_with fail
          refine (bool_at (iFracLess_any c d a b _) HB.out).mono ?_
          rintro e u6 ⟨rfl, hb6⟩
          have hs6 := hb6.size
          have qA6 := qA5.next hb6
          have qB6 := qB5.next hb6
          have bw6 : Below w.heap.size w u6 := bw5.trans (hb6.mono bw5.size)
          clear hb6 bw5 qA5 qB5 zA cA0 cA1 zB cB0 cB1
          obtain ⟨zA, cA0, cA1⟩ := id qA6
          obtain ⟨zB, cB0, cB1⟩ := id qB6
          go_wp2_with fail
          all_goals
            go_ret
            exact ⟨rfl, bw6⟩
        · by_cases gt : c * b < a * d
          · have HL0 := less_f (a := a) (b := b) (c := c) (d := d) lt
            have HB := Lib.hid (less_t h2 h1 gt)
            rw [decide_eq_true gt] at hor
            simp at hor
            have hne : ¬ (a = c ∧ b = d) := fun h => hor h.1 h.2
            clear hor lt gt h1 h2 hF1 hF2
            have HL := Lib.hid HL0
            clear HL0
            go_wp2_with fail
            refine (bool_at (iFracLess_any a b c d _) HL.out).mono ?_
            rintro e u2 ⟨rfl, hb2⟩
            have hs2 := (Reg.unalloc (Reg.unalloc hb2)).size
            have qA2 := BoxF.made (Reg.unalloc hb2)
            have qB2 := BoxF.made2 hb2
            have bw2 : Below w.heap.size w u2 := hb1.trans ((Reg.unalloc (Reg.unalloc hb2)).mono hb1.size)
            clear hb2 hb1
            obtain ⟨zA, cA0, cA1⟩ := id qA2
            obtain ⟨zB, cB0, cB1⟩ := id qB2
            go_wp2_with fail
            refine (bool_at (sFracLess_any a b c d _) HL.out).mono ?_
            rintro e u3 ⟨rfl, hb3⟩
            have hs3 := hb3.size
            have qA3 := qA2.next hb3
            have qB3 := qB2.next hb3
            have bw3 : Below w.heap.size w u3 := bw2.trans (hb3.mono bw2.size)
            clear hb3 bw2 qA2 qB2 zA cA0 cA1 zB cB0 cB1
            obtain ⟨zA, cA0, cA1⟩ := id qA3
            obtain ⟨zB, cB0, cB1⟩ := id qB3
            go_wp2_with fail
            refine (bool_at (sFracValid_any a b _) H1.out).mono ?_
            rintro e u4 ⟨rfl, hb4⟩
            have hs4 := hb4.size
            have qA4 := qA3.next hb4
            have qB4 := qB3.next hb4
            have bw4 : Below w.heap.size w u4 := bw3.trans (hb4.mono bw3.size)
            clear hb4 bw3 qA3 qB3 zA cA0 cA1 zB cB0 cB1
            obtain ⟨zA, cA0, cA1⟩ := id qA4
            obtain ⟨zB, cB0, cB1⟩ := id qB4
            go_wp2_with fail
            refine (bool_at (sFracValid_any c d _) H2.out).mono ?_
            rintro e u5 ⟨rfl, hb5⟩
            have hs5 := hb5.size
            have qA5 := qA4.next hb5
            have qB5 := qB4.next hb5
            have bw5 : Below w.heap.size w u5 := bw4.trans (hb5.mono bw4.size)
            clear hb5 bw4 qA4 qB4 zA cA0 cA1 zB cB0 cB1
            obtain ⟨zA, cA0, cA1⟩ := id qA5
            obtain ⟨zB, cB0, cB1⟩ := id qB5
            go_wp2_with fail
            refine (bool_at (iFracLess_any c d a b _) HB.out).mono ?_
            rintro e u6 ⟨rfl, hb6⟩
            have hs6 := hb6.size
            have qA6 := qA5.next hb6
            have qB6 := qB5.next hb6
            have bw6 : Below w.heap.size w u6 := bw5.trans (hb6.mono bw5.size)
            clear hb6 bw5 qA5 qB5 zA cA0 cA1 zB cB0 cB1
            obtain ⟨zA, cA0, cA1⟩ := id qA6
            obtain ⟨zB, cB0, cB1⟩ := id qB6
            go_wp2_with fail
            all_goals
              go_ret
              exact ⟨rfl, bw6⟩
          · have HL0 := less_f (a := a) (b := b) (c := c) (d := d) lt
            have HB := Lib.hid (less_f (a := c) (b := d) (c := a) (d := b) gt)
            rw [decide_eq_false lt, decide_eq_false gt] at hor
            simp at hor
            obtain ⟨rfl, rfl⟩ := hor
            clear lt gt h1 h2 hF1 hF2
            have HL := Lib.hid HL0
            clear HL0
            go_wp2_with fail
            refine (bool_at (iFracLess_any a b a b _) HL.out).mono ?_
            rintro e u2 ⟨rfl, hb2⟩
            have hs2 := (Reg.unalloc (Reg.unalloc hb2)).size
            have qA2 := BoxF.made (Reg.unalloc hb2)
            have qB2 := BoxF.made2 hb2
            have bw2 : Below w.heap.size w u2 := hb1.trans ((Reg.unalloc (Reg.unalloc hb2)).mono hb1.size)
            clear hb2 hb1
            obtain ⟨zA, cA0, cA1⟩ := id qA2
            obtain ⟨zB, cB0, cB1⟩ := id qB2
            go_wp2_with fail
            refine (bool_at (sFracLess_any a b a b _) HL.out).mono ?_
            rintro e u3 ⟨rfl, hb3⟩
            have hs3 := hb3.size
            have qA3 := qA2.next hb3
            have qB3 := qB2.next hb3
            have bw3 : Below w.heap.size w u3 := bw2.trans (hb3.mono bw2.size)
            clear hb3 bw2 qA2 qB2 zA cA0 cA1 zB cB0 cB1
            obtain ⟨zA, cA0, cA1⟩ := id qA3
            obtain ⟨zB, cB0, cB1⟩ := id qB3
            go_wp2_with fail
            refine (bool_at (sFracValid_any a b _) H1.out).mono ?_
            rintro e u4 ⟨rfl, hb4⟩
            have hs4 := hb4.size
            have qA4 := qA3.next hb4
            have qB4 := qB3.next hb4
            have bw4 : Below w.heap.size w u4 := bw3.trans (hb4.mono bw3.size)
            clear hb4 bw3 qA3 qB3 zA cA0 cA1 zB cB0 cB1
            obtain ⟨zA, cA0, cA1⟩ := id qA4
            obtain ⟨zB, cB0, cB1⟩ := id qB4
            go_wp2_with fail
            refine (bool_at (sFracValid_any a b _) H2.out).mono ?_
            rintro e u5 ⟨rfl, hb5⟩
            have hs5 := hb5.size
            have qA5 := qA4.next hb5
            have qB5 := qB4.next hb5
            have bw5 : Below w.heap.size w u5 := bw4.trans (hb5.mono bw4.size)
            clear hb5 bw4 qA4 qB4 zA cA0 cA1 zB cB0 cB1
            obtain ⟨zA, cA0, cA1⟩ := id qA5
            obtain ⟨zB, cB0, cB1⟩ := id qB5
            go_wp2_with fail
            refine (bool_at (iFracLess_any a b a b _) HB.out).mono ?_
            rintro e u6 ⟨rfl, hb6⟩
            have hs6 := hb6.size
            have qA6 := qA5.next hb6
            have qB6 := qB5.next hb6
            have bw6 : Below w.heap.size w u6 := bw5.trans (hb6.mono bw5.size)
            clear hb6 bw5 qA5 qB5 zA cA0 cA1 zB cB0 cB1
            obtain ⟨zA, cA0, cA1⟩ := id qA6
            obtain ⟨zB, cB0, cB1⟩ := id qB6
            go_wp2_with fail
            all_goals
              go_ret
              exact ⟨rfl, bw6⟩

set_option maxRecDepth 100000 in
theorem lifted (os : Os) (started : os.Started) (H : Type) (enc : TypeId × Value → H) :
    ReturnsInHanded {} Try.checked os 4 .any (Rows.fnFracLessSpec.pre6 enc Try.prog Try.f4 Rows.fnFracLessRow.domain false) (Rows.fnFracLessSpec.post enc Try.prog Try.f4 false true false false) := by
  refine returnsInHanded_of_change (C := Try.checked) own started (by kernel_rfl) Try.func4
    (ChangeSpec.witness6 (enc := enc) (C := Try.checked) false ⟨#[], #[.slice none 0 0], []⟩ 8 (by kernel_rfl) (by kernel_rfl) (by kernel_rfl) (by kernel_rfl)) ?_
  intro W base args ds gs before hval0 hW hcnd _
  have hval : ∀ (j : Nat) t v, Try.f4.params[j]? = some t → args[j]? = some v → Value.okWide Try.prog W .any base t v := hval0
  have hW' := hW
  obtain ⟨p, q, hA0, hV, rfl, hfz, hnd⟩ := hW
  have hA : DataW.TrodAll enc Try.prog W 0 (fun _ => true) true Try.f4.params.toList args.toList ds p := hA0
  rw [Try.params4] at hA hval
  obtain ⟨v0, vs0, d0, ds0, p0, q0, hargs, rfl, rfl, h0, r0⟩ := trodAll_cons hA
  obtain ⟨rfl, rfl, rfl⟩ := trodAll_nil r0
  obtain rfl : args = #[v0] := by cases args; simp_all
  obtain ⟨rfl, rfl⟩ := trodVars_none hV
  have k0 := h0
  have lt0 : ∀ x ∈ p0, x.block < W.heap.size := by obtain ⟨m, hm⟩ := k0; exact DataW.trod_lt m _ _ _ hm
  obtain ⟨a0, len0, cap0, rfl⟩ := okWide_slice Try.underlying22 (hval 0 22 v0 rfl rfl)
  obtain ⟨z0, w0⟩ : ∃ zs, IsRow .u8 W a0 len0 cap0 zs := by
    obtain ⟨fuel, hf⟩ := h0
    rcases open_ints Try.underlying22 Try.underlying5 (by kernel_rfl) hf with ⟨hcs, _⟩ | ⟨x, l, c, zs, hcs, _, hl, hm, hz, _, hcell, hwz⟩
    · simp [Value.cells] at hcs
      obtain ⟨rfl, rfl, rfl⟩ := hcs
      exact ⟨[], .inl ⟨rfl, rfl, rfl, rfl⟩⟩
    · simp [Value.cells] at hcs
      obtain ⟨rfl, rfl, rfl⟩ := hcs
      exact ⟨zs, .inr ⟨_, rfl, hl, hm, by simpa using hz, hcell, hwz⟩⟩
  clear hA0 hval0
  refine (walk W a0 len0 cap0 z0 w0).mono fun e W' ⟨he, bel⟩ => ?_
  subst he
  exact ⟨_, rfl, _, _, _, [], _, [], hW', trodAll_mk1 (shut_bool Try.underlying4 _), (trodAll_cons_mk (Below.trod laidOut (by kernel_rfl) (of_decide_eq_true (by kernel_rfl)) k0 bel lt0) trodAll_mk0), rfl, bel.frame _, fun h => by cases h⟩

theorem over : Rows.fnFracLessRow.holds Try.pinned (OpenSpec.ofChange Rows.fnFracLessSpec) :=
  OpenClaim.holds_of_wide 4 Try.f4 rfl rfl rfl rfl rfl rfl rfl ⟨rfl, rfl, rfl, rfl, rfl⟩ rfl rfl rfl rfl rfl (by kernel_rfl) Try.func4 (by kernel_rfl)
    (of_decide_eq_true (by kernel_rfl)) (by unfold Func.isWrapper; first | (rw [if_pos (by decide +kernel)]; kernel_rfl) | (rw [if_neg (by decide +kernel)]; exact ⟨rfl, rfl⟩))
    (fun os started H enc _ => lifted os started H enc)

/-- the statement -/
theorem proved : Rows.FnFracLessSaid := over
#print axioms proved
end Go.Proofs.Yticfncjhghjanaa.fnFracLess
