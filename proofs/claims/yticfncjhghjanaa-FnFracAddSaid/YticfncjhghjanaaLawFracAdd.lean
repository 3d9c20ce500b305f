/- FnFracAdd: whatever its arguments are, the law FnFracAdd of the given program returns true, and leaves all memory as it was. -/
import Derived.Test.YticfncjhghjanaaKit
import Derived.Test.YticfncjhghjanaaFrLaws
namespace Go.Proofs.Yticfncjhghjanaa.fnFracAdd
open Go.ChangeShapes Go.WideShapes Go.ChangeAt Go.RowKit Go.Joins
open Go.ChangeMaps (open_string shut_string)
set_option linter.unusedVariables false

set_option maxHeartbeats 1600000 in
/-- the walk -/
theorem walk (w : World) (a0 : Option Addr) (len0 cap0 : Nat) (z0 : List Int) (w0 : IsRow .u8 w a0 len0 cap0 z0) :
    Calls Try.prog 6 #[.slice a0 len0 cap0] w fun e w' => e = .returned (.bool true) ∧ Below w.heap.size w w' := by
  by_cases hl0 : (1048576 : Int) < (len0 : Int)
  · go_enter Try.func6, Try.ntmps6
    go_wp2_with fail
    go_ret
    exact ⟨rfl, Below.refl _ _⟩
  · go_enter Try.func6, Try.ntmps6
    go_wp2_with fail
    refine (drawFracAdd_any _ _ _ _ _ w0).mono ?_
    rintro e u1 ⟨a, b, c, d, rfl, hb1⟩
    rcases addR_cases a b c d with hx | ⟨v1, v2, hx, vx⟩
    · have HX := Lib.hid hx
      clear hx
      go_wp2_with fail
      refine (add_at (iFracAdd_any a b c d _) HX.out).mono ?_
      rintro e u2 ⟨rfl, hb2⟩
      have hs2 := (Reg.unalloc (Reg.unalloc hb2)).size
      have qA2 := BoxF.made (Reg.unalloc hb2)
      have qB2 := BoxF.made2 hb2
      have bw2 : Below w.heap.size w u2 := hb1.trans ((Reg.unalloc (Reg.unalloc hb2)).mono hb1.size)
      clear hb2 hb1
      obtain ⟨zA, cA0, cA1⟩ := id qA2
      obtain ⟨zB, cB0, cB1⟩ := id qB2
      go_wp2_with fail
      refine (add_at (sFracAdd_any a b c d _) HX.out).mono ?_
      rintro e u3 ⟨rfl, hb3⟩
      have hs3 := (Reg.unalloc hb3).size
      have qA3 := qA2.next (Reg.unalloc hb3)
      have qB3 := qB2.next (Reg.unalloc hb3)
      have qO3 := BoxF.made hb3
      have bw3 : Below w.heap.size w u3 := bw2.trans ((Reg.unalloc hb3).mono bw2.size)
      clear hb3 bw2 qA2 qB2 zA cA0 cA1 zB cB0 cB1
      obtain ⟨zA, cA0, cA1⟩ := id qA3
      obtain ⟨zB, cB0, cB1⟩ := id qB3
      obtain ⟨zO, cO0, cO1⟩ := id qO3
      go_wp2_with fail
      all_goals
        go_ret
        exact ⟨rfl, bw3.alloc bw3.size _⟩
    · have HX := Lib.hid hx
      have HC := Lib.hid ((addR_comm a b c d).trans hx)
      have hk := addR_back v1 v2 vx
      rw [Int.zero_sub] at hk
      have HK := Lib.hid hk
      have VX := Lib.hid vx
      obtain ⟨f1, f2, f3, f4, -⟩ := Frp.fv_iff.1 v1
      have hw0 : IntKind.i64.wrap (-a) = -a := IntWalk.i64_in _ (by omega)
      generalize Frp.rN (a * d + c * b) (b * d) = x at *
      generalize Frp.rD (a * d + c * b) (b * d) = y at *
      clear hx vx v1 v2 hk
      go_wp2_with fail
      refine (add_at (iFracAdd_any a b c d _) HX.out).mono ?_
      rintro e u2 ⟨rfl, hb2⟩
      have hs2 := (Reg.unalloc (Reg.unalloc hb2)).size
      have qA2 := BoxF.made (Reg.unalloc hb2)
      have qB2 := BoxF.made2 hb2
      have bw2 : Below w.heap.size w u2 := hb1.trans ((Reg.unalloc (Reg.unalloc hb2)).mono hb1.size)
      clear hb2 hb1
      obtain ⟨zA, cA0, cA1⟩ := id qA2
      obtain ⟨zB, cB0, cB1⟩ := id qB2
      go_wp2_with fail
      refine (add_at (sFracAdd_any a b c d _) HX.out).mono ?_
      rintro e u3 ⟨rfl, hb3⟩
      have hs3 := (Reg.unalloc hb3).size
      have qA3 := qA2.next (Reg.unalloc hb3)
      have qB3 := qB2.next (Reg.unalloc hb3)
      have qO3 := BoxF.made hb3
      have bw3 : Below w.heap.size w u3 := bw2.trans ((Reg.unalloc hb3).mono bw2.size)
      clear hb3 bw2 qA2 qB2 zA cA0 cA1 zB cB0 cB1
      obtain ⟨zA, cA0, cA1⟩ := id qA3
      obtain ⟨zB, cB0, cB1⟩ := id qB3
      obtain ⟨zO, cO0, cO1⟩ := id qO3
      go_wp2_with fail
      refine (add_at (iFracAdd_any c d a b _) HC.out).mono ?_
      rintro e u4 ⟨rfl, hb4⟩
      have hs4 := (Reg.unalloc hb4).size
      have qA4 := qA3.next (Reg.unalloc hb4)
      have qB4 := qB3.next (Reg.unalloc hb4)
      have qO4 := qO3.next (Reg.unalloc hb4)
      have qWt4 := BoxF.made hb4
      have bw4 : Below w.heap.size w u4 := bw3.trans ((Reg.unalloc hb4).mono bw3.size)
      clear hb4 bw3 qA3 qB3 qO3 zA cA0 cA1 zB cB0 cB1 zO cO0 cO1
      obtain ⟨zA, cA0, cA1⟩ := id qA4
      obtain ⟨zB, cB0, cB1⟩ := id qB4
      obtain ⟨zO, cO0, cO1⟩ := id qO4
      obtain ⟨zWt, cWt0, cWt1⟩ := id qWt4
      go_wp2_with fail
      refine (add_at (iFracAdd_any x y (-a) b _) HK.out).mono ?_
      rintro e u5 ⟨rfl, hb5⟩
      have hs5 := (Reg.unalloc hb5).size
      have qA5 := qA4.next (Reg.unalloc hb5)
      have qB5 := qB4.next (Reg.unalloc hb5)
      have qO5 := qO4.next (Reg.unalloc hb5)
      have qWt5 := qWt4.next (Reg.unalloc hb5)
      have qX5 := BoxF.made hb5
      have bw5 : Below w.heap.size w u5 := bw4.trans ((Reg.unalloc hb5).mono bw4.size)
      clear hb5 bw4 qA4 qB4 qO4 qWt4 zA cA0 cA1 zB cB0 cB1 zO cO0 cO1 zWt cWt0 cWt1
      obtain ⟨zA, cA0, cA1⟩ := id qA5
      obtain ⟨zB, cB0, cB1⟩ := id qB5
      obtain ⟨zO, cO0, cO1⟩ := id qO5
      obtain ⟨zWt, cWt0, cWt1⟩ := id qWt5
      obtain ⟨zX, cX0, cX1⟩ := id qX5
      go_wp2_with fail
      refine (bool_at (iFracValid_any x y _) VX.out).mono ?_
      rintro e u6 ⟨rfl, hb6⟩
      have hs6 := (Reg.unalloc hb6).size
      have qA6 := qA5.next (Reg.unalloc hb6)
      have qB6 := qB5.next (Reg.unalloc hb6)
      have qO6 := qO5.next (Reg.unalloc hb6)
      have qWt6 := qWt5.next (Reg.unalloc hb6)
      have qX6 := qX5.next (Reg.unalloc hb6)
      have qY6 := BoxF.made hb6
      have bw6 : Below w.heap.size w u6 := bw5.trans ((Reg.unalloc hb6).mono bw5.size)
      clear hb6 bw5 qA5 qB5 qO5 qWt5 qX5 zA cA0 cA1 zB cB0 cB1 zO cO0 cO1 zWt cWt0 cWt1 zX cX0 cX1
      obtain ⟨zA, cA0, cA1⟩ := id qA6
      obtain ⟨zB, cB0, cB1⟩ := id qB6
      obtain ⟨zO, cO0, cO1⟩ := id qO6
      obtain ⟨zWt, cWt0, cWt1⟩ := id qWt6
      obtain ⟨zX, cX0, cX1⟩ := id qX6
      obtain ⟨zY, cY0, cY1⟩ := id qY6
      go_wp2_with fail
      all_goals
        go_ret
        exact ⟨rfl, bw6⟩

set_option maxRecDepth 100000 in
theorem lifted (os : Os) (started : os.Started) (H : Type) (enc : TypeId × Value → H) :
    ReturnsInHanded {} Try.checked os 6 .any (Rows.fnFracAddSpec.pre6 enc Try.prog Try.f6 Rows.fnFracAddRow.domain false) (Rows.fnFracAddSpec.post enc Try.prog Try.f6 false true false false) := by
  refine returnsInHanded_of_change (C := Try.checked) own started (by kernel_rfl) Try.func6
    (ChangeSpec.witness6 (enc := enc) (C := Try.checked) false ⟨#[], #[.slice none 0 0], []⟩ 8 (by kernel_rfl) (by kernel_rfl) (by kernel_rfl) (by kernel_rfl)) ?_
  intro W base args ds gs before hval0 hW hcnd _
  have hval : ∀ (j : Nat) t v, Try.f6.params[j]? = some t → args[j]? = some v → Value.okWide Try.prog W .any base t v := hval0
  have hW' := hW
  obtain ⟨p, q, hA0, hV, rfl, hfz, hnd⟩ := hW
  have hA : DataW.TrodAll enc Try.prog W 0 (fun _ => true) true Try.f6.params.toList args.toList ds p := hA0
  rw [Try.params6] at hA hval
  obtain ⟨v0, vs0, d0, ds0, p0, q0, hargs, rfl, rfl, h0, r0⟩ := trodAll_cons hA
  obtain ⟨rfl, rfl, rfl⟩ := trodAll_nil r0
  obtain rfl : args = #[v0] := by cases args; simp_all
  obtain ⟨rfl, rfl⟩ := trodVars_none hV
  have k0 := h0
  have lt0 : ∀ x ∈ p0, x.block < W.heap.size := by obtain ⟨m, hm⟩ := k0; exact DataW.trod_lt m _ _ _ hm
  obtain ⟨a0, len0, cap0, rfl⟩ := okWide_slice Try.underlying22 (hval 0 22 v0 rfl rfl)
  obtain ⟨z0, w0⟩ : ∃ zs, IsRow .u8 W a0 len0 cap0 zs := by
    obtain ⟨fuel, hf⟩ := h0
    rcases open_ints Try.underlying22 Try.underlying5 (by kernel_rfl) hf with ⟨hcs, _⟩ | ⟨x, l, c, zs, hcs, _, hl, hm, hz, _, hcell, hwz⟩
    · simp [Value.cells] at hcs
      obtain ⟨rfl, rfl, rfl⟩ := hcs
      exact ⟨[], .inl ⟨rfl, rfl, rfl, rfl⟩⟩
    · simp [Value.cells] at hcs
      obtain ⟨rfl, rfl, rfl⟩ := hcs
      exact ⟨zs, .inr ⟨_, rfl, hl, hm, by simpa using hz, hcell, hwz⟩⟩
  clear hA0 hval0
  refine (walk W a0 len0 cap0 z0 w0).mono fun e W' ⟨he, bel⟩ => ?_
  subst he
  exact ⟨_, rfl, _, _, _, [], _, [], hW', trodAll_mk1 (shut_bool Try.underlying4 _), (trodAll_cons_mk (Below.trod laidOut (by kernel_rfl) (of_decide_eq_true (by kernel_rfl)) k0 bel lt0) trodAll_mk0), rfl, bel.frame _, fun h => by cases h⟩

theorem over : Rows.fnFracAddRow.holds Try.pinned (OpenSpec.ofChange Rows.fnFracAddSpec) :=
  OpenClaim.holds_of_wide 6 Try.f6 rfl rfl rfl rfl rfl rfl rfl ⟨rfl, rfl, rfl, rfl, rfl⟩ rfl rfl rfl rfl rfl (by kernel_rfl) Try.func6 (by kernel_rfl)
    (of_decide_eq_true (by kernel_rfl)) (by unfold Func.isWrapper; first | (rw [if_pos (by decide +kernel)]; kernel_rfl) | (rw [if_neg (by decide +kernel)]; exact ⟨rfl, rfl⟩))
    (fun os started H enc _ => lifted os started H enc)

/-- the statement -/
theorem proved : Rows.FnFracAddSaid := over
#print axioms proved
end Go.Proofs.Yticfncjhghjanaa.fnFracAdd
