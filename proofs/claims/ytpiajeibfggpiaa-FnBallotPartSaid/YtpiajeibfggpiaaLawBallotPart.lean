/- FnBallotPart: whatever its arguments are, the law FnBallotPart of the given program returns true, and leaves all memory as it was. -/
import Derived.Test.YtpiajeibfggpiaaKit
import Derived.Test.YtpiajeibfggpiaaLawKit
import Derived.Test.YtpiajeibfggpiaaDraws
namespace Go.Proofs.Ytpiajeibfggpiaa.fnBallotPart
open Go.ChangeShapes Go.WideShapes Go.ChangeAt Go.RowKit Go.Joins
open Go.ChangeMaps (open_string shut_string)
set_option linter.unusedVariables false

set_option maxHeartbeats 6400000 in
/-- the walk -/
theorem walk (w : World) (a0 : Option Addr) (len0 cap0 : Nat) (z0 : List Int) (w0 : IsRow .u8 w a0 len0 cap0 z0) (a1 : Option Addr) (len1 cap1 : Nat) (z1 : List Int) (w1 : IsRow .u8 w a1 len1 cap1 z1) :
    Calls Try.prog 3 #[.slice a0 len0 cap0, .slice a1 len1 cap1] w fun e w' => e = .returned (.bool true) ∧ Below w.heap.size w w' := by
  by_cases hl0 : (1048576 : Int) < (len0 : Int)
  · go_enter Try.func3, Try.ntmps3
    go_wp2_with fail
    go_ret
    exact ⟨rfl, Below.refl _ _⟩
  · by_cases hl1 : (1048576 : Int) < (len1 : Int)
    · go_enter Try.func3, Try.ntmps3
      go_wp2_with fail
      go_ret
      exact ⟨rfl, Below.refl _ _⟩
    · have hs1_ : len1 ≤ 1048576 := by omega
      go_enter Try.func3, Try.ntmps3
      go_wp2_with fail
      refine (drawBallotValid_any a0 len0 cap0 z0 w w0).mono ?_
      rintro e u1 ⟨A, n, c, xs, m, rfl, ho, hn, hm0, hm7, hb1⟩
      have hs1 := hb1.size
      have bw1 : Below w.heap.size w u1 := hb1.mono (by omega)
      obtain ⟨hc1, hc2⟩ := ho.cap
      have HLN := Lib.hid ho.len
      have o_b_1 := ho
      clear ho
      have HI := Lib.hid (fun u B (h : RdI u B A n xs) => iBallotValid_any A n c xs m u B h hc1 (by omega) hc2)
      have HSP := Lib.hid (fun u B (h : RdI u B A n xs) => sBallotValid_any A n c xs m u B h hc1 (by omega) hc2)
      have HI5 := Lib.hid (fun u B (h : RdI u B A n xs) => iBallotValid_any A n c xs 5 u B h hc1 (by omega) hc2)
      cases hv : Bal.bv xs m with
      | false =>
        have h1 := HI.out; rw [hv] at h1; have H1 := Lib.hid h1
        have h2 := HSP.out; rw [hv] at h2; have H2 := Lib.hid h2
        clear h1 h2 hv
        go_wp2_with fail
        refine (same_below (H1.out u1 _ o_b_1.rd)).mono ?_
        rintro e u2 ⟨rfl, hb2⟩
        have hs2 := hb2.size
        have bw2 : Below w.heap.size w u2 := bw1.trans (hb2.mono (by omega))
        have o_b_2 := o_b_1.below hb2
        clear o_b_1 bw1
        go_wp2_with fail
        refine (quiet_below (H2.out u2 _ o_b_2.rd)).mono ?_
        rintro e u3 ⟨rfl, hb3⟩
        have hs3 := hb3.size
        have bw3 : Below w.heap.size w u3 := bw2.trans (hb3.mono (by omega))
        have o_b_3 := o_b_2.below hb3
        clear o_b_2 bw2
        go_wp2_with fail
        go_ret
        exact ⟨rfl, bw3⟩
      | true =>
        have h1 := HI.out; rw [hv] at h1; have H1 := Lib.hid h1
        have h2 := HSP.out; rw [hv] at h2; have H2 := Lib.hid h2
        have h5 := HI5.out; rw [Bal.bv_five hv] at h5; have H5 := Lib.hid h5
        have HVV := Lib.hid hv
        have hn5 : n ≤ 5 := by have h3 := Bal.bv_len (Bal.bv_iff.1 hv); have h4 := (Bal.bv_iff.1 hv).1; have := HLN.out; omega
        clear h1 h2 h5 hv HI HSP HI5
        go_wp2_with fail
        refine (same_below (H1.out u1 _ o_b_1.rd)).mono ?_
        rintro e u2 ⟨rfl, hb2⟩
        have hs2 := hb2.size
        have bw2 : Below w.heap.size w u2 := bw1.trans (hb2.mono (by omega))
        have o_b_2 := o_b_1.below hb2
        clear o_b_1 bw1
        go_wp2_with fail
        refine (quiet_below (H2.out u2 _ o_b_2.rd)).mono ?_
        rintro e u3 ⟨rfl, hb3⟩
        have hs3 := hb3.size
        have bw3 : Below w.heap.size w u3 := bw2.trans (hb3.mono (by omega))
        have o_b_3 := o_b_2.below hb3
        clear o_b_2 bw2
        by_cases hn0 : 0 < n
        · have hn0' : (0 : Int) < (n : Int) := by omega
          have hnz : ((n : Int) == 0) = false := by simp; omega
          obtain ⟨gb, rfl, hgB, hgl, _⟩ := o_b_3.at_ hn0
          have e1 : (len1 : Int) % (n : Int) = ((len1 % n : Nat) : Int) := (Int.natCast_emod _ _).symm
          have hat : len1 % n < n := Nat.mod_lt _ hn0
          generalize len1 % n = i at e1 hat
          have hi0 : (0 : Int) ≤ (i : Int) := by omega
          have hi1 : (i : Int) < (n : Int) := by omega
          have hic : (i : Int) ≤ (c : Int) := by omega
          have hin : (i : Int) ≤ (n : Int) := by omega
          have hi1' : (i : Int) + 1 ≤ (n : Int) := by omega
          have hi1c : (i : Int) + 1 ≤ (c : Int) := by omega
          have hnc : (n : Int) ≤ (c : Int) := by omega
          have hi2 : (0 : Int) ≤ (i : Int) + 1 := by omega
          have hmx : c ≤ 9223372036854775807 := by unfold maxLen at hc2; exact hc2
          have et : ((i : Int) + 1).toNat = i + 1 := by omega
          have ew : IntKind.i64.wrap ((i : Int) + 1) = (i : Int) + 1 := IntWalk.i64_in _ (by omega)
          have hci : ¬ c = i := by omega
          have tok1 : True := trivial
          have tok2 : True := trivial
          have tok3 : True := trivial
          have tok4 : True := trivial
          by_cases hcc : c = i + 1
          case' pos =>
            have hif : ∀ x y : Option Addr, (if c = i + 1 then x else y) = x := fun x y => if_pos hcc
            have HCC := Lib.hid hcc
          case' neg =>
            have hif : ∀ x y : Option Addr, (if c = i + 1 then x else y) = y := fun x y => if_neg hcc
          all_goals
            clear hcc
            go_wp2_with fail
            go_region_law (first | (have _t := tok1; refine step_appN (by rfl) _ _ (by rfl) (B := u3.heap.size) (n := 0) (c := 0) (xs := []) (ys := xs.take (i)) (by rfl) _ (i) _ (by rfl) (by exact OwA.empty u3 _ (Nat.le_refl _)) (by simp; have := HLN.out; omega) (by exact src_take (o_b_3.alloc _).rd (i) (by omega)) (i) (by omega) (by omega) (by simp) ?_; clear tok1; intro A13 c13 w13 ho13 hb13 _ _; have hbx1 := (((Below.refl _ _).alloc (Nat.le_refl u3.heap.size) _).drew).trans hb13; have O13 := o_b_3.below hbx1; have hz13 := hbx1.size; rw [List.nil_append] at ho13) | (have _t := tok2; refine step_appN (by rfl) _ _ (by rfl) (B := u3.heap.size) (xs := xs.take (i)) (ys := xs.drop (i + 1)) (by rfl) _ (n - (i + 1)) _ (by rfl) ho13 (by simp; have := HLN.out; omega) (by first | (have hq := src_drop O13.rd (i + 1) (by omega); rw [Nat.zero_add] at hq; exact hq) | (intro j hj; have := HCC.out; omega)) (n - 1) (by omega) (by omega) hz13 ?_; clear tok2; intro A14 c14 w14 ho14 hb14 _ _; have hby1 := hbx1.trans hb14; have hz14 := hby1.size))
            have O2 := o_b_3.below hby1
            go_wp2_with fail
            go_region_law (first | (have _t := tok3; refine step_appN (by rfl) _ _ (by rfl) (B := w14.heap.size) (n := 0) (c := 0) (xs := []) (ys := xs.take (i + 1)) (by rfl) _ (i + 1) _ (by rfl) (by exact OwA.empty w14 _ (Nat.le_refl _)) (by simp; have := HLN.out; omega) (by exact src_take (O2.alloc _).rd (i + 1) (by omega)) (i + 1) (by omega) (by omega) (by simp) ?_; clear tok3; intro A23 c23 w23 ho23 hb23 _ _; have hbx2 := (((Below.refl _ _).alloc (Nat.le_refl w14.heap.size) _).drew).trans hb23; have O23 := O2.below hbx2; have hz23 := hbx2.size; rw [List.nil_append] at ho23) | (have _t := tok4; refine step_appN (by rfl) _ _ (by rfl) (B := w14.heap.size) (xs := xs.take (i + 1)) (ys := xs.drop (i)) (by rfl) _ (n - (i)) _ (by rfl) ho23 (by simp; have := HLN.out; omega) (by first | (have hq := src_drop O23.rd (i) (by omega); rw [Nat.zero_add] at hq; exact hq)) (n + 1) (by omega) (by omega) hz23 ?_; clear tok4; intro A24 c24 w24 ho24 hb24 _ _; have hby2 := hbx2.trans hb24; have hz24 := hby2.size))
            have O3 := O2.below hby2
            have ho14' := ho14.below hby2
            have bwz : Below w.heap.size w w24 := bw3.trans ((hby1.mono (by have := bw3.size; omega)).trans (hby2.mono (by have := bw3.size; omega)))
            obtain ⟨k1, k2⟩ := ho14'.cap
            obtain ⟨k3, k4⟩ := ho24.cap
            have hX := iBallotValid_any A14 (n - 1) c14 _ m w24 _ ho14'.rd k1 (by omega) k2
            rw [Bal.bv_erase HVV.out i] at hX
            have HX := Lib.hid hX
            have hY := iBallotValid_any A24 (n + 1) c24 _ m w24 _ ho24.rd k3 (by omega) k4
            rw [Bal.bv_double (by have := HLN.out; omega)] at hY
            have HY := Lib.hid hY
            have HZ := Lib.hid (H5.out w24 _ O3.rd)
            clear hX hY ew et e1
            go_wp2_with fail
            refine HX.out.mono ?_
            rintro e v1 ⟨rfl, rfl⟩
            go_wp2_with fail
            refine HY.out.mono ?_
            rintro e v1 ⟨rfl, rfl⟩
            go_wp2_with fail
            refine HZ.out.mono ?_
            rintro e v1 ⟨rfl, rfl⟩
            go_wp2_with fail
            go_ret
            exact ⟨rfl, bwz⟩
        · obtain rfl : n = 0 := by omega
          go_wp2_with fail
          go_ret
          exact ⟨rfl, bw3⟩

set_option maxRecDepth 100000 in
theorem lifted (os : Os) (started : os.Started) (H : Type) (enc : TypeId × Value → H) :
    ReturnsInHanded {} Try.checked os 3 .any (Rows.fnBallotPartSpec.pre6 enc Try.prog Try.f3 Rows.fnBallotPartRow.domain false) (Rows.fnBallotPartSpec.post enc Try.prog Try.f3 false true false false) := by
  refine returnsInHanded_of_change (C := Try.checked) own started (by kernel_rfl) Try.func3
    (ChangeSpec.witness6 (enc := enc) (C := Try.checked) false ⟨#[], #[.slice none 0 0, .slice none 0 0], []⟩ 8 (by kernel_rfl) (by kernel_rfl) (by kernel_rfl) (by kernel_rfl)) ?_
  intro W base args ds gs before hval0 hW hcnd _
  have hval : ∀ (j : Nat) t v, Try.f3.params[j]? = some t → args[j]? = some v → Value.okWide Try.prog W .any base t v := hval0
  have hW' := hW
  obtain ⟨p, q, hA0, hV, rfl, hfz, hnd⟩ := hW
  have hA : DataW.TrodAll enc Try.prog W 0 (fun _ => true) true Try.f3.params.toList args.toList ds p := hA0
  rw [Try.params3] at hA hval
  obtain ⟨v0, vs0, d0, ds0, p0, q0, hargs, rfl, rfl, h0, r0⟩ := trodAll_cons hA
  obtain ⟨v1, vs1, d1, ds1, p1, q1, rfl, rfl, rfl, h1, r1⟩ := trodAll_cons r0
  obtain ⟨rfl, rfl, rfl⟩ := trodAll_nil r1
  obtain rfl : args = #[v0, v1] := by cases args; simp_all
  obtain ⟨rfl, rfl⟩ := trodVars_none hV
  have k0 := h0
  have lt0 : ∀ x ∈ p0, x.block < W.heap.size := by obtain ⟨m, hm⟩ := k0; exact DataW.trod_lt m _ _ _ hm
  obtain ⟨a0, len0, cap0, rfl⟩ := okWide_slice Try.underlying22 (hval 0 22 v0 rfl rfl)
  obtain ⟨z0, w0⟩ : ∃ zs, IsRow .u8 W a0 len0 cap0 zs := by
    obtain ⟨fuel, hf⟩ := h0
    rcases open_ints Try.underlying22 Try.underlying5 (by kernel_rfl) hf with ⟨hcs, _⟩ | ⟨x, l, c, zs, hcs, _, hl, hm, hz, _, hcell, hwz⟩
    · simp [Value.cells] at hcs
      obtain ⟨rfl, rfl, rfl⟩ := hcs
      exact ⟨[], .inl ⟨rfl, rfl, rfl, rfl⟩⟩
    · simp [Value.cells] at hcs
      obtain ⟨rfl, rfl, rfl⟩ := hcs
      exact ⟨zs, .inr ⟨_, rfl, hl, hm, by simpa using hz, hcell, hwz⟩⟩
  have k1 := h1
  have lt1 : ∀ x ∈ p1, x.block < W.heap.size := by obtain ⟨m, hm⟩ := k1; exact DataW.trod_lt m _ _ _ hm
  obtain ⟨a1, len1, cap1, rfl⟩ := okWide_slice Try.underlying22 (hval 1 22 v1 rfl rfl)
  obtain ⟨z1, w1⟩ : ∃ zs, IsRow .u8 W a1 len1 cap1 zs := by
    obtain ⟨fuel, hf⟩ := h1
    rcases open_ints Try.underlying22 Try.underlying5 (by kernel_rfl) hf with ⟨hcs, _⟩ | ⟨x, l, c, zs, hcs, _, hl, hm, hz, _, hcell, hwz⟩
    · simp [Value.cells] at hcs
      obtain ⟨rfl, rfl, rfl⟩ := hcs
      exact ⟨[], .inl ⟨rfl, rfl, rfl, rfl⟩⟩
    · simp [Value.cells] at hcs
      obtain ⟨rfl, rfl, rfl⟩ := hcs
      exact ⟨zs, .inr ⟨_, rfl, hl, hm, by simpa using hz, hcell, hwz⟩⟩
  clear hA0 hval0
  refine (walk W a0 len0 cap0 z0 w0 a1 len1 cap1 z1 w1).mono fun e W' ⟨he, bel⟩ => ?_
  subst he
  exact ⟨_, rfl, _, _, _, [], _, [], hW', trodAll_mk1 (shut_bool Try.underlying4 _), (trodAll_cons_mk (Below.trod laidOut (by kernel_rfl) (of_decide_eq_true (by kernel_rfl)) k0 bel lt0) (trodAll_cons_mk (Below.trod laidOut (by kernel_rfl) (of_decide_eq_true (by kernel_rfl)) k1 bel lt1) trodAll_mk0)), rfl, bel.frame _, fun h => by cases h⟩

theorem over : Rows.fnBallotPartRow.holds Try.pinned (OpenSpec.ofChange Rows.fnBallotPartSpec) :=
  OpenClaim.holds_of_wide 3 Try.f3 rfl rfl rfl rfl rfl rfl rfl ⟨rfl, rfl, rfl, rfl, rfl⟩ rfl rfl rfl rfl rfl (by kernel_rfl) Try.func3 (by kernel_rfl)
    (of_decide_eq_true (by kernel_rfl)) (by unfold Func.isWrapper; first | (rw [if_pos (by decide +kernel)]; kernel_rfl) | (rw [if_neg (by decide +kernel)]; exact ⟨rfl, rfl⟩))
    (fun os started H enc _ => lifted os started H enc)

/-- the statement -/
theorem proved : Rows.FnBallotPartSaid := over
#print axioms proved
end Go.Proofs.Ytpiajeibfggpiaa.fnBallotPart
