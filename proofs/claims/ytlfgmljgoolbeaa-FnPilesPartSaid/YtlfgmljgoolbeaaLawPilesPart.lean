/- FnPilesPart: whatever its arguments are, the law FnPilesPart of the given program returns true, and leaves all memory as it was. -/
import Derived.Test.YtlfgmljgoolbeaaKit
import Derived.Test.YtlfgmljgoolbeaaPiLaws
import Derived.Test.YtlfgmljgoolbeaaPiTotal
import Derived.Test.YtlfgmljgoolbeaaPiCopy
import Derived.Test.YtlfgmljgoolbeaaLawKit
namespace Go.Proofs.Ytlfgmljgoolbeaa.fnPilesPart
open Go.ChangeShapes Go.WideShapes Go.ChangeAt Go.RowKit Go.Joins
open Go.ChangeMaps (open_string shut_string)
set_option linter.unusedVariables false

set_option maxHeartbeats 1600000 in
/-- the walk -/
theorem walk (w : World) (a0 : Option Addr) (len0 cap0 : Nat) (z0 : List Int) (w0 : IsRow .u8 w a0 len0 cap0 z0) (a1 : Option Addr) (len1 cap1 : Nat) (z1 : List Int) (w1 : IsRow .u8 w a1 len1 cap1 z1) :
    Calls Try.prog 8 #[.slice a0 len0 cap0, .slice a1 len1 cap1] w fun e w' => e = .returned (.bool true) ∧ Below w.heap.size w w' := by
  by_cases hl0 : (1048576 : Int) < (len0 : Int)
  · go_enter Try.func8, Try.ntmps8
    go_wp2_with fail
    go_ret
    exact ⟨rfl, Below.refl _ _⟩
  ·
    by_cases hl1 : (1048576 : Int) < (len1 : Int)
    · go_enter Try.func8, Try.ntmps8
      go_wp2_with fail
      go_ret
      exact ⟨rfl, Below.refl _ _⟩
    ·
      have hs1_ : len1 ≤ 1048576 := by omega
      go_enter Try.func8, Try.ntmps8
      have hBw : w.heap.size ≤ w.heap.size := Nat.le_refl _
      go_wp2_with fail
      refine (drawPilesValid_any a0 len0 cap0 z0 w w0).mono ?_
      rintro e u1 ⟨gg, nn, cc, ps, rfl, ho, hn, hsz, hb1⟩
      have hs1 := hb1.size
      have bw1 : Below w.heap.size w u1 := hb1.mono (by omega)
      obtain ⟨hc1, hc2⟩ := ho.cap
      have HL := Lib.hid ho.len
      have o_b_1 := ho
      clear ho
      have HZ := Lib.hid (fun (p : Pil.Pl) (hp : p ∈ ps) => Nat.le_trans (hsz p hp) (show 5 ≤ 4194304 by omega))
      clear hsz
      have HI := Lib.hid (fun u (h : RdP u u.heap.size (some ⟨gg, 0, none⟩) nn ps) => iPilesValid_any _ nn cc ps u h (by omega) HZ.out)
      have HS := Lib.hid (fun u (h : RdP u u.heap.size (some ⟨gg, 0, none⟩) nn ps) => sPilesValid_any _ nn cc ps u h (by omega) HZ.out)
      cases hp : Pil.plv ps with
      | false =>
        have HI2 := Lib.hid (fun u h => bool_to (HI.out u h) hp)
        have HS2 := Lib.hid (fun u h => bool_to (HS.out u h) hp)
        clear HI HS hp
        go_wp2_with fail
        refine (HI2.out u1 o_b_1.rd).mono ?_
        rintro e u2 ⟨rfl, hb2⟩
        have hs2 := hb2.size
        have bw2 : Below w.heap.size w u2 := bw1.trans (hb2.mono (by omega))
        have o_b_2 := o_b_1.below hb2
        clear o_b_1 bw1
        go_wp2_with fail
        refine (HS2.out u2 o_b_2.rd).mono ?_
        rintro e u3 ⟨rfl, hb3⟩
        have hs3 := hb3.size
        have bw3 : Below w.heap.size w u3 := bw2.trans (hb3.mono (by omega))
        have o_b_3 := o_b_2.below hb3
        clear o_b_2 bw2
        go_wp2_with fail
        go_ret
        exact ⟨rfl, bw3⟩
      | true =>
        have HI2 := Lib.hid (fun u h => bool_to (HI.out u h) hp)
        have HS2 := Lib.hid (fun u h => bool_to (HS.out u h) hp)
        have HPV := Lib.hid hp
        clear HI HS hp
        go_wp2_with fail
        refine (HI2.out u1 o_b_1.rd).mono ?_
        rintro e u2 ⟨rfl, hb2⟩
        have hs2 := hb2.size
        have bw2 : Below w.heap.size w u2 := bw1.trans (hb2.mono (by omega))
        have o_b_2 := o_b_1.below hb2
        clear o_b_1 bw1
        go_wp2_with fail
        refine (HS2.out u2 o_b_2.rd).mono ?_
        rintro e u3 ⟨rfl, hb3⟩
        have hs3 := hb3.size
        have bw3 : Below w.heap.size w u3 := bw2.trans (hb3.mono (by omega))
        have o_b_3 := o_b_2.below hb3
        clear o_b_2 bw2
        by_cases hn0 : 0 < nn
        ·
          have hn0' : (0 : Int) < (nn : Int) := by omega
          have hnz : ((nn : Int) == 0) = false := by simp; omega
          have hnz2 : ¬ (nn : Int) = 0 := by omega
          have e1 : (len1 : Int) % (nn : Int) = ((len1 % nn : Nat) : Int) := (Int.natCast_emod _ _).symm
          have hat : len1 % nn < nn := Nat.mod_lt _ hn0
          generalize len1 % nn = i at e1 hat
          have hi0 : (0 : Int) ≤ (i : Int) := by omega
          have hi1 : (i : Int) < (nn : Int) := by omega
          have hic : (i : Int) ≤ (cc : Int) := by omega
          have hin : (i : Int) ≤ (nn : Int) := by omega
          have hi1' : (i : Int) + 1 ≤ (nn : Int) := by omega
          have hi1c : (i : Int) + 1 ≤ (cc : Int) := by omega
          have hnc : (nn : Int) ≤ (cc : Int) := by omega
          have hi2 : (0 : Int) ≤ (i : Int) + 1 := by omega
          have hmx : cc ≤ 9223372036854775807 := by unfold maxLen at hc2; exact hc2
          have et : ((i : Int) + 1).toNat = i + 1 := by omega
          have ew : IntKind.i64.wrap ((i : Int) + 1) = (i : Int) + 1 := IntWalk.i64_in _ (by omega)
          have hci : ¬ cc = i := by omega
          have hgB := o_b_3.fromB
          have SRC2 := Lib.hid (fun (u : World) (h : OwP u w.heap.size (some ⟨gg, 0, none⟩) nn cc ps) => (show ∀ j x, (pcells (ps.drop i))[j]? = some x → u.cell? ((⟨gg, i * 2, none⟩ : Addr).add j) = some x by have hq := srcp_drop h.rd i (by have := HL.out; omega); rw [Nat.zero_add] at hq; exact hq))
          have HEX := Lib.hid (Pil.plv_erase HPV.out i)
          have HDB := Lib.hid (Pil.plv_double (l := ps) (k := i) (by have := HL.out; omega))
          have HEZ := Lib.hid (plv_sz HEX.out)
          have HDZ := Lib.hid (show ∀ p ∈ ps.take (i + 1) ++ ps.drop i, p.1.size ≤ 4194304 from fun p hp => HZ.out p ((List.mem_append.1 hp).elim List.mem_of_mem_take List.mem_of_mem_drop))
          have tok1a : True := trivial
          have tok1b : True := trivial
          have tok2a : True := trivial
          have tok2b : True := trivial
          by_cases hcc : cc = i + 1
          case' pos =>
            have hif : ∀ x y : Option Addr, (if cc = i + 1 then x else y) = x := fun x y => if_pos hcc
            have SRC1 := Lib.hid (fun (u : World) (h : OwP u w.heap.size (some ⟨gg, 0, none⟩) nn cc ps) => (show ∀ j x, (pcells (ps.drop (i + 1)))[j]? = some x → u.cell? ((⟨gg, 0, none⟩ : Addr).add j) = some x by
              intro j x hj
              rw [List.drop_of_length_le (by have := HL.out; omega)] at hj
              simp [pcells] at hj))
          case' neg =>
            have hif : ∀ x y : Option Addr, (if cc = i + 1 then x else y) = y := fun x y => if_neg hcc
            have SRC1 := Lib.hid (fun (u : World) (h : OwP u w.heap.size (some ⟨gg, 0, none⟩) nn cc ps) => (show ∀ j x, (pcells (ps.drop (i + 1)))[j]? = some x → u.cell? ((⟨gg, (i + 1) * 2, none⟩ : Addr).add j) = some x by have hq := srcp_drop h.rd (i + 1) (by have := HL.out; omega); rw [Nat.zero_add] at hq; exact hq))
          all_goals
            clear hcc
            go_wp2_with fail
            go_region_law (first | (have _t := tok1a; refine step_appP (by rfl) _ _ (by rfl) (B := u3.heap.size) (ps := []) (qs := ps.take (i)) (A := some ⟨u3.heap.size, 0, none⟩) (n := 0) (c := 0) (by rfl) ⟨gg, 0, none⟩ (i) cc (by rfl) (OwP.empty u3.drew _ (Nat.le_refl _)) (by simp; have := HL.out; omega) (srcp_take (o_b_3.drew.alloc _).rd (i) (by have := HL.out; omega)) (i) (by omega) (by omega) (by simp) ?_; clear tok1a; intro A13 c13 w13 ho13 hb13 _ _ hn13; obtain ⟨g13, rfl⟩ := hn13 (by simp); have hbx1 := (((Below.refl _ _).drew).alloc (Nat.le_refl u3.heap.size) _).trans hb13; have O13 := o_b_3.below hbx1; have hz13 := hbx1.size; rw [List.nil_append] at ho13; clear hn13 hb13) | (have _t := tok1b; refine step_appP (by rfl) _ _ (by rfl) (B := u3.heap.size) (ps := ps.take (i)) (qs := ps.drop (i + 1)) (A := some ⟨g13, 0, none⟩) (n := i) (c := c13) (by rfl) _ (nn - (i + 1)) _ (by rfl) ho13 (by simp; have := HL.out; omega) (SRC1.out _ O13) (nn - 1) (by omega) (by omega) hz13 ?_; clear tok1b; intro A14 c14 w14 ho14 hb14 _ _ _; have hby1 := hbx1.trans hb14; have hz14 := hby1.size; clear hb14))
            have O2 := o_b_3.below hby1
            go_wp2_with fail
            go_region_law (first | (have _t := tok2a; refine step_appP (by rfl) _ _ (by rfl) (B := w14.heap.size) (ps := []) (qs := ps.take (i + 1)) (A := some ⟨w14.heap.size, 0, none⟩) (n := 0) (c := 0) (by rfl) ⟨gg, 0, none⟩ (i + 1) cc (by rfl) (OwP.empty w14.drew _ (Nat.le_refl _)) (by simp; have := HL.out; omega) (srcp_take (O2.drew.alloc _).rd (i + 1) (by have := HL.out; omega)) (i + 1) (by omega) (by omega) (by simp) ?_; clear tok2a; intro A23 c23 w23 ho23 hb23 _ _ hn23; obtain ⟨g23, rfl⟩ := hn23 (by simp); have hbx2 := (((Below.refl _ _).drew).alloc (Nat.le_refl w14.heap.size) _).trans hb23; have O23 := O2.below hbx2; have hz23 := hbx2.size; rw [List.nil_append] at ho23; clear hn23 hb23) | (have _t := tok2b; refine step_appP (by rfl) _ _ (by rfl) (B := w14.heap.size) (ps := ps.take (i + 1)) (qs := ps.drop (i)) (A := some ⟨g23, 0, none⟩) (n := i + 1) (c := c23) (by rfl) _ (nn - i) _ (by rfl) ho23 (by simp; have := HL.out; omega) (SRC2.out _ O23) (nn + 1) (by omega) (by omega) hz23 ?_; clear tok2b; intro A24 c24 w24 ho24 hb24 _ _ _; have hby2 := hbx2.trans hb24; have hz24 := hby2.size; clear hb24))
            have O3 := O2.below hby2
            have ho14' := ho14.below hby2
            have bwz : Below w.heap.size w w24 := bw3.trans ((hby1.mono (by have := bw3.size; omega)).trans (hby2.mono (by have := bw3.size; omega)))
            have HX := Lib.hid (bool_to (iPilesValid_any A14 (nn - 1) c14 _ w24 ho14'.rd (by omega) HEZ.out) HEX.out)
            have HY := Lib.hid (fun (u : World) (hb : Below w24.heap.size w24 u) => bool_to (iPilesValid_any A24 (nn + 1) c24 _ u (ho24.below hb).rd (by omega) HDZ.out) HDB.out)
            clear ew et e1
            go_wp2_with fail
            refine HX.out.mono ?_
            rintro e v1 ⟨rfl, hbv1⟩
            go_wp2_with fail
            refine (HY.out v1 hbv1).mono ?_
            rintro e v2 ⟨rfl, hbv2⟩
            have bwy : Below w.heap.size w v2 := bwz.trans ((hbv1.mono bwz.size).trans (hbv2.mono (Nat.le_trans bwz.size hbv1.size)))
            go_wp2_with fail
            go_ret
            exact ⟨rfl, bwy⟩
        ·
          obtain rfl : nn = 0 := by omega
          go_wp2_with fail
          go_ret
          exact ⟨rfl, bw3⟩

set_option maxRecDepth 100000 in
theorem lifted (os : Os) (started : os.Started) (H : Type) (enc : TypeId × Value → H) :
    ReturnsInHanded {} Try.checked os 8 .any (Rows.fnPilesPartSpec.pre6 enc Try.prog Try.f8 Rows.fnPilesPartRow.domain false) (Rows.fnPilesPartSpec.post enc Try.prog Try.f8 false true false false) := by
  refine returnsInHanded_of_change (C := Try.checked) own started (by kernel_rfl) Try.func8
    (ChangeSpec.witness6 (enc := enc) (C := Try.checked) false ⟨#[], #[.slice none 0 0, .slice none 0 0], []⟩ 8 (by kernel_rfl) (by kernel_rfl) (by kernel_rfl) (by kernel_rfl)) ?_
  intro W base args ds gs before hval0 hW hcnd _
  have hval : ∀ (j : Nat) t v, Try.f8.params[j]? = some t → args[j]? = some v → Value.okWide Try.prog W .any base t v := hval0
  have hW' := hW
  obtain ⟨p, q, hA0, hV, rfl, hfz, hnd⟩ := hW
  have hA : DataW.TrodAll enc Try.prog W 0 (fun _ => true) true Try.f8.params.toList args.toList ds p := hA0
  rw [Try.params8] at hA hval
  obtain ⟨v0, vs0, d0, ds0, p0, q0, hargs, rfl, rfl, h0, r0⟩ := trodAll_cons hA
  obtain ⟨v1, vs1, d1, ds1, p1, q1, rfl, rfl, rfl, h1, r1⟩ := trodAll_cons r0
  obtain ⟨rfl, rfl, rfl⟩ := trodAll_nil r1
  obtain rfl : args = #[v0, v1] := by cases args; simp_all
  obtain ⟨rfl, rfl⟩ := trodVars_none hV
  have k0 := h0
  have lt0 : ∀ x ∈ p0, x.block < W.heap.size := by obtain ⟨m, hm⟩ := k0; exact DataW.trod_lt m _ _ _ hm
  obtain ⟨a0, len0, cap0, rfl⟩ := okWide_slice Try.underlying22 (hval 0 22 v0 rfl rfl)
  obtain ⟨z0, w0⟩ : ∃ zs, IsRow .u8 W a0 len0 cap0 zs := by
    obtain ⟨fuel, hf⟩ := h0
    rcases open_ints Try.underlying22 Try.underlying5 (by kernel_rfl) hf with ⟨hcs, _⟩ | ⟨x, l, c, zs, hcs, _, hl, hm, hz, _, hcell, hwz⟩
    · simp [Value.cells] at hcs
      obtain ⟨rfl, rfl, rfl⟩ := hcs
      exact ⟨[], .inl ⟨rfl, rfl, rfl, rfl⟩⟩
    · simp [Value.cells] at hcs
      obtain ⟨rfl, rfl, rfl⟩ := hcs
      exact ⟨zs, .inr ⟨_, rfl, hl, hm, by simpa using hz, hcell, hwz⟩⟩
  have k1 := h1
  have lt1 : ∀ x ∈ p1, x.block < W.heap.size := by obtain ⟨m, hm⟩ := k1; exact DataW.trod_lt m _ _ _ hm
  obtain ⟨a1, len1, cap1, rfl⟩ := okWide_slice Try.underlying22 (hval 1 22 v1 rfl rfl)
  obtain ⟨z1, w1⟩ : ∃ zs, IsRow .u8 W a1 len1 cap1 zs := by
    obtain ⟨fuel, hf⟩ := h1
    rcases open_ints Try.underlying22 Try.underlying5 (by kernel_rfl) hf with ⟨hcs, _⟩ | ⟨x, l, c, zs, hcs, _, hl, hm, hz, _, hcell, hwz⟩
    · simp [Value.cells] at hcs
      obtain ⟨rfl, rfl, rfl⟩ := hcs
      exact ⟨[], .inl ⟨rfl, rfl, rfl, rfl⟩⟩
    · simp [Value.cells] at hcs
      obtain ⟨rfl, rfl, rfl⟩ := hcs
      exact ⟨zs, .inr ⟨_, rfl, hl, hm, by simpa using hz, hcell, hwz⟩⟩
  clear hA0 hval0
  refine (walk W a0 len0 cap0 z0 w0 a1 len1 cap1 z1 w1).mono fun e W' ⟨he, bel⟩ => ?_
  subst he
  exact ⟨_, rfl, _, _, _, [], _, [], hW', trodAll_mk1 (shut_bool Try.underlying4 _), (trodAll_cons_mk (Below.trod laidOut (by kernel_rfl) (of_decide_eq_true (by kernel_rfl)) k0 bel lt0) (trodAll_cons_mk (Below.trod laidOut (by kernel_rfl) (of_decide_eq_true (by kernel_rfl)) k1 bel lt1) trodAll_mk0)), rfl, bel.frame _, fun h => by cases h⟩

theorem over : Rows.fnPilesPartRow.holds Try.pinned (OpenSpec.ofChange Rows.fnPilesPartSpec) :=
  OpenClaim.holds_of_wide 8 Try.f8 rfl rfl rfl rfl rfl rfl rfl ⟨rfl, rfl, rfl, rfl, rfl⟩ rfl rfl rfl rfl rfl (by kernel_rfl) Try.func8 (by kernel_rfl)
    (of_decide_eq_true (by kernel_rfl)) (by unfold Func.isWrapper; first | (rw [if_pos (by decide +kernel)]; kernel_rfl) | (rw [if_neg (by decide +kernel)]; exact ⟨rfl, rfl⟩))
    (fun os started H enc _ => lifted os started H enc)

/-- the statement -/
theorem proved : Rows.FnPilesPartSaid := over
#print axioms proved
end Go.Proofs.Ytlfgmljgoolbeaa.fnPilesPart
