/- The functions that draw piles and more. -/
import Derived.Test.YtlfgmljgoolbeaaPiDraw
import Derived.Test.YtlfgmljgoolbeaaOrd2
namespace Go.Proofs.Ytlfgmljgoolbeaa
open Go.RowKit
set_option linter.unusedSimpArgs false

/-- two lists of piles for a law -/
def DrawP2 (w : World) (e : Ending) (w' : World) : Prop := ∃ g1 n1 c1 ps g2 n2 c2 qs, e = .returned (.tuple #[.slice (some ⟨g1, 0, none⟩) n1 c1, .slice (some ⟨g2, 0, none⟩) n2 c2]) ∧ OwP w' w.heap.size (some ⟨g1, 0, none⟩) n1 c1 ps ∧ OwP w' w.heap.size (some ⟨g2, 0, none⟩) n2 c2 qs ∧ n1 ≤ 13 ∧ n2 ≤ 13 ∧ (∀ p ∈ ps, p.1.size ≤ 5) ∧ (∀ p ∈ qs, p.1.size ≤ 5) ∧ Below w.heap.size w w'
theorem drawPilesMerge_any (a : Option Addr) (n c : Nat) (z : List Int) (w : World) (h : IsRow .u8 w a n c z) : Calls Try.prog 16 #[.slice a n c] w (DrawP2 w) := by
  go_enter Try.func16, Try.ntmps16
  go_wp2_with fail
  refine (l6Open_any a n c z w h).mono ?_
  rintro e w1 ⟨rfl, hr1, hb1⟩
  go_wp2_with fail
  refine (l91Piles_any _ 0 3 w1 (by omega) hr1 (by omega) (by omega)).mono ?_
  rintro e w2 ⟨gg, nn, cc, ps, rfl, ho, hn, hs, hd⟩
  have hgl := hr1.lt
  have HS := Lib.hid hs
  have HO := Lib.hid ho
  clear ho hs
  go_wp2_with fail
  refine (l91Piles_any _ _ 3 w2 (by omega) hd.rdr (by omega) (by omega)).mono ?_
  rintro e w3 ⟨g2, n2, c2, qs, rfl, ho2, hn2, hs2, hd2⟩
  have hz := hd.size
  have hbw := (hd.trans hd2).belowW hb1 (Nat.le_refl _)
  have HO1 := Lib.hid ((HO.out.above hd2.2.1 hgl).base hb1.size)
  have HS2 := Lib.hid hs2
  have HO2 := Lib.hid (ho2.base (Nat.le_trans hb1.size hz))
  clear ho2 hs2 hd hd2 HO
  go_wp2_with fail
  go_ret2
  exact ⟨gg, nn, cc, ps, g2, n2, c2, qs, rfl, HO1.out, HO2.out, hn, hn2, HS.out, HS2.out, hbw⟩

/-- piles and two numbers for a law -/
def DrawPT (w : World) (e : Ending) (w' : World) : Prop := ∃ gg n c ps x y, e = .returned (.tuple #[.slice (some ⟨gg, 0, none⟩) n c, .int .i64 x, .int .i64 y]) ∧ OwP w' w.heap.size (some ⟨gg, 0, none⟩) n c ps ∧ n ≤ 13 ∧ (∀ p ∈ ps, p.1.size ≤ 5) ∧ (-1 ≤ x ∧ x ≤ 6 ∧ -1 ≤ y ∧ y ≤ 6) ∧ Below w.heap.size w w'
theorem drawPilesTurn_any (a : Option Addr) (n c : Nat) (z : List Int) (w : World) (h : IsRow .u8 w a n c z) : Calls Try.prog 29 #[.slice a n c] w (DrawPT w) := by
  go_enter Try.func29, Try.ntmps29
  go_wp2_with fail
  refine (l6Open_any a n c z w h).mono ?_
  rintro e w1 ⟨rfl, hr1, hb1⟩
  go_wp2_with fail
  refine (l91Piles_any _ 0 4 w1 (by omega) hr1 (by omega) (by omega)).mono ?_
  rintro e w2 ⟨gg, nn, cc, ps, rfl, ho, hn, hs, hd⟩
  have hgl := hr1.lt
  have HS := Lib.hid hs
  have HO := Lib.hid (ho.base hb1.size)
  have hg0 := hb1.size
  have HO := Lib.hid ho
  clear ho hs
  go_wp2_with fail
  refine (pickD_any _ hd (by omega)).mono ?_
  rintro e w3 ⟨v3, rfl, -, -, hd3, hg3, -⟩
  have HO3 := Lib.hid (HO.out.above hg3 hgl)
  clear hg3 HO hd
  by_cases hv : v3 = 0
  · go_wp2_with fail
    refine (pickD_any _ hd3 (by omega)).mono ?_
    rintro e w4 ⟨x, rfl, x0, x1', hd4, hg4, -⟩
    have x1 := x1' (by omega)
    have HO4 := Lib.hid (HO3.out.above hg4 hgl)
    clear x1' hg4 hd3 HO3
    go_wp2_with fail
    refine (pickD_any _ hd4 (by omega)).mono ?_
    rintro e w5 ⟨y, rfl, y0, y1', hd5, hg5, -⟩
    have y1 := y1' (by omega)
    have HO5 := Lib.hid ((HO4.out.above hg5 hgl).base hb1.size)
    clear y1' hg5 hd4 HO4
    have hbw := hd5.belowW hb1 (Nat.le_refl _)
    go_wp2_with fail
    go_ret3
    exact ⟨gg, nn, cc, ps, x - 1, y - 1, rfl, HO5.out, hn, HS.out, by omega, hbw⟩
  · have hv' : (v3 == 0) = false := by simpa using hv
    clear hv
    go_wp2_with fail
    refine (pickD_any _ hd3 (by omega)).mono ?_
    rintro e w4 ⟨x, rfl, x0, x1', hd4, hg4, -⟩
    have x1 := x1' (by omega)
    have HO4 := Lib.hid (HO3.out.above hg4 hgl)
    clear x1' hg4 hd3 HO3
    go_wp2_with fail
    refine (pickD_any _ hd4 (by omega)).mono ?_
    rintro e w5 ⟨y, rfl, y0, y1', hd5, hg5, -⟩
    have y1 := y1' (by omega)
    have HO5 := Lib.hid ((HO4.out.above hg5 hgl).base hb1.size)
    clear y1' hg5 hd4 HO4
    have hbw := hd5.belowW hb1 (Nat.le_refl _)
    go_wp2_with fail
    go_ret3
    exact ⟨gg, nn, cc, ps, x, y, rfl, HO5.out, hn, HS.out, by omega, hbw⟩

/-- piles, a text and a number for a law -/
def DrawPA (w : World) (e : Ending) (w' : World) : Prop := ∃ gg n c ps t m, e = .returned (.tuple #[.slice (some ⟨gg, 0, none⟩) n c, .string t, .int .i64 m]) ∧ OwP w' w.heap.size (some ⟨gg, 0, none⟩) n c ps ∧ n ≤ 13 ∧ (∀ p ∈ ps, p.1.size ≤ 5) ∧ t.size ≤ 5 ∧ (0 ≤ m ∧ m ≤ 1000) ∧ Below w.heap.size w w'
theorem exec_pick {o : Oper} {a : Act} {w : World} {g : Nat} {m : Int} (x y : Operand) (ts : Array TypeId)
    (ho : o.op = .call { callee := .value (.func 52), args := #[x, y], argTypes := ts }) (hx : a.eval x = .pointer (some ⟨g, 0, none⟩)) (hy : a.eval y = .int .i64 m) :
    (execOp a.eval o).run Try.prog w = .ok (.enter 52 #[.pointer (some ⟨g, 0, none⟩), .int .i64 m]) w := by
  unfold execOp
  have hf : a.eval (.func 52) = .func (.func 52) #[] #[] := rfl
  simp only [ho, resolve, Deferred.ofValue, hf, invoke, Sem.run_bind, Sem.run_pure, Result.andThen_ok, List.map_toArray, List.map_cons, List.map_nil, hx, hy]
  have hr := run_pick g m w
  simp only [Array.append_empty, Array.empty_append] at hr ⊢
  rw [hr]
def AddR (g gg n c : Nat) (t : ByteArray) : Nat → Value → World → Prop
  | 0, v, _ | 7, v, _ => v = .slice (some ⟨gg, 0, none⟩) n c
  | 1, v, _ | 8, v, _ => v = .string t
  | 2, v, w => ∃ b, v = .slice (some ⟨b, 0, none⟩) 4 4 ∧ b ≠ g ∧ b < w.heap.size ∧ ∀ j, j < 4 → ∃ u, w.cell? ⟨b, j, none⟩ = some (.int .i64 u) ∧ 0 ≤ u ∧ u ≤ 1000
  | 3, v, _ => v = .pointer (some ⟨g, 0, none⟩)
  | 4, v, _ => ∃ x : Int, v = .int .i64 x ∧ 0 ≤ x ∧ x < 4
  | 5, v, w => ∃ b k u, v = .pointer (some ⟨b, k, none⟩) ∧ b ≠ g ∧ b < w.heap.size ∧ w.cell? ⟨b, k, none⟩ = some (.int .i64 u) ∧ 0 ≤ u ∧ u ≤ 1000
  | 6, v, _ | 9, v, _ => ∃ u, v = .int .i64 u ∧ 0 ≤ u ∧ u ≤ 1000
  | _, _, _ => True
theorem AddR.keep {g gg n c : Nat} {t : ByteArray} : ∀ (j : Nat) (v : Value) (w w' : World), OrdG g g w w' → AddR g gg n c t j v w → AddR g gg n c t j v w' := by
  intro j v w w' hG h
  match j, h with
  | 0, h => exact h
  | 1, h => exact h
  | 2, h =>
    obtain ⟨b, e, h1, h3, h4⟩ := h
    exact ⟨b, e, h1, Nat.lt_of_lt_of_le h3 hG.1, fun j hj => let ⟨u, hu, k⟩ := h4 j hj; ⟨u, hG.cell h3 h1 h1 hu, k⟩⟩
  | 3, h => exact h
  | 4, h => exact h
  | 5, h =>
    obtain ⟨b, k, u, e, h1, h3, h4, h5⟩ := h
    exact ⟨b, k, u, e, h1, Nat.lt_of_lt_of_le h3 hG.1, hG.cell h3 h1 h1 h4, h5⟩
  | 6, h => exact h
  | 7, h => exact h
  | 8, h => exact h
  | 9, h => exact h
  | _ + 10, _ => trivial
def AddJ (W : World) (g P gg n c : Nat) (ps : List Pil.Pl) (k : Nat) (w : World) : Prop := Dr W g (P + k) w ∧ OwP w W.heap.size (some ⟨gg, 0, none⟩) n c ps
theorem AddJ.same {W w : World} {g P gg n c k : Nat} {ps : List Pil.Pl} (h : AddJ W g P gg n c ps k w) : AddJ W g P gg n c ps (k + 1) w := ⟨h.1.mono (by omega), h.2⟩
theorem addLit {w : World} {g : Nat} (x y z u : Int) (T : TypeId) (hx : 0 ≤ x ∧ x ≤ 1000) (hy : 0 ≤ y ∧ y ≤ 1000) (hz : 0 ≤ z ∧ z ≤ 1000) (hu : 0 ≤ u ∧ u ≤ 1000) (hg : g < w.heap.size) : ∃ b, Value.slice (some ⟨w.heap.size, 0, none⟩) 4 4 = .slice (some ⟨b, 0, none⟩) 4 4 ∧ b ≠ g ∧ b < (w.alloc (.cells #[.int .i64 x, .int .i64 y, .int .i64 z, .int .i64 u] T)).heap.size ∧ ∀ j, j < 4 → ∃ k, (w.alloc (.cells #[.int .i64 x, .int .i64 y, .int .i64 z, .int .i64 u] T)).cell? ⟨b, j, none⟩ = some (.int .i64 k) ∧ 0 ≤ k ∧ k ≤ 1000 := by
  refine ⟨_, rfl, by omega, by simp, fun j hj => ?_⟩
  match j, hj with
  | 0, _ => exact ⟨x, by simp [go_sem], hx⟩
  | 1, _ => exact ⟨y, by simp [go_sem], hy⟩
  | 2, _ => exact ⟨z, by simp [go_sem], hz⟩
  | 3, _ => exact ⟨u, by simp [go_sem], hu⟩
set_option maxRecDepth 8000 in
set_option maxHeartbeats 3200000 in
theorem drawPilesAdd_any (a : Option Addr) (n c : Nat) (z : List Int) (w : World) (h : IsRow .u8 w a n c z) : Calls Try.prog 36 #[.slice a n c] w (DrawPA w) := by
  go_enter Try.func36, Try.ntmps36
  go_wp2_with fail
  refine (l6Open_any a n c z w h).mono ?_
  rintro e w1 ⟨rfl, hr1, hb1⟩
  go_wp2_with fail
  refine (l91Piles_any _ 0 4 w1 (by omega) hr1 (by omega) (by omega)).mono ?_
  rintro e w2 ⟨gg, nn, cc, ps, rfl, ho, hn, hs, hd⟩
  have hgl := hr1.lt
  have hg0 := hb1.size
  have HS := Lib.hid hs
  have HLn := Lib.hid ho.len
  have HO := Lib.hid ho
  clear ho hs
  go_wp2_with fail
  refine (l91Ballot_any _ _ 4 w2 (by omega) hd.rdr (by omega) (by omega)).mono ?_
  rintro e w3 ⟨A3, n3, c3, xs, rfl, ho3, hn3, hd3'⟩
  have hd3 := hd.trans hd3'
  have HO3 := Lib.hid (HO.out.above hd3'.2.1 hgl)
  have HBT := Lib.hid (sBallotText_any A3 n3 c3 xs w3 ho3.rd ho3.cap.1 (by omega) ho3.cap.2)
  have htz := text_size xs
  clear hd hd3' ho3 HO
  go_wp2_with fail
  refine HBT.out.mono ?_
  rintro e w4 ⟨rfl, q, hq⟩
  have hd4 : Dr w1 w.heap.size (0 + 700 + 13) w4 := by rw [hq]; exact hd3.drewN q
  have HO4 : Hid (OwP w4 w1.heap.size (some ⟨gg, 0, none⟩) nn cc ps) := by
    show OwP w4 w1.heap.size (some ⟨gg, 0, none⟩) nn cc ps
    rw [hq]; exact HO3.out.drewN q
  clear hq hd3 HBT HO3
  generalize (⟨(Bal.text xs).toArray⟩ : ByteArray) = t at *
  by_cases hn0 : 0 < nn
  · have hn0' : (0 : Int) < (nn : Int) := by omega
    go_wp2_with fail
    refine (pickD_any _ hd4 (by omega)).mono ?_
    rintro e w5 ⟨v5, rfl, -, -, hd5, hg5, -⟩
    have HO5 := Lib.hid (HO4.out.above hg5 hgl)
    clear hg5 HO4 hd4
    by_cases hv5 : v5 = 0
    · subst hv5
      go_wp2_with fail
      refine (pickD_any _ hd5 (by omega)).mono ?_
      rintro e wp ⟨vp, rfl, p0, p1', hdp, hgp, -⟩
      have p1 := p1' (by omega)
      have HOp := Lib.hid (HO5.out.above hgp hgl)
      obtain ⟨j, rfl⟩ : ∃ j : Nat, vp = j := ⟨vp.toNat, by omega⟩
      have hj2 : j < ps.length := by have := HLn.out; omega
      obtain ⟨g', hg', -, -, hcl⟩ := HOp.out.at_ hn0
      obtain rfl : g' = gg := by injection hg' with e; injection e with e; exact e.symm
      obtain ⟨d0, -, -, -⟩ := hcl j hj2
      have hts : ps[j].1.size ≤ 5 := HS.out _ (List.getElem_mem hj2)
      clear hgp HO5 hd5 p1' hcl hg' htz
      generalize ps[j].1 = t at *
      have htz := hts
      clear hts
      go_wp2_with fail
      refine (pickD_any _ hdp (by omega)).mono ?_
      rintro e w6 ⟨v6, rfl, -, -, hd6, hg6, -⟩
      have HO6 := Lib.hid (HOp.out.above hg6 hgl)
      clear hg6 HOp hdp
      by_cases hv6 : v6 = 0
      · subst hv6
        go_wp2_with fail
        refine wp_region_ord2 (AddR w.heap.size g' nn cc t) (AddJ w1 w.heap.size (0 + 700 + 13 + 1 + 1 + 1) g' nn cc ps) (OrdG w.heap.size w.heap.size) (by kernel_rfl) (by kernel_rfl) ⟨hd6.drew.mono (by omega), HO6.out.drew⟩ AddR.keep ?_ ?_
        · clear HO6 hd6
          refine ⟨?_, ?_, ?_, ?_, ?_, ?_, ?_, ?_, ?_, ?_, trivial⟩
          case refine_1 =>
            intro a w k hk hJ hold hdep K hK
            have h0 := hold 6 (by kernel_rfl)
            refine ord_value rfl (by simp [execOp, h0]; rfl) (hK _ _ hJ.same (OrdG.refl _ _ _) rfl)
          case refine_2 =>
            intro a w k hk hJ hold hdep K hK
            have h0 := hold 7 (by kernel_rfl)
            refine ord_value rfl (by simp [execOp, h0]; rfl) (hK _ _ hJ.same (OrdG.refl _ _ _) rfl)
          case refine_3 =>
            intro a w k hk hJ hold hdep K hK
            have hg := hJ.1.lt
            have hz := hJ.1.size
            refine ord_value rfl (by simp [execOp, Act.eval, go_sem]; rfl) (hK _ _ ⟨(hJ.1.mono (by omega)).alloc _, hJ.2.alloc _⟩ (OrdG.below ((Below.refl _ _).alloc (Nat.le_refl _) _)) (addLit _ _ _ _ _ (by omega) (by omega) (by omega) (by omega) (by omega)))
          case refine_4 =>
            intro a w k hk hJ hold hdep K hK
            have h0 := hold 5 (by kernel_rfl)
            refine ord_value rfl (by simp [execOp, h0]; rfl) (hK _ _ hJ.same (OrdG.refl _ _ _) rfl)
          case refine_5 =>
            intro a w k hk hJ hold hdep K hK
            have hk10 : k < 10 := hk
            refine ord_enter rfl (exec_pick _ _ _ rfl (hdep 3 _ 37 rfl rfl (by kernel_rfl)) rfl) ((pickD_any _ hJ.1 (by omega)).mono ?_)
            rintro e w2 ⟨v, rfl, h0, h3, hd2, hg2, hz2⟩
            exact ⟨_, rfl, hK _ _ ⟨hd2, hJ.2.above hg2 hgl⟩ (OrdG.grown hg2) ⟨v, rfl, h0, h3 (by omega)⟩⟩
          case refine_6 =>
            intro a w k hk hJ hold hdep K hK
            obtain ⟨b, hb, n1, n3, hc⟩ := hdep 2 _ 36 rfl rfl (by kernel_rfl)
            obtain ⟨x, hx, x0, x3⟩ := hdep 4 _ 38 rfl rfl (by kernel_rfl)
            obtain ⟨m, rfl⟩ : ∃ m : Nat, x = m := ⟨x.toNat, by omega⟩
            obtain ⟨u, hu, hu2⟩ := hc m (by omega)
            exact ord_value rfl (v := .pointer (some ⟨b, m, none⟩)) (by clear hu; rcases (show m = 0 ∨ m = 1 ∨ m = 2 ∨ m = 3 by omega) with rfl | rfl | rfl | rfl <;> (simp only [execOp, hb, hx]; simp [go_sem]; try rfl)) (hK _ _ hJ.same (OrdG.refl _ _ _) ⟨b, m, u, rfl, n1, n3, hu, hu2⟩)
          case refine_7 =>
            intro a w k hk hJ hold hdep K hK
            obtain ⟨b, m, u, hb, n1, n3, hu, hu2⟩ := hdep 5 _ 39 rfl rfl (by kernel_rfl)
            exact ord_value rfl (v := .int .i64 u) (by simp only [execOp, hb]; simp [hu, go_sem]) (hK _ _ hJ.same (OrdG.refl _ _ _) ⟨u, rfl, hu2⟩)
          case refine_8 =>
            intro a w k hk hJ hold hdep K hK
            have h0 := hdep 0 _ 34 rfl rfl (by kernel_rfl)
            exact ord_value rfl (v := .slice (some ⟨g', 0, none⟩) nn cc) (by have h0' : a.eval (.tmp 34) = _ := h0; simp [execOp, h0']; try rfl) (hK _ _ hJ.same (OrdG.refl _ _ _) rfl)
          case refine_9 =>
            intro a w k hk hJ hold hdep K hK
            have h0 := hdep 1 _ 35 rfl rfl (by kernel_rfl)
            exact ord_value rfl (v := .string t) (by have h0' : a.eval (.tmp 35) = _ := h0; simp [execOp, h0']; try rfl) (hK _ _ hJ.same (OrdG.refl _ _ _) rfl)
          case refine_10 =>
            intro a w k hk hJ hold hdep K hK
            obtain ⟨u, hu, hu2⟩ := hdep 6 _ 40 rfl rfl (by kernel_rfl)
            exact ord_value rfl (v := .int .i64 u) (by have h0' : a.eval (.tmp 40) = _ := hu; simp [execOp, h0']; try rfl) (hK _ _ hJ.same (OrdG.refl _ _ _) ⟨u, rfl, hu2⟩)
        · rintro us w7 hl ⟨hd, ho⟩ hR
          obtain ⟨u0, u1, u2, u3, u4, u5, u6, u7, u8, u9, rfl⟩ : ∃ u0 u1 u2 u3 u4 u5 u6 u7 u8 u9, us = [u0, u1, u2, u3, u4, u5, u6, u7, u8, u9] := by
            match us, hl with
            | [u0, u1, u2, u3, u4, u5, u6, u7, u8, u9], _ => exact ⟨_, _, _, _, _, _, _, _, _, _, rfl⟩
          obtain rfl : u7 = .slice (some ⟨g', 0, none⟩) nn cc := hR 7 u7 rfl
          obtain rfl : u8 = .string t := hR 8 u8 rfl
          obtain ⟨m, rfl, hm⟩ : ∃ m : Int, u9 = .int .i64 m ∧ 0 ≤ m ∧ m ≤ 1000 := hR 9 u9 rfl
          have hbw := hd.belowW hb1 (Nat.le_refl _)
          have HO7 := Lib.hid (ho.base hb1.size)
          clear hl hd ho hR HO6 hd6
          simp only [List.map_cons, List.map_nil, ordFill, Act.put]
          go_wp2_with fail
          exact bodyPost_ret (v := .tuple #[.slice (some ⟨g', 0, none⟩) nn cc, .string t, .int .i64 m]) (by simp [results, Try.results36, go_sem]) rfl ⟨g', nn, cc, ps, t, m, rfl, HO7.out, hn, HS.out, htz, hm, hbw⟩
      · have hv6' : (v6 == 0) = false := by simpa using hv6
        clear hv6
        go_wp2_with fail
        refine (pickD_any _ hd6 (by omega)).mono ?_
        rintro e w7 ⟨v7, rfl, m0, m1', hd7, hg7, -⟩
        have m1 := m1' (by omega)
        have HO7 := Lib.hid ((HO6.out.above hg7 hgl).base hb1.size)
        have hbw := hd7.belowW hb1 (Nat.le_refl _)
        clear m1' hg7 HO6 hd6 hd7
        go_wp2_with fail
        go_ret3
        exact ⟨g', nn, cc, ps, t, 1 + v7, rfl, HO7.out, hn, HS.out, htz, by omega, hbw⟩
    · have hv5' : (v5 == 0) = false := by simpa using hv5
      clear hv5
      go_wp2_with fail
      refine (pickD_any _ hd5 (by omega)).mono ?_
      rintro e w6 ⟨v6, rfl, -, -, hd6, hg6, -⟩
      have HO6 := Lib.hid (HO5.out.above hg6 hgl)
      clear hg6 HO5 hd5
      by_cases hv6 : v6 = 0
      · subst hv6
        go_wp2_with fail
        refine wp_region_ord2 (AddR w.heap.size gg nn cc t) (AddJ w1 w.heap.size (0 + 700 + 13 + 1 + 1) gg nn cc ps) (OrdG w.heap.size w.heap.size) (by kernel_rfl) (by kernel_rfl) ⟨hd6.drew.mono (by omega), HO6.out.drew⟩ AddR.keep ?_ ?_
        · clear HO6 hd6
          refine ⟨?_, ?_, ?_, ?_, ?_, ?_, ?_, ?_, ?_, ?_, trivial⟩
          case refine_1 =>
            intro a w k hk hJ hold hdep K hK
            have h0 := hold 6 (by kernel_rfl)
            refine ord_value rfl (by simp [execOp, h0]; rfl) (hK _ _ hJ.same (OrdG.refl _ _ _) rfl)
          case refine_2 =>
            intro a w k hk hJ hold hdep K hK
            have h0 := hold 7 (by kernel_rfl)
            refine ord_value rfl (by simp [execOp, h0]; rfl) (hK _ _ hJ.same (OrdG.refl _ _ _) rfl)
          case refine_3 =>
            intro a w k hk hJ hold hdep K hK
            have hg := hJ.1.lt
            have hz := hJ.1.size
            refine ord_value rfl (by simp [execOp, Act.eval, go_sem]; rfl) (hK _ _ ⟨(hJ.1.mono (by omega)).alloc _, hJ.2.alloc _⟩ (OrdG.below ((Below.refl _ _).alloc (Nat.le_refl _) _)) (addLit _ _ _ _ _ (by omega) (by omega) (by omega) (by omega) (by omega)))
          case refine_4 =>
            intro a w k hk hJ hold hdep K hK
            have h0 := hold 5 (by kernel_rfl)
            refine ord_value rfl (by simp [execOp, h0]; rfl) (hK _ _ hJ.same (OrdG.refl _ _ _) rfl)
          case refine_5 =>
            intro a w k hk hJ hold hdep K hK
            have hk10 : k < 10 := hk
            refine ord_enter rfl (exec_pick _ _ _ rfl (hdep 3 _ 37 rfl rfl (by kernel_rfl)) rfl) ((pickD_any _ hJ.1 (by omega)).mono ?_)
            rintro e w2 ⟨v, rfl, h0, h3, hd2, hg2, hz2⟩
            exact ⟨_, rfl, hK _ _ ⟨hd2, hJ.2.above hg2 hgl⟩ (OrdG.grown hg2) ⟨v, rfl, h0, h3 (by omega)⟩⟩
          case refine_6 =>
            intro a w k hk hJ hold hdep K hK
            obtain ⟨b, hb, n1, n3, hc⟩ := hdep 2 _ 36 rfl rfl (by kernel_rfl)
            obtain ⟨x, hx, x0, x3⟩ := hdep 4 _ 38 rfl rfl (by kernel_rfl)
            obtain ⟨m, rfl⟩ : ∃ m : Nat, x = m := ⟨x.toNat, by omega⟩
            obtain ⟨u, hu, hu2⟩ := hc m (by omega)
            exact ord_value rfl (v := .pointer (some ⟨b, m, none⟩)) (by clear hu; rcases (show m = 0 ∨ m = 1 ∨ m = 2 ∨ m = 3 by omega) with rfl | rfl | rfl | rfl <;> (simp only [execOp, hb, hx]; simp [go_sem]; try rfl)) (hK _ _ hJ.same (OrdG.refl _ _ _) ⟨b, m, u, rfl, n1, n3, hu, hu2⟩)
          case refine_7 =>
            intro a w k hk hJ hold hdep K hK
            obtain ⟨b, m, u, hb, n1, n3, hu, hu2⟩ := hdep 5 _ 39 rfl rfl (by kernel_rfl)
            exact ord_value rfl (v := .int .i64 u) (by simp only [execOp, hb]; simp [hu, go_sem]) (hK _ _ hJ.same (OrdG.refl _ _ _) ⟨u, rfl, hu2⟩)
          case refine_8 =>
            intro a w k hk hJ hold hdep K hK
            have h0 := hdep 0 _ 34 rfl rfl (by kernel_rfl)
            exact ord_value rfl (v := .slice (some ⟨gg, 0, none⟩) nn cc) (by have h0' : a.eval (.tmp 34) = _ := h0; simp [execOp, h0']; try rfl) (hK _ _ hJ.same (OrdG.refl _ _ _) rfl)
          case refine_9 =>
            intro a w k hk hJ hold hdep K hK
            have h0 := hdep 1 _ 35 rfl rfl (by kernel_rfl)
            exact ord_value rfl (v := .string t) (by have h0' : a.eval (.tmp 35) = _ := h0; simp [execOp, h0']; try rfl) (hK _ _ hJ.same (OrdG.refl _ _ _) rfl)
          case refine_10 =>
            intro a w k hk hJ hold hdep K hK
            obtain ⟨u, hu, hu2⟩ := hdep 6 _ 40 rfl rfl (by kernel_rfl)
            exact ord_value rfl (v := .int .i64 u) (by have h0' : a.eval (.tmp 40) = _ := hu; simp [execOp, h0']; try rfl) (hK _ _ hJ.same (OrdG.refl _ _ _) ⟨u, rfl, hu2⟩)
        · rintro us w7 hl ⟨hd, ho⟩ hR
          obtain ⟨u0, u1, u2, u3, u4, u5, u6, u7, u8, u9, rfl⟩ : ∃ u0 u1 u2 u3 u4 u5 u6 u7 u8 u9, us = [u0, u1, u2, u3, u4, u5, u6, u7, u8, u9] := by
            match us, hl with
            | [u0, u1, u2, u3, u4, u5, u6, u7, u8, u9], _ => exact ⟨_, _, _, _, _, _, _, _, _, _, rfl⟩
          obtain rfl : u7 = .slice (some ⟨gg, 0, none⟩) nn cc := hR 7 u7 rfl
          obtain rfl : u8 = .string t := hR 8 u8 rfl
          obtain ⟨m, rfl, hm⟩ : ∃ m : Int, u9 = .int .i64 m ∧ 0 ≤ m ∧ m ≤ 1000 := hR 9 u9 rfl
          have hbw := hd.belowW hb1 (Nat.le_refl _)
          have HO7 := Lib.hid (ho.base hb1.size)
          clear hl hd ho hR HO6 hd6
          simp only [List.map_cons, List.map_nil, ordFill, Act.put]
          go_wp2_with fail
          exact bodyPost_ret (v := .tuple #[.slice (some ⟨gg, 0, none⟩) nn cc, .string t, .int .i64 m]) (by simp [results, Try.results36, go_sem]) rfl ⟨gg, nn, cc, ps, t, m, rfl, HO7.out, hn, HS.out, htz, hm, hbw⟩
      · have hv6' : (v6 == 0) = false := by simpa using hv6
        clear hv6
        go_wp2_with fail
        refine (pickD_any _ hd6 (by omega)).mono ?_
        rintro e w7 ⟨v7, rfl, m0, m1', hd7, hg7, -⟩
        have m1 := m1' (by omega)
        have HO7 := Lib.hid ((HO6.out.above hg7 hgl).base hb1.size)
        have hbw := hd7.belowW hb1 (Nat.le_refl _)
        clear m1' hg7 HO6 hd6 hd7
        go_wp2_with fail
        go_ret3
        exact ⟨gg, nn, cc, ps, t, 1 + v7, rfl, HO7.out, hn, HS.out, htz, by omega, hbw⟩
  · have hn0' : ¬ (0 : Int) < (nn : Int) := by omega
    go_wp2_with fail
    refine (pickD_any _ hd4 (by omega)).mono ?_
    rintro e w6 ⟨v6, rfl, -, -, hd6, hg6, -⟩
    have HO6 := Lib.hid (HO4.out.above hg6 hgl)
    clear hg6 HO4 hd4
    by_cases hv6 : v6 = 0
    · subst hv6
      go_wp2_with fail
      refine wp_region_ord2 (AddR w.heap.size gg nn cc t) (AddJ w1 w.heap.size (0 + 700 + 13 + 1) gg nn cc ps) (OrdG w.heap.size w.heap.size) (by kernel_rfl) (by kernel_rfl) ⟨hd6.drew.mono (by omega), HO6.out.drew⟩ AddR.keep ?_ ?_
      · clear HO6 hd6
        refine ⟨?_, ?_, ?_, ?_, ?_, ?_, ?_, ?_, ?_, ?_, trivial⟩
        case refine_1 =>
          intro a w k hk hJ hold hdep K hK
          have h0 := hold 6 (by kernel_rfl)
          refine ord_value rfl (by simp [execOp, h0]; rfl) (hK _ _ hJ.same (OrdG.refl _ _ _) rfl)
        case refine_2 =>
          intro a w k hk hJ hold hdep K hK
          have h0 := hold 7 (by kernel_rfl)
          refine ord_value rfl (by simp [execOp, h0]; rfl) (hK _ _ hJ.same (OrdG.refl _ _ _) rfl)
        case refine_3 =>
          intro a w k hk hJ hold hdep K hK
          have hg := hJ.1.lt
          have hz := hJ.1.size
          refine ord_value rfl (by simp [execOp, Act.eval, go_sem]; rfl) (hK _ _ ⟨(hJ.1.mono (by omega)).alloc _, hJ.2.alloc _⟩ (OrdG.below ((Below.refl _ _).alloc (Nat.le_refl _) _)) (addLit _ _ _ _ _ (by omega) (by omega) (by omega) (by omega) (by omega)))
        case refine_4 =>
          intro a w k hk hJ hold hdep K hK
          have h0 := hold 5 (by kernel_rfl)
          refine ord_value rfl (by simp [execOp, h0]; rfl) (hK _ _ hJ.same (OrdG.refl _ _ _) rfl)
        case refine_5 =>
          intro a w k hk hJ hold hdep K hK
          have hk10 : k < 10 := hk
          refine ord_enter rfl (exec_pick _ _ _ rfl (hdep 3 _ 37 rfl rfl (by kernel_rfl)) rfl) ((pickD_any _ hJ.1 (by omega)).mono ?_)
          rintro e w2 ⟨v, rfl, h0, h3, hd2, hg2, hz2⟩
          exact ⟨_, rfl, hK _ _ ⟨hd2, hJ.2.above hg2 hgl⟩ (OrdG.grown hg2) ⟨v, rfl, h0, h3 (by omega)⟩⟩
        case refine_6 =>
          intro a w k hk hJ hold hdep K hK
          obtain ⟨b, hb, n1, n3, hc⟩ := hdep 2 _ 36 rfl rfl (by kernel_rfl)
          obtain ⟨x, hx, x0, x3⟩ := hdep 4 _ 38 rfl rfl (by kernel_rfl)
          obtain ⟨m, rfl⟩ : ∃ m : Nat, x = m := ⟨x.toNat, by omega⟩
          obtain ⟨u, hu, hu2⟩ := hc m (by omega)
          exact ord_value rfl (v := .pointer (some ⟨b, m, none⟩)) (by clear hu; rcases (show m = 0 ∨ m = 1 ∨ m = 2 ∨ m = 3 by omega) with rfl | rfl | rfl | rfl <;> (simp only [execOp, hb, hx]; simp [go_sem]; try rfl)) (hK _ _ hJ.same (OrdG.refl _ _ _) ⟨b, m, u, rfl, n1, n3, hu, hu2⟩)
        case refine_7 =>
          intro a w k hk hJ hold hdep K hK
          obtain ⟨b, m, u, hb, n1, n3, hu, hu2⟩ := hdep 5 _ 39 rfl rfl (by kernel_rfl)
          exact ord_value rfl (v := .int .i64 u) (by simp only [execOp, hb]; simp [hu, go_sem]) (hK _ _ hJ.same (OrdG.refl _ _ _) ⟨u, rfl, hu2⟩)
        case refine_8 =>
          intro a w k hk hJ hold hdep K hK
          have h0 := hdep 0 _ 34 rfl rfl (by kernel_rfl)
          exact ord_value rfl (v := .slice (some ⟨gg, 0, none⟩) nn cc) (by have h0' : a.eval (.tmp 34) = _ := h0; simp [execOp, h0']; try rfl) (hK _ _ hJ.same (OrdG.refl _ _ _) rfl)
        case refine_9 =>
          intro a w k hk hJ hold hdep K hK
          have h0 := hdep 1 _ 35 rfl rfl (by kernel_rfl)
          exact ord_value rfl (v := .string t) (by have h0' : a.eval (.tmp 35) = _ := h0; simp [execOp, h0']; try rfl) (hK _ _ hJ.same (OrdG.refl _ _ _) rfl)
        case refine_10 =>
          intro a w k hk hJ hold hdep K hK
          obtain ⟨u, hu, hu2⟩ := hdep 6 _ 40 rfl rfl (by kernel_rfl)
          exact ord_value rfl (v := .int .i64 u) (by have h0' : a.eval (.tmp 40) = _ := hu; simp [execOp, h0']; try rfl) (hK _ _ hJ.same (OrdG.refl _ _ _) ⟨u, rfl, hu2⟩)
      · rintro us w7 hl ⟨hd, ho⟩ hR
        obtain ⟨u0, u1, u2, u3, u4, u5, u6, u7, u8, u9, rfl⟩ : ∃ u0 u1 u2 u3 u4 u5 u6 u7 u8 u9, us = [u0, u1, u2, u3, u4, u5, u6, u7, u8, u9] := by
          match us, hl with
          | [u0, u1, u2, u3, u4, u5, u6, u7, u8, u9], _ => exact ⟨_, _, _, _, _, _, _, _, _, _, rfl⟩
        obtain rfl : u7 = .slice (some ⟨gg, 0, none⟩) nn cc := hR 7 u7 rfl
        obtain rfl : u8 = .string t := hR 8 u8 rfl
        obtain ⟨m, rfl, hm⟩ : ∃ m : Int, u9 = .int .i64 m ∧ 0 ≤ m ∧ m ≤ 1000 := hR 9 u9 rfl
        have hbw := hd.belowW hb1 (Nat.le_refl _)
        have HO7 := Lib.hid (ho.base hb1.size)
        clear hl hd ho hR HO6 hd6
        simp only [List.map_cons, List.map_nil, ordFill, Act.put]
        go_wp2_with fail
        exact bodyPost_ret (v := .tuple #[.slice (some ⟨gg, 0, none⟩) nn cc, .string t, .int .i64 m]) (by simp [results, Try.results36, go_sem]) rfl ⟨gg, nn, cc, ps, t, m, rfl, HO7.out, hn, HS.out, htz, hm, hbw⟩
    · have hv6' : (v6 == 0) = false := by simpa using hv6
      clear hv6
      go_wp2_with fail
      refine (pickD_any _ hd6 (by omega)).mono ?_
      rintro e w7 ⟨v7, rfl, m0, m1', hd7, hg7, -⟩
      have m1 := m1' (by omega)
      have HO7 := Lib.hid ((HO6.out.above hg7 hgl).base hb1.size)
      have hbw := hd7.belowW hb1 (Nat.le_refl _)
      clear m1' hg7 HO6 hd6 hd7
      go_wp2_with fail
      go_ret3
      exact ⟨gg, nn, cc, ps, t, 1 + v7, rfl, HO7.out, hn, HS.out, htz, by omega, hbw⟩
end Go.Proofs.Ytlfgmljgoolbeaa
