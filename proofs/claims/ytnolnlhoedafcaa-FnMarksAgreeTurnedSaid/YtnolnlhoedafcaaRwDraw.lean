/- DrawMarksAgree draws marks of several readers. -/
import Derived.Test.YtnolnlhoedafcaaRwMarks
namespace Go.Proofs.Ytnolnlhoedafcaa
open Go.RowKit
set_option linter.unusedSimpArgs false

theorem wpList_appQ {ops : Array Oper} {rest : List Oper} {o : Oper} {a : Act} {Q : Exit → Act → World → Prop} {W : World} (hgd : o.guard = none) (s x : Operand)
    (ho : o.op = .call { callee := .builtin .append, args := #[s, x], argTypes := #[22, 22] })
    {B n c b c2 : Nat} {A : Option Addr} {Xs : List Rw} (hs : a.eval s = .slice A n c) (hx : a.eval x = .slice (some ⟨b, 0, none⟩) 1 c2) (h : OwQ W B A n c Xs) (y : Rw) (Aj : Option Addr) (cj l : Nat) (hl : y.length = l) (hy : OwA W B Aj l cj y) (hne : ∀ g, Aj = some ⟨g, 0, none⟩ → A ≠ some ⟨g, 0, none⟩)
    (hc : W.cell? ⟨b, 0, none⟩ = some (.slice Aj l cj)) (hn : n ≤ 4194303) (hB : B ≤ W.heap.size)
    (hk : ∀ g' c' w', OwQ w' B (some ⟨g', 0, none⟩) (n + 1) c' (Xs ++ [y]) → Below B W w' → wpList Try.prog ops Q rest (a.put o.dst (.slice (some ⟨g', 0, none⟩) (n + 1) c')) w') :
    wpList Try.prog ops Q (o :: rest) a W :=
  wpList_plain hgd fun _ hK => by
    subst hl
    obtain ⟨g', c', w', hr, h1, h2⟩ := run_appQ o.type h y Aj cj c2 hy hne hc hn hB
    unfold Oper.wp execOp
    simp only [ho, resolve, invoke, builtin, Sem.run_bind, Sem.run_pure, Result.andThen_ok, List.map_toArray, List.map_cons, List.map_nil, hs, hx, hr]
    exact hK _ _ (hk g' c' w' h1 h2)
/-- of the blocks from B on that W has, none has turned -/
def Stay (W : World) (B : Nat) (W' : World) : Prop := ∀ i, B ≤ i → i < W.heap.size → W'.heap[i]? = W.heap[i]?
theorem Stay.pick {W w1 w2 : World} {B g : Nat} (h : Stay W B w1) (hs : W.heap.size ≤ w1.heap.size) (hg : w1.grownBy w2 (some g)) (hlt : g < B) : Stay W B w2 := fun i h1 h2 => (hg.block i (by omega) (fun e => by injection e with e; omega)).trans (h i h1 h2)
theorem Stay.set {W w1 : World} {B b o : Nat} {v : Value} (h : Stay W B w1) (hb : W.heap.size ≤ b) : Stay W B (w1.setCell ⟨b, o, none⟩ v) := fun i h1 h2 => (Below.heap_setCell w1 ⟨b, o, none⟩ v i (by simp; omega)).trans (h i h1 h2)
theorem OwA.low {W W' : World} {B n c H : Nat} {A : Option Addr} {xs : List Int} (h : OwA W B A n c xs) (hl : ∀ g, A = some ⟨g, 0, none⟩ → g < H) (hb : Below H W W') : OwA W' B A n c xs := h.keep fun g hg _ => hb.block g (hl g hg)

/-- several readers' marks for a law -/
def DrawM (w : World) (e : Ending) (w' : World) : Prop := ∃ G n c Xs, e = .returned (.slice (some ⟨G, 0, none⟩) n c) ∧ OwQ w' w.heap.size (some ⟨G, 0, none⟩) n c Xs ∧ n ≤ 8 ∧ (∀ x ∈ Xs, x.length ≤ 8) ∧ Below w.heap.size w w'
set_option maxHeartbeats 3200000 in
theorem drawMarksAgree_any (a : Option Addr) (n c : Nat) (z : List Int) (w : World) (h : IsRow .u8 w a n c z) : Calls Try.prog 16 #[.slice a n c] w (DrawM w) := by
  go_enter Try.func16, Try.ntmps16
  go_wp2_with fail
  refine (l6Open_any a n c z w h).mono ?_
  rintro e w1 ⟨rfl, hr1, hb1⟩
  have hgl := hr1.lt
  have hg0 := hb1.size
  have hd1 := Dr.start hr1
  clear h hr1
  go_wp2_with fail
  refine (pickD_any _ hd1 (by omega)).mono ?_
  rintro e w2 ⟨v, rfl, v0, v1', hd2, -, -⟩
  have v1 := v1' (by omega)
  have hs2 := hd2.size
  clear v1' hd1
  go_wp2_with fail
  refine (l91MarksE_any _ (0 + 1) (1 + v) w2 (by omega) hd2.rdr (by omega) (by omega)).mono ?_
  rintro e w3 ⟨A3, n3, c3, xs, rfl, ho3, hn3, hd3'⟩
  have hd3 := hd2.trans hd3'
  have hs3 := hd3.size
  obtain rfl : v = (n3 : Int) - 1 := by omega
  have hn0 : 0 < n3 := by omega
  have hn5 : n3 ≤ 5 := by omega
  obtain ⟨gm, rfl, hBm, hlm, -⟩ := ho3.at_ hn0
  have HM := Lib.hid (ho3.base hs2)
  have HLx := Lib.hid ho3.len
  have HE := Lib.hid (OwQ.empty w3 w3.heap.size (Nat.le_refl _))
  clear ho3 hd3' hd2 hn3
  go_wp2_with fail
  refine (pickD_any _ (hd3.alloc _) (by omega)).mono ?_
  rintro e w4 ⟨v4, rfl, v40, v41', hd4, hg4, -⟩
  have v41 := v41' (by omega)
  have HE4 := Lib.hid (HE.out.above hg4 (show w.heap.size < w3.heap.size by omega))
  have HM4 := Lib.hid ((HM.out.alloc (.cells #[] 24)).above hg4 (show w.heap.size < w1.heap.size from hgl))
  have hs4 : w3.heap.size ≤ w4.heap.size := Nat.le_trans (by simp) hg4.size
  clear v41' hg4 hd3 HE HM
  go_wp2_with fail
  refine (pickD_any _ hd4 (by omega)).mono ?_
  rintro e w5 ⟨v5, rfl, -, -, hd5, hg5, -⟩
  have HE5 := Lib.hid (HE4.out.above hg5 (show w.heap.size < w3.heap.size by omega))
  have HM5 := Lib.hid (HM4.out.above hg5 hgl)
  have hs5 := Nat.le_trans hs4 hg5.size
  clear hg5 hd4 HE4 HM4
  by_cases hv5 : v5 = 0
  · subst hv5
    go_wp2_with fail
    refine (pickD_any _ hd5 (by omega)).mono ?_
    rintro e w6 ⟨v6, rfl, v60, v61', hd6, hg6, -⟩
    have v61 := v61' (by omega)
    have HE6 := Lib.hid (HE5.out.above hg6 (show w.heap.size < w3.heap.size by omega))
    have HM6 := Lib.hid (HM5.out.above hg6 hgl)
    have hs6 := Nat.le_trans hs5 hg6.size
    clear v61' hg6 hd5 HE5 HM5
    go_wp2_with fail
    go_loopw [6, 8] (fun v i wr => ∃ (k G cc : Nat) (Xs : List Rw), (k : Int) ≤ v6 ∧ i = .int .i64 k ∧ v = .slice (some ⟨G, 0, none⟩) k cc ∧ OwQ wr w3.heap.size (some ⟨G, 0, none⟩) k cc Xs ∧ (∀ x ∈ Xs, x.length = n3) ∧ OwA wr w1.heap.size (some ⟨gm, 0, none⟩) n3 c3 xs ∧ Dr w1 w.heap.size (100 + 3 * k) wr ∧ w3.heap.size ≤ wr.heap.size) (fun _ i _ => 8 - (intOf i).toNat)
    case atStart => exact ⟨0, _, _, [], by omega, rfl, rfl, HE6.out, by simp, HM6.out, hd6.mono (by omega), hs6⟩
    case round =>
      obtain ⟨k, G, cc, Xs, hk, rfl, rfl, hq, hxl, hm, hd, hs⟩ := hrel
      have HQ := Lib.hid hq
      have HX := Lib.hid hxl
      have HM := Lib.hid hm
      obtain ⟨hG0, hG1⟩ := hq.fromB
      clear hq hxl hm HE6 HM6 hd6
      by_cases hlt : (k : Int) < v6
      · have HEr := Lib.hid (OwA.empty wr w3.heap.size hs)
        have HSr := Lib.hid (src_take (HM.out.alloc (.cells #[] 3)).rd n3 (Nat.le_refl _))
        have hxt : xs.take n3 = xs := List.take_of_length_le (by have := HLx.out; omega)
        have hsr := HSr.out
        rw [hxt] at hsr
        have HSr2 := Lib.hid hsr
        clear hsr hxt HSr
        go_wp2_with (at_builtin; refine wpList_appN (by rfl) _ _ (by rfl) (B := w3.heap.size) (xs := []) (ys := xs) (by rfl) ⟨gm, 0, none⟩ n3 c3 (by rfl) HEr.out HLx.out HSr2.out n3 (Nat.zero_add _) (by omega) (by simp; omega) ?_)
        intro A4 c4 w7 ho7 hb7 hgr7 hat7
        obtain ⟨g7, rfl, hB7, hl7, -⟩ := ho7.at_ hn0
        have hg7 : wr.heap.size ≤ g7 := by
          rcases hat7 g7 rfl with h | h
          · simp [Value.ownBlock] at h; omega
          · first | omega | (simp at h; omega)
        have hbr7 : Below wr.heap.size wr w7 := ((Below.refl wr.heap.size wr).alloc (Nat.le_refl _) _).trans ⟨hgr7.os, hgr7.tape, hgr7.output, hgr7.size, fun i hi => hgr7.block i (by simp; omega) (fun e => by simp [Value.ownBlock] at e; omega)⟩
        have hst7 : Stay wr w3.heap.size w7 := fun i _ hi => hbr7.block i hi
        have HM7 := Lib.hid (HM.out.below hbr7)
        have hd7 := hd.below hbr7
        have HR7 := Lib.hid ho7
        have hz7 := hbr7.size
        clear ho7 hb7 hgr7 hat7 hbr7 hd HEr HSr2
        go_wp2_with fail
        refine (pickD_any _ hd7 (by omega)).mono ?_
        rintro e w8 ⟨v8, rfl, -, -, hd8, hg8, -⟩
        have hst8 := hst7.pick hz7 hg8 (show w.heap.size < w3.heap.size by omega)
        have HM8 := Lib.hid (HM7.out.above hg8 hgl)
        have HR8 := Lib.hid (HR7.out.above hg8 (show w.heap.size < w3.heap.size by omega))
        have hz8 := Nat.le_trans hz7 hg8.size
        clear hg8 hd7 HM7 HR7 hst7
        by_cases hv8 : v8 = 0
        · subst hv8
          go_wp2_with fail
          refine (pickD_any _ hd8 (by omega)).mono ?_
          rintro e w9 ⟨v9, rfl, v90, v91', hd9, hg9, -⟩
          have v91 := v91' (by omega)
          obtain ⟨j, rfl⟩ : ∃ j : Nat, v9 = j := ⟨v9.toNat, by omega⟩
          have hst9 := hst8.pick hz8 hg9 (show w.heap.size < w3.heap.size by omega)
          have HM9 := Lib.hid (HM8.out.above hg9 hgl)
          have HR9 := Lib.hid (HR8.out.above hg9 (show w.heap.size < w3.heap.size by omega))
          have hz9 := Nat.le_trans hz8 hg9.size
          clear v91' hg9 hd8 HM8 HR8 hst8
          go_wp2_with fail
          refine (pickD_any _ hd9 (by omega)).mono ?_
          rintro e w10 ⟨v10, rfl, v100, v101', hd10, hg10, -⟩
          have hst10 := hst9.pick hz9 hg10 (show w.heap.size < w3.heap.size by omega)
          have HM10 := Lib.hid (HM9.out.above hg10 hgl)
          have HR10 := Lib.hid (HR9.out.above hg10 (show w.heap.size < w3.heap.size by omega))
          have hz10 := Nat.le_trans hz9 hg10.size
          clear v101' hg10 hd9 HM9 HR9 hst9
          obtain ⟨g', hg', -, -, hcl⟩ := HR10.out.at_ hn0
          obtain rfl : g' = g7 := by injection hg' with e; injection e with e; exact e.symm
          obtain ⟨q0, q1⟩ := hcl j (by omega)
          have hjn : (j : Int) < (n3 : Int) := by omega
          clear hcl hg'
          generalize xs.getD j 0 = y0 at q0
          have HRx := Lib.hid (HR10.out.set_ j v10)
          have hstx : Stay wr w3.heap.size (w10.setCell ⟨g', j, none⟩ (.int .i64 v10)) := hst10.set hg7
          have HMx := Lib.hid (HM10.out.low (H := w3.heap.size) (fun g hg => by injection hg with e; injection e with e; omega) ((Below.refl _ _).setCell (p := ⟨g', j, none⟩) hB7 (.int .i64 v10)))
          have hdx := hd10.belowB ((Below.refl w1.heap.size w10).setCell (p := ⟨g', j, none⟩) (show w1.heap.size ≤ g' by omega) (.int .i64 v10))
          have hzx : wr.heap.size ≤ (w10.setCell ⟨g', j, none⟩ (.int .i64 v10)).heap.size := by simpa [World.setCell] using hz10
          have HQx := Lib.hid (HQ.out.keep hstx)
          have HLy := Lib.hid (show (xs.set j v10).length = n3 by simpa using HLx.out)
          clear hst10 HM10 HR10 hd10 hstx
          go_wp2_with (at_builtin; refine wpList_appQ (by rfl) _ _ (by rfl) (by rfl) (by rfl) (HQx.out.alloc _) (xs.set j v10) (some ⟨g', 0, none⟩) c4 n3 HLy.out (HRx.out.alloc _) (fun g hg e => by injection hg with e1; injection e1 with e1; injection e with e; injection e with e; omega) (by simp [go_sem]) (by omega) (by simp [World.setCell]; omega) ?_)
          intro g12 c12 w12 hq12 hb12
          have HQ12 := Lib.hid hq12
          have HM12 := Lib.hid ((HMx.out.alloc (.cells #[.slice (some ⟨g', 0, none⟩) n3 c4] 24)).low (H := w3.heap.size) (fun g hg => by injection hg with e; injection e with e; omega) hb12)
          have hd12 := (hdx.alloc (.cells #[.slice (some ⟨g', 0, none⟩) n3 c4] 24)).belowB (hb12.mono hs3)
          have hz12 := hb12.size
          have HX12 := Lib.hid (show ∀ x ∈ Xs ++ [(xs.set j v10)], x.length = n3 from fun x hx => by
            rcases List.mem_append.1 hx with hx | hx
            · exact HX.out x hx
            · rw [List.mem_singleton.1 hx]; exact HLy.out)
          clear hq12 hb12
          go_wp2_with fail
          go_roundw
          case rel => exact ⟨k + 1, g12, c12, _, by omega, by go_num, rfl, HQ12.out, HX12.out, HM12.out, hd12.mono (by omega), by simp [World.setCell] at hz12; omega⟩
          case measure => simp [intOf]; omega
        · have hv8' : (v8 == 0) = false := by simpa using hv8
          clear hv8
          have HQx := Lib.hid (HQ.out.keep hst8)
          go_wp2_with (at_builtin; refine wpList_appQ (by rfl) _ _ (by rfl) (by rfl) (by rfl) (HQx.out.alloc _) xs (some ⟨g7, 0, none⟩) c4 n3 HLx.out (HR8.out.alloc _) (fun g hg e => by injection hg with e1; injection e1 with e1; injection e with e; injection e with e; omega) (by simp [go_sem]) (by omega) (by simp [World.setCell]; omega) ?_)
          intro g12 c12 w12 hq12 hb12
          have HQ12 := Lib.hid hq12
          have HM12 := Lib.hid ((HM8.out.alloc (.cells #[.slice (some ⟨g7, 0, none⟩) n3 c4] 24)).low (H := w3.heap.size) (fun g hg => by injection hg with e; injection e with e; omega) hb12)
          have hd12 := (hd8.alloc (.cells #[.slice (some ⟨g7, 0, none⟩) n3 c4] 24)).belowB (hb12.mono hs3)
          have hz12 := hb12.size
          have HX12 := Lib.hid (show ∀ x ∈ Xs ++ [xs], x.length = n3 from fun x hx => by
            rcases List.mem_append.1 hx with hx | hx
            · exact HX.out x hx
            · rw [List.mem_singleton.1 hx]; exact HLx.out)
          clear hq12 hb12
          go_wp2_with fail
          go_roundw
          case rel => exact ⟨k + 1, g12, c12, _, by omega, by go_num, rfl, HQ12.out, HX12.out, HM12.out, hd12.mono (by omega), by simp [World.setCell] at hz12; omega⟩
          case measure => simp [intOf]; omega
      · have hkM : (k : Int) = v6 := by omega
        have hwlt : w.heap.size < w3.heap.size := by omega
        have hww : w.heap.size ≤ w3.heap.size := by omega
        by_cases hpos : (0 : Int) < v6
        · go_wp2_with fail
          refine (pickD_any _ hd (by omega)).mono ?_
          rintro e w15 ⟨v15, rfl, -, -, hd15, hg15, -⟩
          have HQ15 := Lib.hid (HQ.out.above hg15 hwlt)
          clear hg15 hd HM HQ
          by_cases hv15 : v15 = 0
          · subst hv15
            go_wp2_with fail
            refine (pickD_any _ hd15 (by omega)).mono ?_
            rintro e w16 ⟨v16, rfl, v160, v161', hd16, hg16, -⟩
            have v161 := v161' (by omega)
            obtain ⟨j, rfl⟩ : ∃ j : Nat, v16 = j := ⟨v16.toNat, by omega⟩
            have HQ16 := Lib.hid (HQ15.out.above hg16 hwlt)
            clear v161' hg16 hd15 HQ15
            go_wp2_with fail
            refine (pickD_any _ hd16 (by omega)).mono ?_
            rintro e w17 ⟨v17, rfl, v170, v171', hd17, hg17, -⟩
            have v171 := v171' (by omega)
            have HQ17 := Lib.hid (HQ16.out.above hg17 hwlt)
            clear v171' hg17 hd16 HQ16
            have hG := HQ17.out.fromB
            have hs17 := hd17.size
            go_wp2_with fail
            refine (l91MarksE_any _ (100 + 3 * k + 1 + 1 + 1) v17 w17 (by omega) hd17.rdr (by omega) (by omega)).mono ?_
            rintro e w18 ⟨A8, n8, c8, ys, rfl, ho8, hn8, hd18'⟩
            have hd18 := hd17.trans hd18'
            obtain rfl : n8 = ys.length := ho8.len.symm
            obtain rfl : v17 = (ys.length : Int) := hn8.symm
            have HQ18 := Lib.hid (HQ17.out.above hd18'.2.1 hwlt)
            have hne : ∀ g', A8 = some ⟨g', 0, none⟩ → g' ≠ G := fun g' hg' => by
              rcases ho8.parts with ⟨hx, _⟩ | ⟨g2, cur, hx, hx2, _⟩
              · rw [hx] at hg'; cases hg'
              · rw [hx] at hg'; injection hg' with e; injection e with e; omega
            have hjk : j < Xs.length := by have := HQ18.out.len; omega
            obtain ⟨⟨Aj, cj, q0, -⟩, q1⟩ := HQ18.out.at_ j hjk
            have HS := Lib.hid (HQ18.out.set_ j ys A8 c8 (ho8.base (by omega)) hne)
            have hjk' : (j : Int) < (k : Int) := by omega
            have hbx := (hd18.belowW hb1 (Nat.le_refl _)).setCell (p := ⟨G, j, none⟩) (show w.heap.size ≤ G by omega) (.slice A8 ys.length c8)
            have HX2 := Lib.hid (show ∀ x ∈ Xs.set j ys, x.length ≤ 8 from fun x hx => by
              rcases List.mem_or_eq_of_mem_set hx with hx | rfl
              · have := HX.out x hx; omega
              · omega)
            clear ho8 hn8 hd18' hd18 hd17 HQ17 HQ18 hne
            generalize Xs[j].length = lj at q0
            go_wp2_with fail
            go_ret
            exact ⟨G, k, cc, _, rfl, HS.out.base hww, by omega, HX2.out, hbx⟩
          · have hv15' : (v15 == 0) = false := by simpa using hv15
            clear hv15
            have hbw := hd15.belowW hb1 (Nat.le_refl _)
            go_wp2_with fail
            go_ret
            exact ⟨G, k, cc, Xs, rfl, HQ15.out.base hww, by omega, fun x hx => by have := HX.out x hx; omega, hbw⟩
        · have hbw := hd.belowW hb1 (Nat.le_refl _)
          clear HM
          go_wp2_with fail
          go_ret
          exact ⟨G, k, cc, Xs, rfl, HQ.out.base hww, by omega, fun x hx => by have := HX.out x hx; omega, hbw⟩
  · have hv5' : (v5 == 0) = false := by simpa using hv5
    clear hv5
    go_wp2_with fail
    go_loopw [6, 8] (fun v i wr => ∃ (k G cc : Nat) (Xs : List Rw), (k : Int) ≤ 1 + v4 ∧ i = .int .i64 k ∧ v = .slice (some ⟨G, 0, none⟩) k cc ∧ OwQ wr w3.heap.size (some ⟨G, 0, none⟩) k cc Xs ∧ (∀ x ∈ Xs, x.length = n3) ∧ OwA wr w1.heap.size (some ⟨gm, 0, none⟩) n3 c3 xs ∧ Dr w1 w.heap.size (100 + 3 * k) wr ∧ w3.heap.size ≤ wr.heap.size) (fun _ i _ => 8 - (intOf i).toNat)
    case atStart => exact ⟨0, _, _, [], by omega, rfl, rfl, HE5.out, by simp, HM5.out, hd5.mono (by omega), hs5⟩
    case round =>
      obtain ⟨k, G, cc, Xs, hk, rfl, rfl, hq, hxl, hm, hd, hs⟩ := hrel
      have HQ := Lib.hid hq
      have HX := Lib.hid hxl
      have HM := Lib.hid hm
      obtain ⟨hG0, hG1⟩ := hq.fromB
      clear hq hxl hm HE5 HM5 hd5
      by_cases hlt : (k : Int) < 1 + v4
      · have HEr := Lib.hid (OwA.empty wr w3.heap.size hs)
        have HSr := Lib.hid (src_take (HM.out.alloc (.cells #[] 3)).rd n3 (Nat.le_refl _))
        have hxt : xs.take n3 = xs := List.take_of_length_le (by have := HLx.out; omega)
        have hsr := HSr.out
        rw [hxt] at hsr
        have HSr2 := Lib.hid hsr
        clear hsr hxt HSr
        go_wp2_with (at_builtin; refine wpList_appN (by rfl) _ _ (by rfl) (B := w3.heap.size) (xs := []) (ys := xs) (by rfl) ⟨gm, 0, none⟩ n3 c3 (by rfl) HEr.out HLx.out HSr2.out n3 (Nat.zero_add _) (by omega) (by simp; omega) ?_)
        intro A4 c4 w7 ho7 hb7 hgr7 hat7
        obtain ⟨g7, rfl, hB7, hl7, -⟩ := ho7.at_ hn0
        have hg7 : wr.heap.size ≤ g7 := by
          rcases hat7 g7 rfl with h | h
          · simp [Value.ownBlock] at h; omega
          · first | omega | (simp at h; omega)
        have hbr7 : Below wr.heap.size wr w7 := ((Below.refl wr.heap.size wr).alloc (Nat.le_refl _) _).trans ⟨hgr7.os, hgr7.tape, hgr7.output, hgr7.size, fun i hi => hgr7.block i (by simp; omega) (fun e => by simp [Value.ownBlock] at e; omega)⟩
        have hst7 : Stay wr w3.heap.size w7 := fun i _ hi => hbr7.block i hi
        have HM7 := Lib.hid (HM.out.below hbr7)
        have hd7 := hd.below hbr7
        have HR7 := Lib.hid ho7
        have hz7 := hbr7.size
        clear ho7 hb7 hgr7 hat7 hbr7 hd HEr HSr2
        go_wp2_with fail
        refine (pickD_any _ hd7 (by omega)).mono ?_
        rintro e w8 ⟨v8, rfl, -, -, hd8, hg8, -⟩
        have hst8 := hst7.pick hz7 hg8 (show w.heap.size < w3.heap.size by omega)
        have HM8 := Lib.hid (HM7.out.above hg8 hgl)
        have HR8 := Lib.hid (HR7.out.above hg8 (show w.heap.size < w3.heap.size by omega))
        have hz8 := Nat.le_trans hz7 hg8.size
        clear hg8 hd7 HM7 HR7 hst7
        by_cases hv8 : v8 = 0
        · subst hv8
          go_wp2_with fail
          refine (pickD_any _ hd8 (by omega)).mono ?_
          rintro e w9 ⟨v9, rfl, v90, v91', hd9, hg9, -⟩
          have v91 := v91' (by omega)
          obtain ⟨j, rfl⟩ : ∃ j : Nat, v9 = j := ⟨v9.toNat, by omega⟩
          have hst9 := hst8.pick hz8 hg9 (show w.heap.size < w3.heap.size by omega)
          have HM9 := Lib.hid (HM8.out.above hg9 hgl)
          have HR9 := Lib.hid (HR8.out.above hg9 (show w.heap.size < w3.heap.size by omega))
          have hz9 := Nat.le_trans hz8 hg9.size
          clear v91' hg9 hd8 HM8 HR8 hst8
          go_wp2_with fail
          refine (pickD_any _ hd9 (by omega)).mono ?_
          rintro e w10 ⟨v10, rfl, v100, v101', hd10, hg10, -⟩
          have hst10 := hst9.pick hz9 hg10 (show w.heap.size < w3.heap.size by omega)
          have HM10 := Lib.hid (HM9.out.above hg10 hgl)
          have HR10 := Lib.hid (HR9.out.above hg10 (show w.heap.size < w3.heap.size by omega))
          have hz10 := Nat.le_trans hz9 hg10.size
          clear v101' hg10 hd9 HM9 HR9 hst9
          obtain ⟨g', hg', -, -, hcl⟩ := HR10.out.at_ hn0
          obtain rfl : g' = g7 := by injection hg' with e; injection e with e; exact e.symm
          obtain ⟨q0, q1⟩ := hcl j (by omega)
          have hjn : (j : Int) < (n3 : Int) := by omega
          clear hcl hg'
          generalize xs.getD j 0 = y0 at q0
          have HRx := Lib.hid (HR10.out.set_ j v10)
          have hstx : Stay wr w3.heap.size (w10.setCell ⟨g', j, none⟩ (.int .i64 v10)) := hst10.set hg7
          have HMx := Lib.hid (HM10.out.low (H := w3.heap.size) (fun g hg => by injection hg with e; injection e with e; omega) ((Below.refl _ _).setCell (p := ⟨g', j, none⟩) hB7 (.int .i64 v10)))
          have hdx := hd10.belowB ((Below.refl w1.heap.size w10).setCell (p := ⟨g', j, none⟩) (show w1.heap.size ≤ g' by omega) (.int .i64 v10))
          have hzx : wr.heap.size ≤ (w10.setCell ⟨g', j, none⟩ (.int .i64 v10)).heap.size := by simpa [World.setCell] using hz10
          have HQx := Lib.hid (HQ.out.keep hstx)
          have HLy := Lib.hid (show (xs.set j v10).length = n3 by simpa using HLx.out)
          clear hst10 HM10 HR10 hd10 hstx
          go_wp2_with (at_builtin; refine wpList_appQ (by rfl) _ _ (by rfl) (by rfl) (by rfl) (HQx.out.alloc _) (xs.set j v10) (some ⟨g', 0, none⟩) c4 n3 HLy.out (HRx.out.alloc _) (fun g hg e => by injection hg with e1; injection e1 with e1; injection e with e; injection e with e; omega) (by simp [go_sem]) (by omega) (by simp [World.setCell]; omega) ?_)
          intro g12 c12 w12 hq12 hb12
          have HQ12 := Lib.hid hq12
          have HM12 := Lib.hid ((HMx.out.alloc (.cells #[.slice (some ⟨g', 0, none⟩) n3 c4] 24)).low (H := w3.heap.size) (fun g hg => by injection hg with e; injection e with e; omega) hb12)
          have hd12 := (hdx.alloc (.cells #[.slice (some ⟨g', 0, none⟩) n3 c4] 24)).belowB (hb12.mono hs3)
          have hz12 := hb12.size
          have HX12 := Lib.hid (show ∀ x ∈ Xs ++ [(xs.set j v10)], x.length = n3 from fun x hx => by
            rcases List.mem_append.1 hx with hx | hx
            · exact HX.out x hx
            · rw [List.mem_singleton.1 hx]; exact HLy.out)
          clear hq12 hb12
          go_wp2_with fail
          go_roundw
          case rel => exact ⟨k + 1, g12, c12, _, by omega, by go_num, rfl, HQ12.out, HX12.out, HM12.out, hd12.mono (by omega), by simp [World.setCell] at hz12; omega⟩
          case measure => simp [intOf]; omega
        · have hv8' : (v8 == 0) = false := by simpa using hv8
          clear hv8
          have HQx := Lib.hid (HQ.out.keep hst8)
          go_wp2_with (at_builtin; refine wpList_appQ (by rfl) _ _ (by rfl) (by rfl) (by rfl) (HQx.out.alloc _) xs (some ⟨g7, 0, none⟩) c4 n3 HLx.out (HR8.out.alloc _) (fun g hg e => by injection hg with e1; injection e1 with e1; injection e with e; injection e with e; omega) (by simp [go_sem]) (by omega) (by simp [World.setCell]; omega) ?_)
          intro g12 c12 w12 hq12 hb12
          have HQ12 := Lib.hid hq12
          have HM12 := Lib.hid ((HM8.out.alloc (.cells #[.slice (some ⟨g7, 0, none⟩) n3 c4] 24)).low (H := w3.heap.size) (fun g hg => by injection hg with e; injection e with e; omega) hb12)
          have hd12 := (hd8.alloc (.cells #[.slice (some ⟨g7, 0, none⟩) n3 c4] 24)).belowB (hb12.mono hs3)
          have hz12 := hb12.size
          have HX12 := Lib.hid (show ∀ x ∈ Xs ++ [xs], x.length = n3 from fun x hx => by
            rcases List.mem_append.1 hx with hx | hx
            · exact HX.out x hx
            · rw [List.mem_singleton.1 hx]; exact HLx.out)
          clear hq12 hb12
          go_wp2_with fail
          go_roundw
          case rel => exact ⟨k + 1, g12, c12, _, by omega, by go_num, rfl, HQ12.out, HX12.out, HM12.out, hd12.mono (by omega), by simp [World.setCell] at hz12; omega⟩
          case measure => simp [intOf]; omega
      · have hkM : (k : Int) = 1 + v4 := by omega
        have hwlt : w.heap.size < w3.heap.size := by omega
        have hww : w.heap.size ≤ w3.heap.size := by omega
        by_cases hpos : (0 : Int) < 1 + v4
        · go_wp2_with fail
          refine (pickD_any _ hd (by omega)).mono ?_
          rintro e w15 ⟨v15, rfl, -, -, hd15, hg15, -⟩
          have HQ15 := Lib.hid (HQ.out.above hg15 hwlt)
          clear hg15 hd HM HQ
          by_cases hv15 : v15 = 0
          · subst hv15
            go_wp2_with fail
            refine (pickD_any _ hd15 (by omega)).mono ?_
            rintro e w16 ⟨v16, rfl, v160, v161', hd16, hg16, -⟩
            have v161 := v161' (by omega)
            obtain ⟨j, rfl⟩ : ∃ j : Nat, v16 = j := ⟨v16.toNat, by omega⟩
            have HQ16 := Lib.hid (HQ15.out.above hg16 hwlt)
            clear v161' hg16 hd15 HQ15
            go_wp2_with fail
            refine (pickD_any _ hd16 (by omega)).mono ?_
            rintro e w17 ⟨v17, rfl, v170, v171', hd17, hg17, -⟩
            have v171 := v171' (by omega)
            have HQ17 := Lib.hid (HQ16.out.above hg17 hwlt)
            clear v171' hg17 hd16 HQ16
            have hG := HQ17.out.fromB
            have hs17 := hd17.size
            go_wp2_with fail
            refine (l91MarksE_any _ (100 + 3 * k + 1 + 1 + 1) v17 w17 (by omega) hd17.rdr (by omega) (by omega)).mono ?_
            rintro e w18 ⟨A8, n8, c8, ys, rfl, ho8, hn8, hd18'⟩
            have hd18 := hd17.trans hd18'
            obtain rfl : n8 = ys.length := ho8.len.symm
            obtain rfl : v17 = (ys.length : Int) := hn8.symm
            have HQ18 := Lib.hid (HQ17.out.above hd18'.2.1 hwlt)
            have hne : ∀ g', A8 = some ⟨g', 0, none⟩ → g' ≠ G := fun g' hg' => by
              rcases ho8.parts with ⟨hx, _⟩ | ⟨g2, cur, hx, hx2, _⟩
              · rw [hx] at hg'; cases hg'
              · rw [hx] at hg'; injection hg' with e; injection e with e; omega
            have hjk : j < Xs.length := by have := HQ18.out.len; omega
            obtain ⟨⟨Aj, cj, q0, -⟩, q1⟩ := HQ18.out.at_ j hjk
            have HS := Lib.hid (HQ18.out.set_ j ys A8 c8 (ho8.base (by omega)) hne)
            have hjk' : (j : Int) < (k : Int) := by omega
            have hbx := (hd18.belowW hb1 (Nat.le_refl _)).setCell (p := ⟨G, j, none⟩) (show w.heap.size ≤ G by omega) (.slice A8 ys.length c8)
            have HX2 := Lib.hid (show ∀ x ∈ Xs.set j ys, x.length ≤ 8 from fun x hx => by
              rcases List.mem_or_eq_of_mem_set hx with hx | rfl
              · have := HX.out x hx; omega
              · omega)
            clear ho8 hn8 hd18' hd18 hd17 HQ17 HQ18 hne
            generalize Xs[j].length = lj at q0
            go_wp2_with fail
            go_ret
            exact ⟨G, k, cc, _, rfl, HS.out.base hww, by omega, HX2.out, hbx⟩
          · have hv15' : (v15 == 0) = false := by simpa using hv15
            clear hv15
            have hbw := hd15.belowW hb1 (Nat.le_refl _)
            go_wp2_with fail
            go_ret
            exact ⟨G, k, cc, Xs, rfl, HQ15.out.base hww, by omega, fun x hx => by have := HX.out x hx; omega, hbw⟩
        · have hbw := hd.belowW hb1 (Nat.le_refl _)
          clear HM
          go_wp2_with fail
          go_ret
          exact ⟨G, k, cc, Xs, rfl, HQ.out.base hww, by omega, fun x hx => by have := HX.out x hx; omega, hbw⟩
end Go.Proofs.Ytnolnlhoedafcaa
