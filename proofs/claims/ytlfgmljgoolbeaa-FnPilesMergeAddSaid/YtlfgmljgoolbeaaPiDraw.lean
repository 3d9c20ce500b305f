/- The functions that draw piles. -/
import Derived.Test.YtlfgmljgoolbeaaPiAddS
import Derived.Test.YtlfgmljgoolbeaaDrawBa
namespace Go.Proofs.Ytlfgmljgoolbeaa
open Go.RowKit
set_option linter.unusedSimpArgs false

/-- a string out of three, drawn by the reader -/
def OfPost (W : World) (g P : Nat) (w1 : World) (e : Ending) (w2 : World) : Prop := ∃ s : ByteArray, e = .returned (.string s) ∧ s.size ≤ 5 ∧ Dr W g (P + 1) w2 ∧ w1.grownBy w2 (some g)
set_option maxHeartbeats 800000 in
theorem of_any {W w1 : World} {g P : Nat} (b : Nat) (s0 s1 s2 : ByteArray) (hd : Dr W g P w1) (hP : P ≤ 1000000) (hb : b < w1.heap.size) (hne : b ≠ g)
    (h0 : w1.cell? ⟨b, 0, none⟩ = some (.string s0)) (h1 : w1.cell? ⟨b, 1, none⟩ = some (.string s1)) (h2 : w1.cell? ⟨b, 2, none⟩ = some (.string s2)) (z0 : s0.size ≤ 5) (z1 : s1.size ≤ 5) (z2 : s2.size ≤ 5) :
    Calls Try.prog 56 #[.pointer (some ⟨g, 0, none⟩), .slice (some ⟨b, 0, none⟩) 3 3] w1 (OfPost W g P w1) := by
  go_enter Try.func56, Try.ntmps56
  go_wp2_with fail
  refine (pickD_any _ hd hP).mono ?_
  rintro e w2 ⟨v, rfl, hv0, hv1', hd2, hg2, -⟩
  have hv1 := hv1' (by omega)
  have d0 := ((gcell hg2).1 b 0 hb hne).trans h0
  have d1 := ((gcell hg2).1 b 1 hb hne).trans h1
  have d2 := ((gcell hg2).1 b 2 hb hne).trans h2
  have HG := Lib.hid hg2
  have HD := Lib.hid hd2
  clear hg2 hd2 hd h0 h1 h2 hv1'
  rcases (show v = 0 ∨ v = 1 ∨ v = 2 by omega) with rfl | rfl | rfl
  · go_wp2_with fail
    go_ret
    exact ⟨s0, rfl, z0, HD.out, HG.out⟩
  · go_wp2_with fail
    go_ret
    exact ⟨s1, rfl, z1, HD.out, HG.out⟩
  · go_wp2_with fail
    go_ret
    exact ⟨s2, rfl, z2, HD.out, HG.out⟩

/-- piles in new memory, drawn by the reader -/
def DrawL (W : World) (g P : Nat) (e : Ending) (w' : World) : Prop :=
  ∃ gg n c ps, e = .returned (.slice (some ⟨gg, 0, none⟩) n c) ∧ OwP w' W.heap.size (some ⟨gg, 0, none⟩) n c ps ∧ n ≤ 13 ∧ (∀ p ∈ ps, p.1.size ≤ 5) ∧ Dr W g P w'
theorem text_size (xs : List Int) : (⟨(Bal.text xs).toArray⟩ : ByteArray).size ≤ 5 := by
  show (Bal.text xs).toArray.size ≤ 5
  cases h : Bal.bv xs 5 with
  | false => rw [Bal.text_f h]; simp
  | true =>
    have := (Bal.parse_text h).2.2
    have h2 := Bal.bv_len (Bal.bv_iff.1 h)
    simp [this]; omega
theorem set_sizes {ps : List Pil.Pl} (h : ∀ p ∈ ps, p.1.size ≤ 5) (j : Nat) (s : ByteArray) (m : Int) (hs : s.size ≤ 5) : ∀ p ∈ ps.set j (s, m), p.1.size ≤ 5 := by
  intro p hp
  rcases List.mem_or_eq_of_mem_set hp with hp | rfl
  · exact h p hp
  · exact hs
theorem carry2 {W w1 : World} {g b o : Nat} {v : Value} (hg : W.grownBy w1 (some g)) (hlt : b < W.heap.size) (hne : ¬ b = g) (h : W.cell? ⟨b, o, none⟩ = some v) : w1.cell? ⟨b, o, none⟩ = some v :=
  ((gcell hg).1 b o hlt hne).trans h
theorem plv_sizes {ps : List Pil.Pl} (h : Pil.plv ps = true) : ∀ p ∈ ps, p.1.size ≤ 5 := fun p hp => by
  have := Bal.okT_len (Pil.pv_iff.1 ((Pil.plv_iff.1 h).1 p hp)).1
  simpa using this
theorem padd_t {ps : List Pil.Pl} {t : ByteArray} {m : Int} (h : paddOk ps t m = true) : paddL ps t m = Pil.put ps t m ∧ Pil.plv (Pil.put ps t m) = true := by
  have h1 := h
  unfold paddOk at h1
  simp only [Bool.and_eq_true] at h1
  exact ⟨by unfold paddL; rw [if_pos h], h1.2.2⟩

set_option maxHeartbeats 12800000 in
theorem l91Piles_any (g P : Nat) (m : Int) (W : World) (hP : P ≤ 800000) (hr : Rdr W g P) (h0 : 0 ≤ m) (h1 : m ≤ 1000) :
    Calls Try.prog 38 #[.pointer (some ⟨g, 0, none⟩), .int .i64 m] W (DrawL W g (P + 700)) := by
  have hd := Dr.start hr
  have hgl := hr.lt
  have HE := Lib.hid (OwP.empty W W.heap.size (Nat.le_refl _))
  clear hr
  go_enter Try.func38, Try.ntmps38
  go_wp2_with fail
  refine (pickD_any _ (hd.alloc _) (by omega)).mono ?_
  rintro e w1 ⟨many, rfl, hm0, hm1', hd1, hg1, -⟩
  have hm1 := hm1' (by omega)
  have HO1 := Lib.hid (HE.out.above hg1 hgl)
  clear hm1' hg1 hd
  go_wp2_with fail
  refine (pickD_any _ hd1 (by omega)).mono ?_
  rintro e w2 ⟨v2, rfl, -, -, hd2, hg2, -⟩
  have HO2 := Lib.hid (HO1.out.above hg2 hgl)
  clear hg2 hd1 HO1 HE
  by_cases hv2 : v2 = 0
  · subst hv2
    go_wp2_with fail
    go_loopw [5, 7] (fun v i wr => ∃ (k gg nn cc : Nat) (ps : List Pil.Pl), k ≤ 40 ∧ (k : Int) ≤ 40 ∧ i = .int .i64 k ∧ v = .slice (some ⟨gg, 0, none⟩) nn cc ∧ OwP wr W.heap.size (some ⟨gg, 0, none⟩) nn cc ps ∧ Pil.plv ps = true ∧ Dr W g (P + 1 + 1 + 14 * k) wr) (fun _ i _ => 40 - (intOf i).toNat)
    case atStart => exact ⟨0, _, 0, 0, [], by omega, by omega, rfl, rfl, HO2.out, rfl, hd2⟩
    case round =>
      obtain ⟨k, gg, nn, cc, ps, hk, hkM, rfl, rfl, ho, hp, hd⟩ := hrel
      clear HO2 hd2
      have HO := Lib.hid ho
      have hnn : nn ≤ 12 := by have h1 := ho.len; have h2 := (Pil.plv_iff.1 hp).2.2; omega
      have hcap := ho.cap
      have HSz := Lib.hid (plv_sizes hp)
      have HP := Lib.hid hp
      have HCap := Lib.hid hcap
      have HLen := Lib.hid ho.len
      clear ho hp hcap
      have hBs := hd.size
      by_cases hlt : (k : Int) < 40
      · go_wp2_with fail
        refine (l91Ballot_any g (P + 1 + 1 + 14 * k) m wr (by omega) hd.rdr h0 h1).mono ?_
        rintro e w3 ⟨A3, n3, c3, xs, rfl, ho3, hn3, hd3⟩
        have hdw3 := hd.trans hd3
        have HO3 := Lib.hid (HO.out.above hd3.2.1 hgl)
        have hBs3 := hdw3.size
        have HBT := Lib.hid (sBallotText_any A3 n3 c3 xs w3 ho3.rd ho3.cap.1 (by omega) ho3.cap.2)
        have htz := text_size xs
        clear hd hd3 ho3
        go_wp2_with fail
        refine HBT.out.mono ?_
        rintro e w4 ⟨rfl, q, hq⟩
        have hdw4 : Dr W g (P + 1 + 1 + 14 * k + 13) w4 := by rw [hq]; exact hdw3.drewN q
        have HO4 : Hid (OwP w4 W.heap.size (some ⟨gg, 0, none⟩) nn cc ps) := by
          show OwP w4 W.heap.size (some ⟨gg, 0, none⟩) nn cc ps
          rw [hq]; exact HO3.out.drewN q
        clear hq hdw3 HBT HO3
        generalize (⟨(Bal.text xs).toArray⟩ : ByteArray) = t at *
        go_wp2_with fail
        refine (pickD_any _ hdw4 (by omega)).mono ?_
        rintro e w5 ⟨v5, rfl, hv50, hv51', hd5, hg5, -⟩
        have hv51 := hv51' (by omega)
        have HO5 := Lib.hid (HO4.out.above hg5 hgl)
        have hBs5 := hd5.size
        clear hg5 hdw4 hv51' HO4
        have hadd := sPilesAdd_any gg 0 nn cc ps t (1 + v5) w5 HO5.out.rd HCap.out.1 (by omega) HCap.out.2 (fun p hp => by have := HSz.out p hp; omega) (by omega)
        cases hok : paddOk ps t (1 + v5) with
        | false =>
          rw [hok] at hadd
          have HA := Lib.hid hadd
          clear hadd hok
          go_wp2_with fail
          refine HA.out.mono ?_
          rintro e w6 ⟨g6, n6, c6, rfl, -, hb6⟩
          have hd6 := hd5.below hb6
          have HO6 := Lib.hid (HO5.out.below hb6)
          clear hb6 hd5
          go_wp2_with fail
          go_roundw
          case rel => exact ⟨k + 1, gg, nn, cc, ps, by omega, by omega, by go_num, rfl, HO6.out, HP.out, hd6.mono (by omega)⟩
          case measure => simp [intOf]; omega
        | true =>
          rw [hok, (padd_t hok).1] at hadd
          have HA := Lib.hid hadd
          have HP2 := Lib.hid (padd_t hok).2
          clear hadd hok
          go_wp2_with fail
          refine HA.out.mono ?_
          rintro e w6 ⟨g6, n6, c6, rfl, ho6, hb6⟩
          have hd6 := hd5.below hb6
          have HO6 := Lib.hid (ho6.base hBs5)
          clear hb6 hd5 ho6
          go_wp2_with fail
          go_roundw
          case rel => exact ⟨k + 1, g6, n6, c6, _, by omega, by omega, by go_num, rfl, HO6.out, HP2.out, hd6.mono (by omega)⟩
          case measure => simp [intOf]; omega
      · by_cases hn0 : 0 < nn
        · have hn0' : (0 : Int) < (nn : Int) := by omega
          go_wp2_with fail
          refine (pickD_any _ hd (by omega)).mono ?_
          rintro e w7 ⟨kk, rfl, hk0, hk1', hd7, hg7, -⟩
          have hk1 := hk1' (by omega)
          obtain ⟨j, rfl⟩ : ∃ j : Nat, kk = j := ⟨kk.toNat, by omega⟩
          have HO7 := Lib.hid (HO.out.above hg7 hgl)
          clear hg7 hd hk1'
          go_wp2_with fail
          refine (pickD_any _ hd7 (by omega)).mono ?_
          rintro e w8 ⟨v8, rfl, -, -, hd8, hg8, -⟩
          have HO8 := Lib.hid (HO7.out.above hg8 hgl)
          have hBs8 := hd8.size
          clear hg8 hd7 HO7
          have hj2 : j < ps.length := by have := HLen.out; omega
          by_cases hv0 : v8 = 0
          · subst hv0
            have hgg := HO8.out.fromB
            go_wp2_with fail
            refine (pickD_any _ (hd8.alloc _) (by omega)).mono ?_
            rintro e w9 ⟨v9, rfl, hv90, hv91', hd9, hg9, -⟩
            have hv91 := hv91' (by omega)
            have HO9 := Lib.hid ((HO8.out.alloc _).above hg9 hgl)
            have l0 := carry2 hg9 (v := .int .i64 0) (b := w8.heap.size) (o := 0) (by simp) (by omega) (by simp [go_sem])
            have l1 := carry2 hg9 (v := .int .i64 99) (b := w8.heap.size) (o := 1) (by simp) (by omega) (by simp [go_sem])
            have l2 := carry2 hg9 (v := .int .i64 100) (b := w8.heap.size) (o := 2) (by simp) (by omega) (by simp [go_sem])
            obtain ⟨g', hg', -, -, hcl⟩ := HO9.out.at_ hn0
            obtain rfl : g' = gg := by injection hg' with e; injection e with e; exact e.symm
            obtain ⟨d0, d1, f0, f1⟩ := hcl j hj2
            have HS := Lib.hid (fun u => HO9.out.setM j hj2 u)
            have HZ := Lib.hid (fun u => set_sizes HSz.out j ps[j].1 u (HSz.out _ (List.getElem_mem hj2)))
            clear hg9 hd8 hv91' hcl hg' HO9
            rcases (show v9 = 0 ∨ v9 = 1 ∨ v9 = 2 by omega) with rfl | rfl | rfl
            all_goals
              go_wp2_with fail
              go_ret
              exact ⟨g', nn, cc, _, rfl, HS.out _, by omega, HZ.out _, (hd9.belowB ((Below.refl _ _).setCell hgg.1 _)).mono (by omega)⟩
          · have hv0' : (v8 == 0) = false := by simpa using hv0
            by_cases hv1 : v8 = 1
            · subst hv1
              obtain ⟨g', hg', -, -, hcl⟩ := HO8.out.at_ hn0
              obtain rfl : g' = gg := by injection hg' with e; injection e with e; exact e.symm
              obtain ⟨d0, d1, f0, f1⟩ := hcl j hj2
              have hj' : (j : Int) < (nn : Int) := by omega
              have hZ : ∀ p ∈ ps ++ [(ps[j].1, ps[j].2)], p.1.size ≤ 5 := fun p hp => by
                rcases List.mem_append.1 hp with hp | hp
                · exact HSz.out p hp
                · rw [List.mem_singleton.1 hp]; exact HSz.out _ (List.getElem_mem hj2)
              have HZ := Lib.hid hZ
              clear hcl hg' hv0 hZ
              generalize ps[j].1 = s at *
              generalize ps[j].2 = y at *
              go_wp2_with (at_builtin; refine wpList_appP (by rfl) _ _ (by rfl) (B := W.heap.size) (qs := [(s, y)]) (by rfl) ⟨w8.heap.size, 0, none⟩ 1 1 (by rfl) (HO8.out.alloc _) rfl (srcp_one (by simp [go_sem]) (by simp [go_sem])) (nn + 1) rfl (by omega) (by simp; omega) ?_)
              intro A9 c9 w9 ho9 hb9 _ _ g9 hA9
              subst hA9
              have hd9 := (hd8.alloc (.cells #[.string s, .int .i64 y] 44)).belowB hb9
              have HO9 := Lib.hid ho9
              clear ho9 hb9 hd8
              go_wp2_with fail
              go_ret
              exact ⟨g9, nn + 1, c9, _, rfl, HO9.out, by omega, HZ.out, hd9.mono (by omega)⟩
            · have hv1' : (v8 == 1) = false := by simpa using hv1
              by_cases hv2_ : v8 = 2
              · subst hv2_
                have hgg := HO8.out.fromB
                have HOf := Lib.hid (of_any (W := W) (w1 := w8.alloc (.cells #[.string ⟨#[97, 97]⟩, .string ⟨#[102]⟩, .string ⟨#[120]⟩] 9)) (g := g) (P := P + 1 + 1 + 14 * k + 1 + 1) w8.heap.size ⟨#[97, 97]⟩ ⟨#[102]⟩ ⟨#[120]⟩ (hd8.alloc _) (by omega) (by simp) (by omega) (by simp [go_sem]) (by simp [go_sem]) (by simp [go_sem]) (by decide) (by decide) (by decide))
                clear hv0 hv1
                go_wp2_with fail
                refine HOf.out.mono ?_
                rintro e w9 ⟨s9, rfl, hs9, hd9, hg9⟩
                have HO9 := Lib.hid ((HO8.out.alloc _).above hg9 hgl)
                obtain ⟨g', hg', -, -, hcl⟩ := HO9.out.at_ hn0
                obtain rfl : g' = gg := by injection hg' with e; injection e with e; exact e.symm
                obtain ⟨d0, d1, f0, f1⟩ := hcl j hj2
                have HS := Lib.hid (HO9.out.setS j hj2 s9)
                have HZ := Lib.hid (set_sizes HSz.out j s9 ps[j].2 hs9)
                clear hg9 hcl hg' HO9 hd8
                go_wp2_with fail
                go_ret
                exact ⟨g', nn, cc, _, rfl, HS.out, by omega, HZ.out, (hd9.belowB ((Below.refl _ _).setCell hgg.1 _)).mono (by omega)⟩
              · have hv2_' : (v8 == 2) = false := by simpa using hv2_
                clear hv0 hv1 hv2_
                go_wp2_with fail
                go_ret
                exact ⟨gg, nn, cc, ps, rfl, HO8.out, by omega, HSz.out, hd8.mono (by omega)⟩
        · have hn0' : ¬ (0 : Int) < (nn : Int) := by omega
          go_wp2_with fail
          go_ret
          exact ⟨gg, nn, cc, ps, rfl, HO.out, by omega, HSz.out, hd.mono (by omega)⟩
  · have hv2' : (v2 == 0) = false := by simpa using hv2
    clear hv2
    go_wp2_with fail
    go_loopw [5, 7] (fun v i wr => ∃ (k gg nn cc : Nat) (ps : List Pil.Pl), k ≤ 40 ∧ (k : Int) ≤ many ∧ i = .int .i64 k ∧ v = .slice (some ⟨gg, 0, none⟩) nn cc ∧ OwP wr W.heap.size (some ⟨gg, 0, none⟩) nn cc ps ∧ Pil.plv ps = true ∧ Dr W g (P + 1 + 1 + 14 * k) wr) (fun _ i _ => 40 - (intOf i).toNat)
    case atStart => exact ⟨0, _, 0, 0, [], by omega, by omega, rfl, rfl, HO2.out, rfl, hd2⟩
    case round =>
      obtain ⟨k, gg, nn, cc, ps, hk, hkM, rfl, rfl, ho, hp, hd⟩ := hrel
      clear HO2 hd2
      have HO := Lib.hid ho
      have hnn : nn ≤ 12 := by have h1 := ho.len; have h2 := (Pil.plv_iff.1 hp).2.2; omega
      have hcap := ho.cap
      have HSz := Lib.hid (plv_sizes hp)
      have HP := Lib.hid hp
      have HCap := Lib.hid hcap
      have HLen := Lib.hid ho.len
      clear ho hp hcap
      have hBs := hd.size
      by_cases hlt : (k : Int) < many
      · go_wp2_with fail
        refine (l91Ballot_any g (P + 1 + 1 + 14 * k) m wr (by omega) hd.rdr h0 h1).mono ?_
        rintro e w3 ⟨A3, n3, c3, xs, rfl, ho3, hn3, hd3⟩
        have hdw3 := hd.trans hd3
        have HO3 := Lib.hid (HO.out.above hd3.2.1 hgl)
        have hBs3 := hdw3.size
        have HBT := Lib.hid (sBallotText_any A3 n3 c3 xs w3 ho3.rd ho3.cap.1 (by omega) ho3.cap.2)
        have htz := text_size xs
        clear hd hd3 ho3
        go_wp2_with fail
        refine HBT.out.mono ?_
        rintro e w4 ⟨rfl, q, hq⟩
        have hdw4 : Dr W g (P + 1 + 1 + 14 * k + 13) w4 := by rw [hq]; exact hdw3.drewN q
        have HO4 : Hid (OwP w4 W.heap.size (some ⟨gg, 0, none⟩) nn cc ps) := by
          show OwP w4 W.heap.size (some ⟨gg, 0, none⟩) nn cc ps
          rw [hq]; exact HO3.out.drewN q
        clear hq hdw3 HBT HO3
        generalize (⟨(Bal.text xs).toArray⟩ : ByteArray) = t at *
        go_wp2_with fail
        refine (pickD_any _ hdw4 (by omega)).mono ?_
        rintro e w5 ⟨v5, rfl, hv50, hv51', hd5, hg5, -⟩
        have hv51 := hv51' (by omega)
        have HO5 := Lib.hid (HO4.out.above hg5 hgl)
        have hBs5 := hd5.size
        clear hg5 hdw4 hv51' HO4
        have hadd := sPilesAdd_any gg 0 nn cc ps t (1 + v5) w5 HO5.out.rd HCap.out.1 (by omega) HCap.out.2 (fun p hp => by have := HSz.out p hp; omega) (by omega)
        cases hok : paddOk ps t (1 + v5) with
        | false =>
          rw [hok] at hadd
          have HA := Lib.hid hadd
          clear hadd hok
          go_wp2_with fail
          refine HA.out.mono ?_
          rintro e w6 ⟨g6, n6, c6, rfl, -, hb6⟩
          have hd6 := hd5.below hb6
          have HO6 := Lib.hid (HO5.out.below hb6)
          clear hb6 hd5
          go_wp2_with fail
          go_roundw
          case rel => exact ⟨k + 1, gg, nn, cc, ps, by omega, by omega, by go_num, rfl, HO6.out, HP.out, hd6.mono (by omega)⟩
          case measure => simp [intOf]; omega
        | true =>
          rw [hok, (padd_t hok).1] at hadd
          have HA := Lib.hid hadd
          have HP2 := Lib.hid (padd_t hok).2
          clear hadd hok
          go_wp2_with fail
          refine HA.out.mono ?_
          rintro e w6 ⟨g6, n6, c6, rfl, ho6, hb6⟩
          have hd6 := hd5.below hb6
          have HO6 := Lib.hid (ho6.base hBs5)
          clear hb6 hd5 ho6
          go_wp2_with fail
          go_roundw
          case rel => exact ⟨k + 1, g6, n6, c6, _, by omega, by omega, by go_num, rfl, HO6.out, HP2.out, hd6.mono (by omega)⟩
          case measure => simp [intOf]; omega
      · by_cases hn0 : 0 < nn
        · have hn0' : (0 : Int) < (nn : Int) := by omega
          go_wp2_with fail
          refine (pickD_any _ hd (by omega)).mono ?_
          rintro e w7 ⟨kk, rfl, hk0, hk1', hd7, hg7, -⟩
          have hk1 := hk1' (by omega)
          obtain ⟨j, rfl⟩ : ∃ j : Nat, kk = j := ⟨kk.toNat, by omega⟩
          have HO7 := Lib.hid (HO.out.above hg7 hgl)
          clear hg7 hd hk1'
          go_wp2_with fail
          refine (pickD_any _ hd7 (by omega)).mono ?_
          rintro e w8 ⟨v8, rfl, -, -, hd8, hg8, -⟩
          have HO8 := Lib.hid (HO7.out.above hg8 hgl)
          have hBs8 := hd8.size
          clear hg8 hd7 HO7
          have hj2 : j < ps.length := by have := HLen.out; omega
          by_cases hv0 : v8 = 0
          · subst hv0
            have hgg := HO8.out.fromB
            go_wp2_with fail
            refine (pickD_any _ (hd8.alloc _) (by omega)).mono ?_
            rintro e w9 ⟨v9, rfl, hv90, hv91', hd9, hg9, -⟩
            have hv91 := hv91' (by omega)
            have HO9 := Lib.hid ((HO8.out.alloc _).above hg9 hgl)
            have l0 := carry2 hg9 (v := .int .i64 0) (b := w8.heap.size) (o := 0) (by simp) (by omega) (by simp [go_sem])
            have l1 := carry2 hg9 (v := .int .i64 99) (b := w8.heap.size) (o := 1) (by simp) (by omega) (by simp [go_sem])
            have l2 := carry2 hg9 (v := .int .i64 100) (b := w8.heap.size) (o := 2) (by simp) (by omega) (by simp [go_sem])
            obtain ⟨g', hg', -, -, hcl⟩ := HO9.out.at_ hn0
            obtain rfl : g' = gg := by injection hg' with e; injection e with e; exact e.symm
            obtain ⟨d0, d1, f0, f1⟩ := hcl j hj2
            have HS := Lib.hid (fun u => HO9.out.setM j hj2 u)
            have HZ := Lib.hid (fun u => set_sizes HSz.out j ps[j].1 u (HSz.out _ (List.getElem_mem hj2)))
            clear hg9 hd8 hv91' hcl hg' HO9
            rcases (show v9 = 0 ∨ v9 = 1 ∨ v9 = 2 by omega) with rfl | rfl | rfl
            all_goals
              go_wp2_with fail
              go_ret
              exact ⟨g', nn, cc, _, rfl, HS.out _, by omega, HZ.out _, (hd9.belowB ((Below.refl _ _).setCell hgg.1 _)).mono (by omega)⟩
          · have hv0' : (v8 == 0) = false := by simpa using hv0
            by_cases hv1 : v8 = 1
            · subst hv1
              obtain ⟨g', hg', -, -, hcl⟩ := HO8.out.at_ hn0
              obtain rfl : g' = gg := by injection hg' with e; injection e with e; exact e.symm
              obtain ⟨d0, d1, f0, f1⟩ := hcl j hj2
              have hj' : (j : Int) < (nn : Int) := by omega
              have hZ : ∀ p ∈ ps ++ [(ps[j].1, ps[j].2)], p.1.size ≤ 5 := fun p hp => by
                rcases List.mem_append.1 hp with hp | hp
                · exact HSz.out p hp
                · rw [List.mem_singleton.1 hp]; exact HSz.out _ (List.getElem_mem hj2)
              have HZ := Lib.hid hZ
              clear hcl hg' hv0 hZ
              generalize ps[j].1 = s at *
              generalize ps[j].2 = y at *
              go_wp2_with (at_builtin; refine wpList_appP (by rfl) _ _ (by rfl) (B := W.heap.size) (qs := [(s, y)]) (by rfl) ⟨w8.heap.size, 0, none⟩ 1 1 (by rfl) (HO8.out.alloc _) rfl (srcp_one (by simp [go_sem]) (by simp [go_sem])) (nn + 1) rfl (by omega) (by simp; omega) ?_)
              intro A9 c9 w9 ho9 hb9 _ _ g9 hA9
              subst hA9
              have hd9 := (hd8.alloc (.cells #[.string s, .int .i64 y] 44)).belowB hb9
              have HO9 := Lib.hid ho9
              clear ho9 hb9 hd8
              go_wp2_with fail
              go_ret
              exact ⟨g9, nn + 1, c9, _, rfl, HO9.out, by omega, HZ.out, hd9.mono (by omega)⟩
            · have hv1' : (v8 == 1) = false := by simpa using hv1
              by_cases hv2_ : v8 = 2
              · subst hv2_
                have hgg := HO8.out.fromB
                have HOf := Lib.hid (of_any (W := W) (w1 := w8.alloc (.cells #[.string ⟨#[97, 97]⟩, .string ⟨#[102]⟩, .string ⟨#[120]⟩] 9)) (g := g) (P := P + 1 + 1 + 14 * k + 1 + 1) w8.heap.size ⟨#[97, 97]⟩ ⟨#[102]⟩ ⟨#[120]⟩ (hd8.alloc _) (by omega) (by simp) (by omega) (by simp [go_sem]) (by simp [go_sem]) (by simp [go_sem]) (by decide) (by decide) (by decide))
                clear hv0 hv1
                go_wp2_with fail
                refine HOf.out.mono ?_
                rintro e w9 ⟨s9, rfl, hs9, hd9, hg9⟩
                have HO9 := Lib.hid ((HO8.out.alloc _).above hg9 hgl)
                obtain ⟨g', hg', -, -, hcl⟩ := HO9.out.at_ hn0
                obtain rfl : g' = gg := by injection hg' with e; injection e with e; exact e.symm
                obtain ⟨d0, d1, f0, f1⟩ := hcl j hj2
                have HS := Lib.hid (HO9.out.setS j hj2 s9)
                have HZ := Lib.hid (set_sizes HSz.out j s9 ps[j].2 hs9)
                clear hg9 hcl hg' HO9 hd8
                go_wp2_with fail
                go_ret
                exact ⟨g', nn, cc, _, rfl, HS.out, by omega, HZ.out, (hd9.belowB ((Below.refl _ _).setCell hgg.1 _)).mono (by omega)⟩
              · have hv2_' : (v8 == 2) = false := by simpa using hv2_
                clear hv0 hv1 hv2_
                go_wp2_with fail
                go_ret
                exact ⟨gg, nn, cc, ps, rfl, HO8.out, by omega, HSz.out, hd8.mono (by omega)⟩
        · have hn0' : ¬ (0 : Int) < (nn : Int) := by omega
          go_wp2_with fail
          go_ret
          exact ⟨gg, nn, cc, ps, rfl, HO.out, by omega, HSz.out, hd.mono (by omega)⟩

/-- piles for a law -/
def DrawP1 (w : World) (e : Ending) (w' : World) : Prop := ∃ gg n c ps, e = .returned (.slice (some ⟨gg, 0, none⟩) n c) ∧ OwP w' w.heap.size (some ⟨gg, 0, none⟩) n c ps ∧ n ≤ 13 ∧ (∀ p ∈ ps, p.1.size ≤ 5) ∧ Below w.heap.size w w'

theorem drawPilesValid_any (a : Option Addr) (n c : Nat) (z : List Int) (w : World) (h : IsRow .u8 w a n c z) : Calls Try.prog 32 #[.slice a n c] w (DrawP1 w) := by
  go_enter Try.func32, Try.ntmps32
  go_wp2_with fail
  refine (l6Open_any a n c z w h).mono ?_
  rintro e w1 ⟨rfl, hr1, hb1⟩
  go_wp2_with fail
  refine (l91Piles_any _ 0 4 w1 (by omega) hr1 (by omega) (by omega)).mono ?_
  rintro e w2 ⟨gg, nn, cc, ps, rfl, ho, hn, hs, hd⟩
  have hbw := hd.belowW hb1 (Nat.le_refl _)
  have HS := Lib.hid hs
  have HO := Lib.hid (ho.base hb1.size)
  clear ho hs
  go_wp2_with fail
  go_ret
  exact ⟨gg, nn, cc, ps, rfl, HO.out, hn, HS.out, hbw⟩

theorem drawPilesTotal_any (a : Option Addr) (n c : Nat) (z : List Int) (w : World) (h : IsRow .u8 w a n c z) : Calls Try.prog 33 #[.slice a n c] w (DrawP1 w) := by
  go_enter Try.func33, Try.ntmps33
  go_wp2_with fail
  refine (l6Open_any a n c z w h).mono ?_
  rintro e w1 ⟨rfl, hr1, hb1⟩
  go_wp2_with fail
  refine (l91Piles_any _ 0 4 w1 (by omega) hr1 (by omega) (by omega)).mono ?_
  rintro e w2 ⟨gg, nn, cc, ps, rfl, ho, hn, hs, hd⟩
  have hbw := hd.belowW hb1 (Nat.le_refl _)
  have HS := Lib.hid hs
  have HO := Lib.hid (ho.base hb1.size)
  clear ho hs
  go_wp2_with fail
  go_ret
  exact ⟨gg, nn, cc, ps, rfl, HO.out, hn, HS.out, hbw⟩
end Go.Proofs.Ytlfgmljgoolbeaa
