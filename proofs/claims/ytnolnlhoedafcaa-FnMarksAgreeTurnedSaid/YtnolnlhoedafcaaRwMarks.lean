/- l91Marks, with how many marks it draws. -/
import Derived.Test.YtnolnlhoedafcaaRwOwn
import Derived.Test.YtnolnlhoedafcaaDrawMa
namespace Go.Proofs.Ytnolnlhoedafcaa
open Go.RowKit
set_option linter.unusedSimpArgs false

theorem marksLen2 {b : List Int} {n : Int} (h : Bal.bv b n = true) : ((Ma.marksOf b n).length : Int) = n := by
  rw [Ma.marksOf_t h, Ma.markUp_len]; have := (Bal.bv_iff.1 h).1; omega
def DrawE (W : World) (g P : Nat) (m : Int) (e : Ending) (w' : World) : Prop :=
  ∃ A n c xs, e = .returned (.slice A n c) ∧ OwA w' W.heap.size A n c xs ∧ (n : Int) = m ∧ Dr W g P w'
set_option maxHeartbeats 6400000 in
theorem l91MarksE_any (g P : Nat) (m : Int) (W : World) (hP : P ≤ 800000) (hr : Rdr W g P) (h0 : 0 ≤ m) (h1 : m ≤ 8) :
    Calls Try.prog 27 #[.pointer (some ⟨g, 0, none⟩), .int .i64 m] W (DrawE W g (P + 30) m) := by
  have hd := Dr.start hr
  have hgl := hr.lt
  have HE := Lib.hid (OwA.empty W W.heap.size (Nat.le_refl _))
  clear hr
  go_enter Try.func27, Try.ntmps27
  go_wp2_with fail
  go_loopw [5, 6] (fun v i wr => ∃ (k : Nat) (A : Option Addr) (c : Nat) (xs : List Int), (k : Int) ≤ m ∧ i = .int .i64 k ∧ v = .slice A k c ∧ OwA wr W.heap.size A k c xs ∧ Dr W g (P + k) wr) (fun _ i _ => m.toNat - (intOf i).toNat)
  case atStart => exact ⟨0, _, _, _, by omega, rfl, rfl, HE.out, hd.alloc _⟩
  case round =>
    obtain ⟨k, A, c, xs, hk, rfl, rfl, ho, hd⟩ := hrel
    have HO := Lib.hid ho
    clear ho
    have hBs := hd.size
    by_cases hlt : (k : Int) < m
    · go_wp2_with fail
      refine (pickD_any _ hd (by omega)).mono ?_
      rintro e w2 ⟨v, rfl, -, -, hd2, hg2, -⟩
      have HO2 := Lib.hid (HO.out.pick hg2 hgl)
      have hBs2 := hd2.size
      clear hg2 hd
      go_wp2_with (at_builtin; refine wpList_app1 (by rfl) _ _ (by rfl) _ W.heap.size A k c _ _ (by rfl) HO2.out (by rfl) (by omega) hBs2 ?_)
      intro g2 cap w4 ho4 hb4 _ _
      have hd4 := hd2.belowB hb4
      have HO4 := Lib.hid ho4
      clear ho4 hb4
      go_wp2_with fail
      go_roundw
      case rel => exact ⟨k + 1, _, _, _, by omega, by go_num, rfl, HO4.out, hd4.mono (by omega)⟩
      case measure => simp [intOf]; omega
    · go_wp2_with fail
      refine (pickD_any _ hd (by omega)).mono ?_
      rintro e w2 ⟨v, rfl, v0, v1', hd2, hg2, -⟩
      have HO2 := Lib.hid (HO.out.pick hg2 hgl)
      have hBs2 := hd2.size
      clear hg2 hd v1'
      by_cases hv : v = 0
      · subst hv
        go_wp2_with fail
        refine (l91Ballot_any _ (P + k + 1) m w2 (by omega) hd2.rdr h0 (by omega)).mono ?_
        rintro e w3 ⟨Ab, nb, cb, bs, rfl, hob, hnb, hd3'⟩
        have hd3 := hd2.trans hd3'
        have HO3 := Lib.hid (HO2.out.pick hd3'.2.1 hgl)
        have hcap := hob.cap
        have HM := Lib.hid (sMarksOf_any Ab nb cb bs m w3 hob.rd hcap.1 (by omega) hcap.2)
        have HML := Lib.hid (Ma.marksOf_len bs m)
        have HML2 := Lib.hid (fun (h : Bal.bv bs m = true) => marksLen2 h)
        clear hob hd3' hd2
        cases hok : Bal.bv bs m with
        | false =>
          have hm := HM.out
          rw [hok] at hm
          have HM2 := Lib.hid hm
          clear hm hok
          go_wp2_with fail
          refine HM2.out.mono ?_
          rintro e w4 ⟨Ax, nx, cx, rfl, hox, hbx⟩
          have HO4 := Lib.hid (HO3.out.below hbx)
          have hd4 := hd3.below hbx
          clear hox hbx hd3
          by_cases hn0 : 0 < k
          · have hn0' : (0 : Int) < (k : Int) := by omega
            go_wp2_with fail
            refine (pickD_any (P := P + k + 1 + 13) _ hd4 (by omega)).mono ?_
            rintro e t1 ⟨v1, rfl, v10, v11', hdt1, hgt1, -⟩
            have HOt1 := Lib.hid (HO4.out.pick hgt1 hgl)
            clear hgt1 v11'
            by_cases hv1 : v1 = 0
            · subst hv1
              go_wp2_with fail
              refine (pickD_any _ hdt1 (by omega)).mono ?_
              rintro e t2 ⟨v2, rfl, v20, v21', hdt2, hgt2, -⟩
              have v21 := v21' (by omega)
              have HOt2 := Lib.hid (HOt1.out.pick hgt2 hgl)
              obtain ⟨k2, rfl⟩ : ∃ k2 : Nat, v2 = k2 := ⟨v2.toNat, by omega⟩
              have hst2 := hdt2.size
              have hne2 : ¬ t2.heap.size = g := by omega
              clear hgt2 v21'
              go_wp2_with fail
              refine (pickD_any (P := P + k + 1 + 13 + 1 + 1) _ (hdt2.alloc _) (by omega)).mono ?_
              rintro e t3 ⟨v3, rfl, v30, v31', hdt3, hgt3, hzt3⟩
              have v31 := v31' (by omega)
              obtain ⟨x3, hx3⟩ := lit3 v3 v30 v31 (-1) 9 10
              have HOt3 := Lib.hid ((HOt2.out.alloc _).pick hgt3 hgl)
              obtain ⟨gc3, gf3⟩ := gcell hgt3
              have hst3 : t2.heap.size < t3.heap.size := by rw [hzt3]; simp
              have HZ3 := Lib.hid hzt3
              obtain ⟨ga, rfl, hBg, hgl2, hcell⟩ := HOt3.out.at_ hn0
              obtain ⟨hcc, hff⟩ := hcell k2 (by omega)
              have HS := Lib.hid (HOt3.out.set_ k2 x3)
              have hd7 := hdt3.belowB (w2 := t3.setCell ⟨ga, k2, none⟩ (.int .i64 x3)) ((Below.refl _ _).setCell hBg _)
              clear hcell hgt3 hzt3 v31'
              generalize xs.getD k2 0 = y at hcc
              go_wp2_with fail
              go_ret
              exact ⟨_, k, c, _, rfl, HS.out, by omega, hd7.mono (by omega)⟩
            · have hv1' : (v1 == 0) = false := by simpa using hv1
              clear hv1
              go_wp2_with fail
              go_ret
              exact ⟨A, k, c, xs, rfl, HOt1.out, by omega, hdt1.mono (by omega)⟩
          · have hn0' : ¬ (0 : Int) < (k : Int) := by omega
            go_wp2_with fail
            go_ret
            exact ⟨A, k, c, xs, rfl, HO4.out, by omega, hd4.mono (by omega)⟩
        | true =>
          have hm := HM.out
          rw [hok] at hm
          have HM2 := Lib.hid hm
          have hml := HML2.out hok
          clear hm hok
          go_wp2_with fail
          refine HM2.out.mono ?_
          rintro e w4 ⟨Ax, nx, cx, rfl, hox, hbx⟩
          have hnm : (nx : Int) = m := by have h1 := hox.len; omega
          have hnx : nx ≤ 5 := by have := hox.len; have := HML.out; omega
          have hd4 := hd3.below hbx
          have HO4 := Lib.hid (hox.base hd3.size)
          clear hml
          generalize Ma.marksOf bs m = ms at HO4
          clear hox hbx hd3
          by_cases hn0 : 0 < nx
          · have hn0' : (0 : Int) < (nx : Int) := by omega
            go_wp2_with fail
            refine (pickD_any (P := P + k + 1 + 13) _ hd4 (by omega)).mono ?_
            rintro e t1 ⟨v1, rfl, v10, v11', hdt1, hgt1, -⟩
            have HOt1 := Lib.hid (HO4.out.pick hgt1 hgl)
            clear hgt1 v11'
            by_cases hv1 : v1 = 0
            · subst hv1
              go_wp2_with fail
              refine (pickD_any _ hdt1 (by omega)).mono ?_
              rintro e t2 ⟨v2, rfl, v20, v21', hdt2, hgt2, -⟩
              have v21 := v21' (by omega)
              have HOt2 := Lib.hid (HOt1.out.pick hgt2 hgl)
              obtain ⟨k2, rfl⟩ : ∃ k2 : Nat, v2 = k2 := ⟨v2.toNat, by omega⟩
              have hst2 := hdt2.size
              have hne2 : ¬ t2.heap.size = g := by omega
              clear hgt2 v21'
              go_wp2_with fail
              refine (pickD_any (P := P + k + 1 + 13 + 1 + 1) _ (hdt2.alloc _) (by omega)).mono ?_
              rintro e t3 ⟨v3, rfl, v30, v31', hdt3, hgt3, hzt3⟩
              have v31 := v31' (by omega)
              obtain ⟨x3, hx3⟩ := lit3 v3 v30 v31 (-1) 9 10
              have HOt3 := Lib.hid ((HOt2.out.alloc _).pick hgt3 hgl)
              obtain ⟨gc3, gf3⟩ := gcell hgt3
              have hst3 : t2.heap.size < t3.heap.size := by rw [hzt3]; simp
              have HZ3 := Lib.hid hzt3
              obtain ⟨ga, rfl, hBg, hgl2, hcell⟩ := HOt3.out.at_ hn0
              obtain ⟨hcc, hff⟩ := hcell k2 (by omega)
              have HS := Lib.hid (HOt3.out.set_ k2 x3)
              have hd7 := hdt3.belowB (w2 := t3.setCell ⟨ga, k2, none⟩ (.int .i64 x3)) ((Below.refl _ _).setCell hBg _)
              clear hcell hgt3 hzt3 v31'
              generalize ms.getD k2 0 = y at hcc
              go_wp2_with fail
              go_ret
              exact ⟨_, nx, cx, _, rfl, HS.out, by omega, hd7.mono (by omega)⟩
            · have hv1' : (v1 == 0) = false := by simpa using hv1
              clear hv1
              go_wp2_with fail
              go_ret
              exact ⟨Ax, nx, cx, ms, rfl, HOt1.out, by omega, hdt1.mono (by omega)⟩
          · have hn0' : ¬ (0 : Int) < (nx : Int) := by omega
            go_wp2_with fail
            go_ret
            exact ⟨Ax, nx, cx, ms, rfl, HO4.out, by omega, hd4.mono (by omega)⟩
      · have hv' : (v == 0) = false := by simpa using hv
        clear hv
        by_cases hn0 : 0 < k
        · have hn0' : (0 : Int) < (k : Int) := by omega
          go_wp2_with fail
          refine (pickD_any (P := P + k + 1) _ hd2 (by omega)).mono ?_
          rintro e t1 ⟨v1, rfl, v10, v11', hdt1, hgt1, -⟩
          have HOt1 := Lib.hid (HO2.out.pick hgt1 hgl)
          clear hgt1 v11'
          by_cases hv1 : v1 = 0
          · subst hv1
            go_wp2_with fail
            refine (pickD_any _ hdt1 (by omega)).mono ?_
            rintro e t2 ⟨v2, rfl, v20, v21', hdt2, hgt2, -⟩
            have v21 := v21' (by omega)
            have HOt2 := Lib.hid (HOt1.out.pick hgt2 hgl)
            obtain ⟨k2, rfl⟩ : ∃ k2 : Nat, v2 = k2 := ⟨v2.toNat, by omega⟩
            have hst2 := hdt2.size
            have hne2 : ¬ t2.heap.size = g := by omega
            clear hgt2 v21'
            go_wp2_with fail
            refine (pickD_any (P := P + k + 1 + 1 + 1) _ (hdt2.alloc _) (by omega)).mono ?_
            rintro e t3 ⟨v3, rfl, v30, v31', hdt3, hgt3, hzt3⟩
            have v31 := v31' (by omega)
            obtain ⟨x3, hx3⟩ := lit3 v3 v30 v31 (-1) 9 10
            have HOt3 := Lib.hid ((HOt2.out.alloc _).pick hgt3 hgl)
            obtain ⟨gc3, gf3⟩ := gcell hgt3
            have hst3 : t2.heap.size < t3.heap.size := by rw [hzt3]; simp
            have HZ3 := Lib.hid hzt3
            obtain ⟨ga, rfl, hBg, hgl2, hcell⟩ := HOt3.out.at_ hn0
            obtain ⟨hcc, hff⟩ := hcell k2 (by omega)
            have HS := Lib.hid (HOt3.out.set_ k2 x3)
            have hd7 := hdt3.belowB (w2 := t3.setCell ⟨ga, k2, none⟩ (.int .i64 x3)) ((Below.refl _ _).setCell hBg _)
            clear hcell hgt3 hzt3 v31'
            generalize xs.getD k2 0 = y at hcc
            go_wp2_with fail
            go_ret
            exact ⟨_, k, c, _, rfl, HS.out, by omega, hd7.mono (by omega)⟩
          · have hv1' : (v1 == 0) = false := by simpa using hv1
            clear hv1
            go_wp2_with fail
            go_ret
            exact ⟨A, k, c, xs, rfl, HOt1.out, by omega, hdt1.mono (by omega)⟩
        · have hn0' : ¬ (0 : Int) < (k : Int) := by omega
          go_wp2_with fail
          go_ret
          exact ⟨A, k, c, xs, rfl, HO2.out, by omega, hd2.mono (by omega)⟩
end Go.Proofs.Ytnolnlhoedafcaa
