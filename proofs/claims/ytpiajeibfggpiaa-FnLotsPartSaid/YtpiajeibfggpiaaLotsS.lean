/- LotsOf, the reference's. -/
import Derived.Test.YtpiajeibfggpiaaLots
namespace Go.Proofs.Ytpiajeibfggpiaa
open Go.RowKit

set_option maxHeartbeats 3200000 in
theorem sLotsOf_any (a b : Int) (W : World) :
    Calls Try.prog 20 #[.int .i64 a, .int .i64 b] W (ResI W (Bal.lots a b) (Bal.lotsOk a b)) := by
  have HE := Lib.hid (OwA.empty W W.heap.size (Nat.le_refl _))
  by_cases ha : 1 ≤ a ∧ a ≤ 5
  · by_cases hb0 : 0 ≤ b ∧ b ≤ 999
    · have hok : Bal.lotsOk a b = true := by unfold Bal.lotsOk; simp; omega
      have HK := Lib.hid hok
      obtain ⟨m, rfl⟩ : ∃ m : Nat, a = m := ⟨a.toNat, by omega⟩
      obtain ⟨s, rfl⟩ : ∃ s : Nat, b = s := ⟨b.toNat, by omega⟩
      have HT := Lib.hid (Bal.lots_t hok)
      have hm5 : m ≤ 5 := by omega
      have hs9 : s ≤ 999 := by omega
      have hm1 : 1 ≤ m := by omega
      clear hok
      go_enter Try.func20, Try.ntmps20
      go_wp2_with fail
      refine (l6In_t _ _ _ _ ha).mono ?_
      rintro e w1 ⟨rfl, rfl⟩
      go_wp2_with fail
      refine (l6In_t _ _ _ _ hb0).mono ?_
      rintro e w1 ⟨rfl, rfl⟩
      go_wp2_with fail
      go_loopw [6, 7] (fun l i wr => UpRel W m wr l i) (fun _ i _ => m - (intOf i).toNat)
      case atStart => exact ⟨0, _, 0, Nat.zero_le _, rfl, rfl, HE.out, (Below.refl _ _).alloc (Nat.le_refl _) _⟩
      case round =>
        obtain ⟨k, A, c, hk, rfl, rfl, ho, hb⟩ := hrel
        have HO := Lib.hid ho
        clear ho
        have hBs := hb.size
        by_cases hlt : k < m
        · have hlt' : (k : Int) < (m : Int) := by omega
          have HS := Lib.hid (Bal.upTo_succ k)
          go_wp2_with (at_builtin; refine wpList_app1 (by rfl) _ _ (by rfl) _ W.heap.size A k c _ _ (by rfl) HO.out (by rfl) (by omega) hBs ?_)
          intro g cap w1 ho1 hb1 _ _
          have hb2 := hb.trans hb1
          rw [← HS.out] at ho1
          have HO1 := Lib.hid ho1
          clear ho1 hb1 hb
          go_wp2_with fail
          go_roundw
          case rel => exact ⟨k + 1, _, _, by omega, by go_num, rfl, HO1.out, hb2⟩
          case measure => simp [intOf]; omega
        · have hlt' : ¬ (k : Int) < (m : Int) := by omega
          obtain rfl : k = m := by omega
          have HNE := Lib.hid (fun g hg => HO.out.lt (g := g) hg)
          have HE2 := Lib.hid (OwA.empty wr W.heap.size hBs)
          go_wp2_with fail
          go_loopw [1, 6, 8] (fun sv l o wr2 => LotRel W (Bal.lotsOf k s) wr2 sv l o) (fun _ l _ _ => lenV l)
          case atStart => exact ⟨k, s, A, c, _, _, 0, 0, [], rfl, rfl, rfl, HO.out.alloc _, HE2.out, rfl, hm5, by omega, hs9, hb.alloc hBs _, fun g hg e => by have h1 := HNE.out g hg; have h2 : wr.heap.size = g := Option.some.inj e; omega⟩
          case round =>
            obtain ⟨n, t, A1, c1, l, A2, n2, c2, o, rfl, rfl, rfl, ho1, ho2, hR, hn5, hnn, ht9, hbr, hne⟩ := hrel
            clear HO hb hBs HNE HE2
            have HR := Lib.hid hR
            have HO1 := Lib.hid ho1
            have HO2 := Lib.hid ho2
            have HNE := Lib.hid hne
            clear hR ho1 ho2 hne
            have hBs := hbr.size
            by_cases hn0 : 0 < n
            · have hn0' : (0 : Int) < (n : Int) := by omega
              have hat : t % n < n := Nat.mod_lt _ hn0
              have hdiv : t / n ≤ t := Nat.div_le_self _ _
              obtain ⟨g, rfl, _, hgl, hcell⟩ := HO1.out.at_ hn0
              obtain ⟨hc, _⟩ := hcell (t % n) hat
              have HST := Lib.hid (Bal.lotsGo_step hn0 HO1.out.len HR.out)
              have e1 : (t : Int) % (n : Int) = ((t % n : Nat) : Int) := (Int.natCast_emod _ _).symm
              have e2 : (t : Int) / (n : Int) = ((t / n : Nat) : Int) := (Int.natCast_ediv _ _).symm
              clear hcell
              generalize t % n = i at hat hc HST e1
              generalize t / n = t2 at hdiv HST e2
              generalize l.getD i 0 = y at hc HST
              have hi0 : (0 : Int) ≤ (i : Int) := by omega
              have hi1 : (i : Int) < (n : Int) := by omega
              go_wp2_with (at_builtin; refine wpList_app1 (by rfl) _ _ (by rfl) _ W.heap.size A2 n2 c2 _ _ (by rfl) HO2.out (by rfl) (by omega) hBs ?_)
              intro g2 cap w1 ho2' hb1 hgr hat2
              have HO2' := Lib.hid ho2'
              have HO1' := Lib.hid (HO1.out.other hgr (fun g' hg' e => HNE.out g' hg' e))
              have hb2 := hbr.trans hb1
              have hcap := HO1'.out.cap
              have hgl1 := HO2'.out.lt rfl
              have hgl2 := HO1'.out.lt rfl
              clear ho2' hgr hat2 hb1 hbr e1 e2
              go_wp2_with fail
              have hBs1 := hb2.size
              have hic : (i : Int) ≤ (c1 : Int) := by omega
              have hi1' : (i : Int) + 1 ≤ (n : Int) := by omega
              have hi1c : (i : Int) + 1 ≤ (c1 : Int) := by omega
              have hnc : (n : Int) ≤ (c1 : Int) := by omega
              have hi2 : (0 : Int) ≤ (i : Int) + 1 := by omega
              have hmx : c1 ≤ 9223372036854775807 := by have := hcap.2; unfold maxLen at this; exact this
              have et : ((i : Int) + 1).toNat = i + 1 := by omega
              have ew : IntKind.i64.wrap ((i : Int) + 1) = (i : Int) + 1 := IntWalk.i64_in _ (by omega)
              have tok1 : True := trivial
              have tok2 : True := trivial
              have HL1 := Lib.hid HO1'.out.len
              by_cases hcc : c1 = i + 1
              · have hif : ∀ x y : Option Addr, (if c1 = i + 1 then x else y) = x := fun x y => if_pos hcc
                have HCC := Lib.hid hcc
                clear hcc
                go_region_law ((first | (have _t := tok1; refine step_appN (by rfl) _ _ (by rfl) (B := W.heap.size) (n := 0) (c := 0) (xs := []) (ys := l.take i) (by rfl) ⟨g, 0, none⟩ i _ (by rfl) (by exact OwA.empty w1 _ hBs1) (by simp; have := HO1'.out.len; omega) (by exact src_take (HO1'.out.alloc _).rd i (by omega)) i (by omega) (by omega) (by simp; omega) ?_; intro A3 c3 w3 ho3 hb3 hgr3 hat3; have L3 := (HO1'.out.alloc _).drew.other hgr3 (fun g' hg' e => by have e1 := addr_inj hg'; have e2 : w1.heap.size = g' := Option.some.inj e; omega); have O3 := (HO2'.out.alloc _).drew.other hgr3 (fun g' hg' e => by have e1 := addr_inj hg'; have e2 : w1.heap.size = g' := Option.some.inj e; omega); have F3 := (OwA.empty w1 _ hBs1).from_ (H := w1.heap.size) (A' := A3) (fun g' hg' => Nat.le_of_eq (addr_inj hg')) hat3 (by simp); have hs3 := hgr3.size; (try simp only [World.size_alloc, World.size_drew] at hs3); have hb3' := ((hb2.alloc hBs1 _).drew).trans hb3; have HB3 := hb3'.size; clear tok1 hgr3 hat3 hb3; rw [List.nil_append] at ho3) | (have _t := tok2; refine step_appN (by rfl) _ _ (by rfl) (B := W.heap.size) (xs := l.take i) (ys := l.drop (i + 1)) (by rfl) ⟨g, 0, none⟩ (n - (i + 1)) _ (by rfl) ho3 (by simp; have := HO1'.out.len; omega) (by exact (fun j hj => by have := HCC.out; omega)) (n - 1) (by omega) (by omega) HB3 ?_; intro A4 c4 w4 ho4 hb4 hgr4 hat4; have O4 := O3.other hgr4 (fun g' hg' => ho3.row_ne (fun g'' hg'' => by have e1 := addr_inj hg'; have e2 := F3 g'' hg''; omega)); have F4 := ho3.from_ F3 hat4 (by omega); have hb4' := hb3'.trans hb4; rw [erase_eq] at ho4; clear tok2 hgr4 hat4 hb4)))
                go_roundw
                case rel =>
                  repeat apply Exists.intro
                  refine ⟨?r1, ?r2⟩
                  case r2 => rfl
                  case r1 => exact ⟨n - 1, t2, A4, c4, _, _, n2 + 1, _, _, rfl, rfl, rfl, ho4, O4, HST.out, by omega, by omega, by omega, hb4', fun g' hg' e => by have e1 := F4 g' hg'; have e2 : g2 = g' := Option.some.inj e; omega⟩
                case measure => show n - 1 < n; omega
              · go_region_law ((first | (have _t := tok1; refine step_appN (by rfl) _ _ (by rfl) (B := W.heap.size) (n := 0) (c := 0) (xs := []) (ys := l.take i) (by rfl) ⟨g, 0, none⟩ i _ (by rfl) (by exact OwA.empty w1 _ hBs1) (by simp; have := HO1'.out.len; omega) (by exact src_take (HO1'.out.alloc _).rd i (by omega)) i (by omega) (by omega) (by simp; omega) ?_; intro A3 c3 w3 ho3 hb3 hgr3 hat3; have L3 := (HO1'.out.alloc _).drew.other hgr3 (fun g' hg' e => by have e1 := addr_inj hg'; have e2 : w1.heap.size = g' := Option.some.inj e; omega); have O3 := (HO2'.out.alloc _).drew.other hgr3 (fun g' hg' e => by have e1 := addr_inj hg'; have e2 : w1.heap.size = g' := Option.some.inj e; omega); have F3 := (OwA.empty w1 _ hBs1).from_ (H := w1.heap.size) (A' := A3) (fun g' hg' => Nat.le_of_eq (addr_inj hg')) hat3 (by simp); have hs3 := hgr3.size; (try simp only [World.size_alloc, World.size_drew] at hs3); have hb3' := ((hb2.alloc hBs1 _).drew).trans hb3; have HB3 := hb3'.size; clear tok1 hgr3 hat3 hb3; rw [List.nil_append] at ho3) | (have _t := tok2; refine step_appN (by rfl) _ _ (by rfl) (B := W.heap.size) (xs := l.take i) (ys := l.drop (i + 1)) (by rfl) ⟨g, i + 1, none⟩ (n - (i + 1)) _ (by rfl) ho3 (by simp; have := HO1'.out.len; omega) (by have hq := src_drop L3.rd (i + 1) (by omega); rw [Nat.zero_add] at hq; exact hq) (n - 1) (by omega) (by omega) HB3 ?_; intro A4 c4 w4 ho4 hb4 hgr4 hat4; have O4 := O3.other hgr4 (fun g' hg' => ho3.row_ne (fun g'' hg'' => by have e1 := addr_inj hg'; have e2 := F3 g'' hg''; omega)); have F4 := ho3.from_ F3 hat4 (by omega); have hb4' := hb3'.trans hb4; rw [erase_eq] at ho4; clear tok2 hgr4 hat4 hb4)))
                go_roundw
                case rel =>
                  repeat apply Exists.intro
                  refine ⟨?r1, ?r2⟩
                  case r2 => rfl
                  case r1 => exact ⟨n - 1, t2, A4, c4, _, _, n2 + 1, _, _, rfl, rfl, rfl, ho4, O4, HST.out, by omega, by omega, by omega, hb4', fun g' hg' e => by have e1 := F4 g' hg'; have e2 : g2 = g' := Option.some.inj e; omega⟩
                case measure => show n - 1 < n; omega
            · obtain rfl : n = 0 := by omega
              have HX := Lib.hid (Bal.lotsGo_end HR.out)
              go_wp2_with fail
              go_ret2
              exact ⟨A2, n2, c2, ret_pair HK.out.symm, by have h1 := HO2.out; rw [HX.out] at h1; rw [HT.out]; exact h1, hbr⟩
    · have hok : Bal.lotsOk a b = false := by unfold Bal.lotsOk; simp; omega
      have HK := Lib.hid hok
      have HT := Lib.hid (Bal.lots_f hok)
      clear hok
      go_enter Try.func20, Try.ntmps20
      go_wp2_with fail
      refine (l6In_t _ _ _ _ ha).mono ?_
      rintro e w1 ⟨rfl, rfl⟩
      go_wp2_with fail
      refine (l6In_f _ _ _ _ hb0).mono ?_
      rintro e w1 ⟨rfl, rfl⟩
      go_wp2_with fail
      go_ret2
      exact ⟨_, 0, 0, ret_pair HK.out.symm, by rw [HT.out]; exact HE.out, (Below.refl _ _).alloc (Nat.le_refl _) _⟩
  · have hok : Bal.lotsOk a b = false := by unfold Bal.lotsOk; simp; omega
    have HK := Lib.hid hok
    have HT := Lib.hid (Bal.lots_f hok)
    clear hok
    go_enter Try.func20, Try.ntmps20
    go_wp2_with fail
    refine (l6In_f _ _ _ _ ha).mono ?_
    rintro e w1 ⟨rfl, rfl⟩
    go_wp2_with fail
    go_ret2
    exact ⟨_, 0, 0, ret_pair HK.out.symm, by rw [HT.out]; exact HE.out, (Below.refl _ _).alloc (Nat.le_refl _) _⟩
end Go.Proofs.Ytpiajeibfggpiaa
