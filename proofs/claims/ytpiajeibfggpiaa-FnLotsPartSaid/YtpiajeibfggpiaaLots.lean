/- LotsOf, the program's and the reference's. -/
import Derived.Test.YtpiajeibfggpiaaBaParse
import Derived.Test.YtpiajeibfggpiaaLoWalk
import Derived.Test.YtpiajeibfggpiaaDelete
import Derived.Deep.RegionLaw
namespace Go.Proofs.Ytpiajeibfggpiaa
open Go.RowKit

theorem addr_inj {a b : Nat} (h : some (⟨a, 0, none⟩ : Addr) = some ⟨b, 0, none⟩) : a = b := by injection h with h; injection h
def lenV : Value → Nat | .slice _ n _ => n | _ => 0

/-- what the second loop holds: left l of n numbers, out o, the seed s -/
def LotRel (W : World) (R : List Int) (wr : World) (sv lv ov : Value) : Prop :=
  ∃ (n : Nat) (s : Nat) (A1 : Option Addr) (c1 : Nat) (l : List Int) (A2 : Option Addr) (n2 c2 : Nat) (o : List Int), sv = .int .i64 (s : Int) ∧ lv = .slice A1 n c1 ∧ ov = .slice A2 n2 c2 ∧ OwA wr W.heap.size A1 n c1 l ∧ OwA wr W.heap.size A2 n2 c2 o ∧
    o ++ Bal.lotsGo n l s = R ∧ n ≤ 5 ∧ n + n2 ≤ 5 ∧ s ≤ 999 ∧ Below W.heap.size W wr ∧ (∀ g, A1 = some ⟨g, 0, none⟩ → Value.ownBlock (.slice A2 n2 c2) ≠ some g)

def UpRel (W : World) (m : Nat) (wr : World) (lv iv : Value) : Prop :=
  ∃ (k : Nat) (A1 : Option Addr) (c1 : Nat), k ≤ m ∧ iv = .int .i64 (k : Int) ∧ lv = .slice A1 k c1 ∧ OwA wr W.heap.size A1 k c1 (Bal.upTo k) ∧ Below W.heap.size W wr

set_option maxHeartbeats 3200000 in
theorem iLotsOf_any (a b : Int) (W : World) :
    Calls Try.prog 19 #[.int .i64 a, .int .i64 b] W (ResI W (Bal.lots a b) (Bal.lotsOk a b)) := by
  by_cases ha : 1 ≤ a ∧ a ≤ 5
  · by_cases hb0 : b < 0
    · have hok : Bal.lotsOk a b = false := by unfold Bal.lotsOk; simp; omega
      have HK := Lib.hid hok
      have HT := Lib.hid (Bal.lots_f hok)
      clear hok
      go_enter Try.func19, Try.ntmps19
      go_wp2_with (first | (go_at_call 45; refine (isMany_t _ _ ha).mono ?_; rintro e w1 ⟨rfl, rfl⟩))
      go_ret2
      exact ⟨none, 0, 0, ret_pair HK.out.symm, by rw [HT.out]; exact OwA.nil _ _, Below.refl _ _⟩
    · by_cases hb1 : 999 < b
      · have hok : Bal.lotsOk a b = false := by unfold Bal.lotsOk; simp; omega
        have HK := Lib.hid hok
        have HT := Lib.hid (Bal.lots_f hok)
        clear hok
        go_enter Try.func19, Try.ntmps19
        go_wp2_with (first | (go_at_call 45; refine (isMany_t _ _ ha).mono ?_; rintro e w1 ⟨rfl, rfl⟩))
        go_ret2
        exact ⟨none, 0, 0, ret_pair HK.out.symm, by rw [HT.out]; exact OwA.nil _ _, Below.refl _ _⟩
      · have hok : Bal.lotsOk a b = true := by unfold Bal.lotsOk; simp; omega
        have HK := Lib.hid hok
        obtain ⟨m, rfl⟩ : ∃ m : Nat, a = m := ⟨a.toNat, by omega⟩
        obtain ⟨s, rfl⟩ : ∃ s : Nat, b = s := ⟨b.toNat, by omega⟩
        have HT := Lib.hid (Bal.lots_t hok)
        have hm5 : m ≤ 5 := by omega
        have hs9 : s ≤ 999 := by omega
        have hm1 : 1 ≤ m := by omega
        clear hok
        go_enter Try.func19, Try.ntmps19
        go_wp2_with (first | (go_at_call 45; refine (isMany_t _ _ ha).mono ?_; rintro e w1 ⟨rfl, rfl⟩))
        go_loopw [6, 22] (fun l i wr => UpRel W m wr l i) (fun _ i _ => m - (intOf i).toNat)
        case atStart => exact ⟨0, none, 0, Nat.zero_le _, rfl, rfl, OwA.nil _ _, Below.refl _ _⟩
        case round =>
          obtain ⟨k, A, c, hk, rfl, rfl, ho, hb⟩ := hrel
          have HO := Lib.hid ho
          clear ho
          have hBs := hb.size
          by_cases hlt : k < m
          · have hlt' : (k : Int) < (m : Int) := by omega
            have HS := Lib.hid (Bal.upTo_succ k)
            go_wp2_with (at_builtin; refine wpList_app1 (by rfl) _ _ (by rfl) _ W.heap.size A k c _ _ (by rfl) HO.out (by rfl) (by omega) hBs ?_)
            intro g cap w1 ho1 hb1 _ _
            have hb2 := hb.trans hb1
            rw [← HS.out] at ho1
            have HO1 := Lib.hid ho1
            clear ho1 hb1 hb
            go_wp2_with fail
            go_roundw
            case rel => exact ⟨k + 1, _, _, by omega, by go_num, rfl, HO1.out, hb2⟩
            case measure => simp [intOf]; omega
          · have hlt' : ¬ (k : Int) < (m : Int) := by omega
            obtain rfl : k = m := by omega
            go_wp2_with fail
            go_loopw [1, 6, 7] (fun sv l o wr2 => LotRel W (Bal.lotsOf k s) wr2 sv l o) (fun _ l _ _ => lenV l)
            case atStart => exact ⟨k, s, A, c, _, none, 0, 0, [], rfl, rfl, rfl, HO.out, OwA.nil _ _, rfl, hm5, by omega, hs9, hb, by simp [Value.ownBlock]⟩
            case round =>
              obtain ⟨n, t, A1, c1, l, A2, n2, c2, o, rfl, rfl, rfl, ho1, ho2, hR, hn5, hnn, ht9, hbr, hne⟩ := hrel
              clear HO hb hBs
              have HR := Lib.hid hR
              have HO1 := Lib.hid ho1
              have HO2 := Lib.hid ho2
              have HNE := Lib.hid hne
              clear hR ho1 ho2 hne
              have hBs := hbr.size
              by_cases hn0 : 0 < n
              · have hn0' : (0 : Int) < (n : Int) := by omega
                have hat : t % n < n := Nat.mod_lt _ hn0
                have hdiv : t / n ≤ t := Nat.div_le_self _ _
                obtain ⟨g, rfl, _, hgl, hcell⟩ := HO1.out.at_ hn0
                obtain ⟨hc, _⟩ := hcell (t % n) hat
                have HST := Lib.hid (Bal.lotsGo_step hn0 HO1.out.len HR.out)
                have e1 : (t : Int) % (n : Int) = ((t % n : Nat) : Int) := (Int.natCast_emod _ _).symm
                have e2 : (t : Int) / (n : Int) = ((t / n : Nat) : Int) := (Int.natCast_ediv _ _).symm
                clear hcell
                generalize t % n = i at hat hc HST e1
                generalize t / n = t2 at hdiv HST e2
                generalize l.getD i 0 = y at hc HST
                have hi0 : (0 : Int) ≤ (i : Int) := by omega
                have hi1 : (i : Int) < (n : Int) := by omega
                go_wp2_with (at_builtin; refine wpList_app1 (by rfl) _ _ (by rfl) _ W.heap.size A2 n2 c2 _ _ (by rfl) HO2.out (by rfl) (by omega) hBs ?_)
                intro g2 cap w1 ho2' hb1 hgr hat2
                have HO2' := Lib.hid ho2'
                have HO1' := Lib.hid (HO1.out.other hgr (fun g' hg' e => HNE.out g' hg' e))
                have hg2 : ¬ g2 = g := by
                  rcases hat2 with h | h
                  · intro e; subst e; exact HNE.out _ rfl h
                  · omega
                have hb2 := hbr.trans hb1
                clear ho2' hgr hat2 hb1 hbr e1 e2
                go_wp2_with fail
                refine (delete_any g n c1 l w1 W.heap.size HO1'.out i hat).mono ?_
                rintro e w2 ⟨rfl, ho3, hgr3⟩
                have HO3 := Lib.hid ho3
                have HO4 := Lib.hid (HO2'.out.other hgr3 (fun g' hg' e => by have e1 := addr_inj hg'; have e2 : g = g' := Option.some.inj e; omega))
                have hb3 := hb2.grown hgr3 hb2.size (by intro k' hk'; injection hk' with hk'; subst hk'; exact ((HO1'.out.parts).elim (fun h => by cases h.1) (fun ⟨g', cur, h1, h2, _⟩ => by have e1 := addr_inj h1; omega)))
                clear ho3 hgr3 hb2
                go_wp2_with fail
                go_roundw
                case rel => exact ⟨n - 1, t2, _, _, _, _, n2 + 1, _, _, rfl, rfl, rfl, HO3.out, HO4.out, HST.out, by omega, by omega, by omega, hb3, fun g' hg' e => by have e1 := addr_inj hg'; have e2 : g2 = g' := Option.some.inj e; omega⟩
                case measure => simp [lenV]; omega
              · obtain rfl : n = 0 := by omega
                have HE := Lib.hid (Bal.lotsGo_end HR.out)
                go_wp2_with fail
                go_ret2
                exact ⟨A2, n2, c2, ret_pair HK.out.symm, by have h1 := HO2.out; rw [HE.out] at h1; rw [HT.out]; exact h1, hbr⟩
  · have hok : Bal.lotsOk a b = false := by unfold Bal.lotsOk; simp; omega
    have HK := Lib.hid hok
    have HT := Lib.hid (Bal.lots_f hok)
    clear hok
    go_enter Try.func19, Try.ntmps19
    go_wp2_with (first | (go_at_call 45; refine (isMany_f _ _ ha).mono ?_; rintro e w1 ⟨rfl, rfl⟩))
    go_ret2
    exact ⟨none, 0, 0, ret_pair HK.out.symm, by rw [HT.out]; exact OwA.nil _ _, Below.refl _ _⟩
end Go.Proofs.Ytpiajeibfggpiaa
