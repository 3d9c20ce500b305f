/- BallotParse, the program's and the reference's. -/
import Derived.Test.YtlfgmljgoolbeaaOwn
import Derived.Test.YtlfgmljgoolbeaaBaWalk
import Derived.Test.YtlfgmljgoolbeaaBaPlain2
namespace Go.Proofs.Ytlfgmljgoolbeaa
open Go.RowKit

theorem nums_snoc (s : ByteArray) (k : Nat) (h : k < s.size) : Bal.nums (s.data.toList.take (k + 1)) = Bal.nums (s.data.toList.take k) ++ [(s[k].toNat : Int) - 97] := by
  rw [List.take_succ_eq_append_getElem (by simpa using h)]
  unfold Bal.nums
  rw [List.map_append]
  rfl
theorem nums_all (s : ByteArray) (k : Nat) (h : k = s.size) : Bal.nums (s.data.toList.take k) = Bal.nums s.data.toList := by
  rw [List.take_of_length_le (by subst h; simp)]

set_option maxHeartbeats 1600000 in
theorem iBallotParse_any (s : ByteArray) (W : World) (hs : s.size ≤ 4194304) :
    Calls Try.prog 59 #[.string s] W (ResI W (Bal.parse s.data.toList) (Bal.okT s.data.toList)) := by
  have HF := Lib.hid (fun h => Bal.not_ok_long (t := s.data.toList) h)
  have HZ := Lib.hid (show s.data.toList.length = s.size by simp)
  go_enter Try.func59, Try.ntmps59
  go_wp2_with fail
  go_loopw [4, 8] (fun v i wr => ∃ (k : Nat) (A : Option Addr) (c : Nat), k ≤ s.size ∧ k ≤ 5 ∧ i = .int .i64 k ∧ v = .slice A k c ∧ OwA wr W.heap.size A k c (Bal.nums (s.data.toList.take k)) ∧ Below W.heap.size W wr) (fun _ i _ => s.size - (intOf i).toNat)
  case atStart => exact ⟨0, none, 0, Nat.zero_le _, Nat.zero_le _, rfl, rfl, OwA.nil _ _, Below.refl _ _⟩
  case round =>
    obtain ⟨k, A, c, hk, hk5, rfl, rfl, ho, hb⟩ := hrel
    have HO := Lib.hid ho
    clear ho
    have hBs := hb.size
    by_cases hlt : k < s.size
    · have hlt' : (k : Int) < (s.size : Int) := by omega
      have HS := Lib.hid (nums_snoc s k hlt)
      have hb0 : (s[k].toNat : Int) ≤ 255 := by have := s[k].toNat_lt; omega
      have hb1 : (0 : Int) ≤ (s[k].toNat : Int) := by omega
      go_wp2_with (at_builtin; refine wpList_app1 (by rfl) _ _ (by rfl) _ W.heap.size A k c _ _ (by rfl) HO.out (by rfl) (by omega) hBs ?_)
      intro g cap w1 ho1 hb1 _ _
      have hb2 := hb.trans hb1
      rw [← HS.out] at ho1
      have HO1 := Lib.hid ho1
      clear ho1 hb1 hb
      by_cases h5 : 5 ≤ k
      · have hT := Lib.hid (HF.out (by rw [HZ.out]; omega))
        have h5' : (5 : Int) ≤ (k : Int) := by omega
        go_wp2_with fail
        go_ret2
        refine ⟨none, 0, 0, ret_pair hT.out.symm, by rw [Bal.parse_f hT.out]; exact OwA.nil _ _, hb2⟩
      · have h5' : ¬ (5 : Int) ≤ (k : Int) := by omega
        go_wp2_with fail
        go_roundw
        case rel => exact ⟨k + 1, _, _, by omega, by omega, by go_num, rfl, HO1.out, hb2⟩
        case measure => simp [intOf]; omega
    · have hlt' : ¬ (k : Int) < (s.size : Int) := by omega
      have hn := nums_all s k (by omega)
      have h1 := HO.out
      rw [hn] at h1
      have HR := Lib.hid h1
      have hcap := h1.cap
      clear hn h1
      cases hok : Bal.okT s.data.toList with
      | true =>
        have HK := Lib.hid hok
        have hv : Bal.bv (Bal.nums s.data.toList) 5 = true := hok
        clear hok
        have hc := fun W' (hr : RdI W' W'.heap.size A k (Bal.nums s.data.toList)) => iBallotValid_any A k c (Bal.nums s.data.toList) 5 W' _ hr hcap.1 (by omega) hcap.2
        rw [hv] at hc
        have HC := Lib.hid hc
        clear hc hv
        go_wp2_with fail
        refine (HC.out _ HR.out.rd).mono ?_
        rintro e w1 ⟨rfl, rfl⟩
        go_wp2_with fail
        go_ret2
        exact ⟨A, k, c, ret_pair HK.out.symm, by rw [Bal.parse_t HK.out]; exact HR.out, hb⟩
      | false =>
        have HK := Lib.hid hok
        have hv : Bal.bv (Bal.nums s.data.toList) 5 = false := hok
        clear hok
        have hc := fun W' (hr : RdI W' W'.heap.size A k (Bal.nums s.data.toList)) => iBallotValid_any A k c (Bal.nums s.data.toList) 5 W' _ hr hcap.1 (by omega) hcap.2
        rw [hv] at hc
        have HC := Lib.hid hc
        clear hc hv
        go_wp2_with fail
        refine (HC.out _ HR.out.rd).mono ?_
        rintro e w1 ⟨rfl, rfl⟩
        go_wp2_with fail
        go_ret2
        exact ⟨none, 0, 0, ret_pair HK.out.symm, by rw [Bal.parse_f HK.out]; exact OwA.nil _ _, hb⟩

set_option maxHeartbeats 1600000 in
theorem sBallotParse_any (s : ByteArray) (W : World) (hs : s.size ≤ 4194304) :
    Calls Try.prog 44 #[.string s] W (ResI W (Bal.parse s.data.toList) (Bal.okT s.data.toList)) := by
  have HE := Lib.hid (OwA.empty W W.heap.size (Nat.le_refl _))
  go_enter Try.func44, Try.ntmps44
  go_wp2_with fail
  go_loopw [4, 5] (fun v i wr => ∃ (k : Nat) (A : Option Addr) (c : Nat), k ≤ s.size ∧ i = .int .i64 k ∧ v = .slice A k c ∧ OwA wr W.heap.size A k c (Bal.nums (s.data.toList.take k)) ∧ Below W.heap.size W wr) (fun _ i _ => s.size - (intOf i).toNat)
  case atStart => exact ⟨0, _, _, Nat.zero_le _, rfl, rfl, HE.out, (Below.refl _ _).alloc (Nat.le_refl _) _⟩
  case round =>
    obtain ⟨k, A, c, hk, rfl, rfl, ho, hb⟩ := hrel
    have HO := Lib.hid ho
    clear ho
    have hBs := hb.size
    by_cases hlt : k < s.size
    · have hlt' : (k : Int) < (s.size : Int) := by omega
      have HS := Lib.hid (nums_snoc s k hlt)
      have hb0 : (s[k].toNat : Int) ≤ 255 := by have := s[k].toNat_lt; omega
      have hb1 : (0 : Int) ≤ (s[k].toNat : Int) := by omega
      go_wp2_with (at_builtin; refine wpList_app1 (by rfl) _ _ (by rfl) _ W.heap.size A k c _ _ (by rfl) HO.out (by rfl) (by omega) hBs ?_)
      intro g cap w1 ho1 hb1 _ _
      have hb2 := hb.trans hb1
      rw [← HS.out] at ho1
      have HO1 := Lib.hid ho1
      clear ho1 hb1 hb
      go_wp2_with fail
      go_roundw
      case rel => exact ⟨k + 1, _, _, by omega, by go_num, rfl, HO1.out, hb2⟩
      case measure => simp [intOf]; omega
    · have hlt' : ¬ (k : Int) < (s.size : Int) := by omega
      have hn := nums_all s k (by omega)
      have h1 := HO.out
      rw [hn] at h1
      have HR := Lib.hid h1
      have hcap := h1.cap
      clear hn h1
      have HE2 := Lib.hid (fun (wx : World) (hx : W.heap.size ≤ wx.heap.size) => OwA.empty wx W.heap.size hx)
      cases hok : Bal.okT s.data.toList with
      | true =>
        have HK := Lib.hid hok
        have hv : Bal.bv (Bal.nums s.data.toList) 5 = true := hok
        clear hok
        have hc := fun W' (hr : RdI W' W'.heap.size A k (Bal.nums s.data.toList)) => sBallotValid_any A k c (Bal.nums s.data.toList) 5 W' _ hr hcap.1 (by omega) hcap.2
        rw [hv] at hc
        have HC := Lib.hid hc
        clear hc hv
        go_wp2_with fail
        refine (HC.out _ HR.out.rd).mono ?_
        rintro e w1 ⟨rfl, q, rfl⟩
        go_wp2_with fail
        go_ret2
        exact ⟨A, k, c, ret_pair HK.out.symm, by rw [Bal.parse_t HK.out]; exact HR.out.drewN q, Reg.drewN hb q⟩
      | false =>
        have HK := Lib.hid hok
        have hv : Bal.bv (Bal.nums s.data.toList) 5 = false := hok
        clear hok
        have hc := fun W' (hr : RdI W' W'.heap.size A k (Bal.nums s.data.toList)) => sBallotValid_any A k c (Bal.nums s.data.toList) 5 W' _ hr hcap.1 (by omega) hcap.2
        rw [hv] at hc
        have HC := Lib.hid hc
        clear hc hv
        go_wp2_with fail
        refine (HC.out _ HR.out.rd).mono ?_
        rintro e w1 ⟨rfl, q, rfl⟩
        go_wp2_with fail
        go_ret2
        exact ⟨_, 0, 0, ret_pair HK.out.symm, by rw [Bal.parse_f HK.out]; exact HE2.out _ (Reg.drewN hb q).size, (Reg.drewN hb q).alloc (Reg.drewN hb q).size _⟩
end Go.Proofs.Ytlfgmljgoolbeaa
