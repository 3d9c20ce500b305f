/- l91Lots draws lots. -/
import Derived.Test.YtpiajeibfggpiaaDrawKit
import Derived.Test.YtpiajeibfggpiaaLotsS
namespace Go.Proofs.Ytpiajeibfggpiaa
open Go.RowKit

theorem OwA.take_ {W : World} {B n c : Nat} {A : Option Addr} {xs : List Int} (h : OwA W B A n c xs) (k : Nat) (hk : k ≤ n) : OwA W B A k c (xs.take k) := by
  have hl := h.len
  refine ⟨by simp; omega, ?_⟩
  rcases h.parts with ⟨rfl, rfl, rfl⟩ | ⟨g, cur, rfl, h2, h3, h4, h5, h6, h7⟩
  · obtain rfl : k = 0 := by omega
    exact .inl ⟨rfl, rfl⟩
  · refine .inr ⟨g, c, cur, rfl, h2, h3, by omega, h5, by simpa using h6, ?_⟩
    simp only [Nat.mul_one]
    have e : (cur.toList.take n).take k = cur.toList.take k := by rw [List.take_take]; congr 1; omega
    rw [← e, h7, List.map_take]

set_option maxHeartbeats 3200000 in
theorem l91Lots_any (g P : Nat) (m : Int) (W : World) (hP : P ≤ 900000) (hr : Rdr W g P) (h0 : 0 ≤ m) (h1 : m ≤ 1000) :
    Calls Try.prog 50 #[.pointer (some ⟨g, 0, none⟩), .int .i64 m] W (DrawI W g (P + 5) 5) := by
  have hd := Dr.start hr
  have hgl := hr.lt
  clear hr
  go_enter Try.func50, Try.ntmps50
  go_wp2_with fail
  refine (pickD_any _ hd (by omega)).mono ?_
  rintro e w1 ⟨v1, rfl, hv10, hv11', hd1, -, -⟩
  have hv11 := hv11' (by omega)
  clear hv11' hd
  go_wp2_with fail
  refine (sLotsOf_any m (v1 * 3) w1).mono ?_
  rintro e w2 ⟨A, n, c, rfl, ho2, hb2⟩
  have hs2 := hb2.size
  have hd2 := hd1.below hb2
  have HL := Lib.hid ho2.len
  have hn5 : n ≤ 5 := by have := HL.out; have := Bal.lots_len m (v1 * 3); omega
  have hBs1 := hd1.size
  have HO2 := Lib.hid (ho2.base hBs1)
  clear hb2 hd1 ho2
  have HP : Hid (Bal.lotsOk m (v1 * 3) = true → 0 < n) := by
    intro h
    have h2 := HL.out
    rw [Bal.lots_t h, Bal.lotsOf_len] at h2
    unfold Bal.lotsOk at h
    simp only [decide_eq_true_eq] at h
    omega
  generalize Bal.lots m (v1 * 3) = xs at HO2 HL
  cases hok : Bal.lotsOk m (v1 * 3) with
  | false =>
    clear HP hok
    go_wp2_with fail
    go_ret
    exact ⟨A, n, c, xs, rfl, HO2.out, hn5, hd2.mono (by omega)⟩
  | true =>
    have hn0 := HP.out hok
    clear HP hok
    go_wp2_with fail
    refine (pickD_any _ hd2 (by omega)).mono ?_
    rintro e w3 ⟨v3, rfl, hv30, -, hd3, hg3, -⟩
    have HO3 := Lib.hid (HO2.out.pick hg3 hgl)
    clear hg3 hd2
    by_cases hv3 : 0 < v3
    · go_wp2_with fail
      go_ret
      exact ⟨A, n, c, xs, rfl, HO3.out, hn5, hd3.mono (by omega)⟩
    · go_wp2_with fail
      refine (pickD_any _ hd3 (by omega)).mono ?_
      rintro e w4 ⟨v4, rfl, hv40, hv41', hd4, hg4, -⟩
      have hv41 := hv41' (by omega)
      have HO4 := Lib.hid (HO3.out.pick hg4 hgl)
      clear hg4 hd3 hv41'
      go_wp2_with fail
      refine (pickD_any _ hd4 (by omega)).mono ?_
      rintro e w5 ⟨v5, rfl, hv50, -, hd5, hg5, -⟩
      have HO5 := Lib.hid (HO4.out.pick hg5 hgl)
      clear hg5 hd4
      obtain ⟨k, rfl⟩ : ∃ k : Nat, v4 = k := ⟨v4.toNat, by omega⟩
      have hcap := HO5.out.cap
      have hkc : (k : Int) ≤ (c : Int) := by omega
      by_cases hv5 : v5 = 0
      · subst hv5
        have HT := Lib.hid (HO5.out.take_ k (by omega))
        go_wp2_with fail
        go_ret
        exact ⟨A, k, c, _, rfl, HT.out, by omega, hd5.mono (by omega)⟩
      · have hv5' : (v5 == 0) = false := by simpa using hv5
        clear hv5
        go_wp2_with fail
        refine (pickD_any _ hd5 (by omega)).mono ?_
        rintro e w6 ⟨v6, rfl, hv60, hv61', hd6, hg6, -⟩
        have hv61 := hv61' (by omega)
        have HO6 := Lib.hid (HO5.out.pick hg6 hgl)
        clear hg6 hd5 hv61'
        obtain ⟨ga, rfl, hBg, hgl2, hcell⟩ := HO6.out.at_ hn0
        obtain ⟨hc, hf⟩ := hcell k (by omega)
        have HS := Lib.hid (HO6.out.set_ k (v6 - 1))
        clear hcell
        generalize xs.getD k 0 = y at hc
        have hd7 := hd6.belowB (w2 := w6.setCell ⟨ga, k, none⟩ (.int .i64 (v6 - 1))) ((Below.refl _ _).setCell hBg _)
        go_wp2_with fail
        go_ret
        exact ⟨_, n, c, _, rfl, HS.out, hn5, hd7.mono (by omega)⟩
end Go.Proofs.Ytpiajeibfggpiaa
