/- The functions that draw ballots, lots and who has left. -/
import Derived.Test.YtpiajeibfggpiaaDrawBa
import Derived.Test.YtpiajeibfggpiaaDrawLeft
import Derived.Test.YtpiajeibfggpiaaDrawLots
import Derived.Test.YtpiajeibfggpiaaBaText
namespace Go.Proofs.Ytpiajeibfggpiaa
open Go.RowKit
set_option linter.unusedSimpArgs false

def PostI (w : World) (k : Nat) (e : Ending) (w' : World) : Prop := ∃ A n c xs, e = .returned (.slice A n c) ∧ OwA w' w.heap.size A n c xs ∧ n ≤ k ∧ Below w.heap.size w w'
def PostII (w : World) (e : Ending) (w' : World) : Prop := ∃ A n c xs m, e = .returned (.tuple #[.slice A n c, .int .i64 m]) ∧ OwA w' w.heap.size A n c xs ∧ n ≤ 10 ∧ -1 ≤ m ∧ m ≤ 7 ∧ Below w.heap.size w w'
def PostIII (w : World) (e : Ending) (w' : World) : Prop := ∃ A n c xs x y, e = .returned (.tuple #[.slice A n c, .int .i64 x, .int .i64 y]) ∧ OwA w' w.heap.size A n c xs ∧ n ≤ 10 ∧ Below w.heap.size w w'
def PostIB (w : World) (e : Ending) (w' : World) : Prop := ∃ A n c xs A' n' c' ls, e = .returned (.tuple #[.slice A n c, .slice A' n' c']) ∧ OwA w' w.heap.size A n c xs ∧ OwB w' w.heap.size A' n' c' ls ∧ n ≤ 10 ∧ n' ≤ 10 ∧ Below w.heap.size w w'
def PostN (w : World) (e : Ending) (w' : World) : Prop := ∃ m s : Int, e = .returned (.tuple #[.int .i64 m, .int .i64 s]) ∧ Below w.heap.size w w'
def PostS (w : World) (e : Ending) (w' : World) : Prop := ∃ s : ByteArray, e = .returned (.string s) ∧ s.size ≤ 20 ∧ Below w.heap.size w w'

set_option maxHeartbeats 1600000 in
theorem drawBallotText_any (a : Option Addr) (n c : Nat) (z : List Int) (w : World) (h : IsRow .u8 w a n c z) :
    Calls Try.prog 31 #[.slice a n c] w (PostI w 10) := by
  go_enter Try.func31, Try.ntmps31
  go_wp2_with fail
  refine (l6Open_any a n c z _ h).mono ?_
  rintro e w1 ⟨rfl, hr1, hb1⟩
  clear h
  have hd1 := Dr.start hr1
  have hs1 := hb1.size
  have hgl := hr1.lt
  clear hr1
  go_wp2_with fail
  refine (l91Ballot_any _ 0 5 w1 (by omega) hd1.rdr (by omega) (by omega)).mono ?_
  rintro e w2 ⟨A, n2, c2, xs, rfl, ho2, hn2, hd2⟩
  have HO := Lib.hid (ho2.base hs1)
  clear ho2
  go_wp2_with fail
  go_ret
  exact ⟨A, n2, c2, xs, rfl, HO.out, hn2, hd2.belowW hb1 (Nat.le_refl _)⟩

set_option maxHeartbeats 1600000 in
theorem drawLotsValid_any (a : Option Addr) (n c : Nat) (z : List Int) (w : World) (h : IsRow .u8 w a n c z) :
    Calls Try.prog 22 #[.slice a n c] w (PostI w 5) := by
  go_enter Try.func22, Try.ntmps22
  go_wp2_with fail
  refine (l6Open_any a n c z _ h).mono ?_
  rintro e w1 ⟨rfl, hr1, hb1⟩
  clear h
  have hd1 := Dr.start hr1
  have hs1 := hb1.size
  have hgl := hr1.lt
  clear hr1
  go_wp2_with fail
  refine (pickD_any _ hd1 (by omega)).mono ?_
  rintro e w2 ⟨v, rfl, v0, v1', hd2, hg2, hz2⟩
  have v1 := v1' (by omega)
  clear v1' hz2
  go_wp2_with fail
  refine (l91Lots_any _ 1 (1 + v) w2 (by omega) hd2.rdr (by omega) (by omega)).mono ?_
  rintro e w3 ⟨A, n2, c2, xs, rfl, ho3, hn3, hd3⟩
  have hs2 := hd2.size
  have HO := Lib.hid (ho3.base (Nat.le_trans hs1 hs2))
  clear ho3
  go_wp2_with fail
  go_ret
  exact ⟨A, n2, c2, xs, rfl, HO.out, hn3, (hd2.trans hd3).belowW hb1 (Nat.le_refl _)⟩

set_option maxHeartbeats 1600000 in
theorem drawBallotValid_any (a : Option Addr) (n c : Nat) (z : List Int) (w : World) (h : IsRow .u8 w a n c z) :
    Calls Try.prog 15 #[.slice a n c] w (PostII w) := by
  go_enter Try.func15, Try.ntmps15
  go_wp2_with fail
  refine (l6Open_any a n c z _ h).mono ?_
  rintro e w1 ⟨rfl, hr1, hb1⟩
  clear h
  have hd1 := Dr.start hr1
  have hs1 := hb1.size
  have hgl := hr1.lt
  clear hr1
  go_wp2_with fail
  refine (pickD_any _ hd1 (by omega)).mono ?_
  rintro e w2 ⟨v, rfl, v0, v1', hd2, hg2, hz2⟩
  have v1 := v1' (by omega)
  clear v1' hz2
  go_wp2_with fail
  refine (l91Ballot_any _ 1 (1 + v) w2 (by omega) hd2.rdr (by omega) (by omega)).mono ?_
  rintro e w3 ⟨A, n2, c2, xs, rfl, ho3, hn3, hd3'⟩
  have hs2 := hd2.size
  have HO := Lib.hid (ho3.base (Nat.le_trans hs1 hs2))
  have hd3 := hd2.trans hd3'
  have hgb : w.heap.size < w2.heap.size := by omega
  have HOp := Lib.hid ho3
  clear ho3 hd2 hd1 hg2 hd3'
  go_wp2_with fail
  refine (pickD_any _ hd3 (by omega)).mono ?_
  rintro e w4 ⟨u, rfl, u0, u1', hd4, hg4, hz4⟩
  have u1 := u1' (by omega)
  clear u1' hz4
  have HO4 := Lib.hid ((HOp.out.pick hg4 hgb).base (Nat.le_trans hs1 hs2))
  have HOp4 := Lib.hid (HOp.out.pick hg4 hgb)
  clear hg4 hd3 HO
  by_cases hu : u = 0
  · subst hu
    clear u0 u1
    go_wp2_with fail
    refine (pickD_any _ hd4 (by omega)).mono ?_
    rintro e w5 ⟨x, rfl, x0, x1', hd5, hg5, hz5⟩
    have x1 := x1' (by omega)
    clear x1' hz5
    have HO5 := Lib.hid ((HOp4.out.pick hg5 hgb).base (Nat.le_trans hs1 hs2))
    clear hg5
    go_wp2_with fail
    go_ret2
    exact ⟨A, n2, c2, xs, _, rfl, HO5.out, hn3, by omega, by omega, hd5.belowW hb1 (Nat.le_refl _)⟩
  · have hu' : (u == 0) = false := by simpa using hu
    clear hu
    go_wp2_with fail
    go_ret2
    exact ⟨A, n2, c2, xs, _, rfl, HO4.out, hn3, by omega, by omega, hd4.belowW hb1 (Nat.le_refl _)⟩

set_option maxHeartbeats 1600000 in
theorem drawBallotFirst_any (a : Option Addr) (n c : Nat) (z : List Int) (w : World) (h : IsRow .u8 w a n c z) :
    Calls Try.prog 28 #[.slice a n c] w (PostIB w) := by
  go_enter Try.func28, Try.ntmps28
  go_wp2_with fail
  refine (l6Open_any a n c z _ h).mono ?_
  rintro e w1 ⟨rfl, hr1, hb1⟩
  clear h
  have hd1 := Dr.start hr1
  have hs1 := hb1.size
  have hgl := hr1.lt
  clear hr1
  go_wp2_with fail
  refine (pickD_any _ hd1 (by omega)).mono ?_
  rintro e w2 ⟨v, rfl, v0, v1', hd2, hg2, hz2⟩
  have v1 := v1' (by omega)
  clear v1' hz2
  go_wp2_with fail
  refine (l91Ballot_any _ 1 (1 + v) w2 (by omega) hd2.rdr (by omega) (by omega)).mono ?_
  rintro e w3 ⟨A, n2, c2, xs, rfl, ho3, hn3, hd3'⟩
  have hs2 := hd2.size
  have hd3 := hd2.trans hd3'
  have hgb : w.heap.size < w2.heap.size := by omega
  have HOp := Lib.hid ho3
  clear ho3 hd2 hd1 hg2 hd3'
  go_wp2_with fail
  refine (pickD_any _ hd3 (by omega)).mono ?_
  rintro e w4 ⟨u, rfl, u0, u1', hd4, hg4, hz4⟩
  have u1 := u1' (by omega)
  clear u1' hz4
  have HOp4 := Lib.hid (HOp.out.pick hg4 hgb)
  clear hg4 hd3 HOp
  by_cases hu : u = 0
  · subst hu
    clear u0 u1
    go_wp2_with fail
    refine (pickD_any _ hd4 (by omega)).mono ?_
    rintro e w5 ⟨x, rfl, x0, x1', hd5, hg5, hz5⟩
    have x1 := x1' (by omega)
    clear x1' hz5
    have HOp5 := Lib.hid (HOp4.out.pick hg5 hgb)
    have hs5 := hd5.size
    have hgl5 := hd5.rdr.lt
    clear hg5 hd4
    go_wp2_with fail
    refine (l91Left_any _ _ _ w5 (by omega) hd5.rdr x0 (by omega)).mono ?_
    rintro e w6 ⟨A', n', c', ls, rfl, hoB, hnB, hd6⟩
    have HO6 := Lib.hid ((HOp5.out.pick hd6.2.1 hgb).base (Nat.le_trans hs1 hs2))
    have HB6 := Lib.hid (hoB.base (Nat.le_trans hs1 hs5))
    have hd7 := hd5.trans hd6
    have HN := Lib.hid hnB
    clear hoB hd6 hnB
    go_wp2_with fail
    go_ret2
    exact ⟨A, n2, c2, xs, A', n', c', ls, rfl, HO6.out, HB6.out, by omega, by have := HN.out; omega, hd7.belowW hb1 (Nat.le_refl _)⟩
  · have hu' : (u == 0) = false := by simpa using hu
    have hs4 := hd4.size
    clear hu
    go_wp2_with fail
    refine (l91Left_any _ _ _ w4 (by omega) hd4.rdr (by omega) (by omega)).mono ?_
    rintro e w6 ⟨A', n', c', ls, rfl, hoB, hnB, hd6⟩
    have HO6 := Lib.hid ((HOp4.out.pick hd6.2.1 hgb).base (Nat.le_trans hs1 hs2))
    have HB6 := Lib.hid (hoB.base (Nat.le_trans hs1 hs4))
    have hd7 := hd4.trans hd6
    have HN := Lib.hid hnB
    clear hoB hd6 hnB
    go_wp2_with fail
    go_ret2
    exact ⟨A, n2, c2, xs, A', n', c', ls, rfl, HO6.out, HB6.out, by omega, by have := HN.out; omega, hd7.belowW hb1 (Nat.le_refl _)⟩

set_option maxHeartbeats 1600000 in
theorem drawLotsFirst_any (a : Option Addr) (n c : Nat) (z : List Int) (w : World) (h : IsRow .u8 w a n c z) :
    Calls Try.prog 39 #[.slice a n c] w (PostIB w) := by
  go_enter Try.func39, Try.ntmps39
  go_wp2_with fail
  refine (l6Open_any a n c z _ h).mono ?_
  rintro e w1 ⟨rfl, hr1, hb1⟩
  clear h
  have hd1 := Dr.start hr1
  have hs1 := hb1.size
  have hgl := hr1.lt
  clear hr1
  go_wp2_with fail
  refine (pickD_any _ hd1 (by omega)).mono ?_
  rintro e w2 ⟨v, rfl, v0, v1', hd2, hg2, hz2⟩
  have v1 := v1' (by omega)
  clear v1' hz2
  go_wp2_with fail
  refine (l91Lots_any _ 1 (1 + v) w2 (by omega) hd2.rdr (by omega) (by omega)).mono ?_
  rintro e w3 ⟨A, n2, c2, xs, rfl, ho3, hn3, hd3'⟩
  have hs2 := hd2.size
  have hd3 := hd2.trans hd3'
  have hgb : w.heap.size < w2.heap.size := by omega
  have HOp := Lib.hid ho3
  clear ho3 hd2 hd1 hg2 hd3'
  go_wp2_with fail
  refine (pickD_any _ hd3 (by omega)).mono ?_
  rintro e w4 ⟨u, rfl, u0, u1', hd4, hg4, hz4⟩
  have u1 := u1' (by omega)
  clear u1' hz4
  have HOp4 := Lib.hid (HOp.out.pick hg4 hgb)
  clear hg4 hd3 HOp
  by_cases hu : u = 0
  · subst hu
    clear u0 u1
    go_wp2_with fail
    refine (pickD_any _ hd4 (by omega)).mono ?_
    rintro e w5 ⟨x, rfl, x0, x1', hd5, hg5, hz5⟩
    have x1 := x1' (by omega)
    clear x1' hz5
    have HOp5 := Lib.hid (HOp4.out.pick hg5 hgb)
    have hs5 := hd5.size
    have hgl5 := hd5.rdr.lt
    clear hg5 hd4
    go_wp2_with fail
    refine (l91Left_any _ _ _ w5 (by omega) hd5.rdr x0 (by omega)).mono ?_
    rintro e w6 ⟨A', n', c', ls, rfl, hoB, hnB, hd6⟩
    have HO6 := Lib.hid ((HOp5.out.pick hd6.2.1 hgb).base (Nat.le_trans hs1 hs2))
    have HB6 := Lib.hid (hoB.base (Nat.le_trans hs1 hs5))
    have hd7 := hd5.trans hd6
    have HN := Lib.hid hnB
    clear hoB hd6 hnB
    go_wp2_with fail
    go_ret2
    exact ⟨A, n2, c2, xs, A', n', c', ls, rfl, HO6.out, HB6.out, by omega, by have := HN.out; omega, hd7.belowW hb1 (Nat.le_refl _)⟩
  · have hu' : (u == 0) = false := by simpa using hu
    have hs4 := hd4.size
    clear hu
    go_wp2_with fail
    refine (l91Left_any _ _ _ w4 (by omega) hd4.rdr (by omega) (by omega)).mono ?_
    rintro e w6 ⟨A', n', c', ls, rfl, hoB, hnB, hd6⟩
    have HO6 := Lib.hid ((HOp4.out.pick hd6.2.1 hgb).base (Nat.le_trans hs1 hs2))
    have HB6 := Lib.hid (hoB.base (Nat.le_trans hs1 hs4))
    have hd7 := hd4.trans hd6
    have HN := Lib.hid hnB
    clear hoB hd6 hnB
    go_wp2_with fail
    go_ret2
    exact ⟨A, n2, c2, xs, A', n', c', ls, rfl, HO6.out, HB6.out, by omega, by have := HN.out; omega, hd7.belowW hb1 (Nat.le_refl _)⟩

set_option maxHeartbeats 1600000 in
theorem drawBallotPrefers_any (a : Option Addr) (n c : Nat) (z : List Int) (w : World) (h : IsRow .u8 w a n c z) :
    Calls Try.prog 25 #[.slice a n c] w (PostIII w) := by
  go_enter Try.func25, Try.ntmps25
  go_wp2_with fail
  refine (l6Open_any a n c z _ h).mono ?_
  rintro e w1 ⟨rfl, hr1, hb1⟩
  clear h
  have hd1 := Dr.start hr1
  have hs1 := hb1.size
  have hgl := hr1.lt
  clear hr1
  go_wp2_with fail
  refine (l91Ballot_any _ 0 5 w1 (by omega) hd1.rdr (by omega) (by omega)).mono ?_
  rintro e w3 ⟨A, n2, c2, xs, rfl, ho3, hn3, hd3⟩
  have HOp := Lib.hid ho3
  clear ho3 hd1
  go_wp2_with fail
  refine (pickD_any _ hd3 (by omega)).mono ?_
  rintro e w4 ⟨u, rfl, u0, u1', hd4, hg4, hz4⟩
  have u1 := u1' (by omega)
  clear u1' hz4
  have HOp4 := Lib.hid (HOp.out.pick hg4 hgl)
  clear hg4 hd3 HOp
  by_cases hn0 : 0 < n2
  · have hn0' : (0 : Int) < (n2 : Int) := by omega
    go_wp2_with fail
    refine (pickD_any _ hd4 (by omega)).mono ?_
    rintro e w5 ⟨x, rfl, x0, x1', hd5, hg5, hz5⟩
    have x1 := x1' (by omega)
    clear x1' hz5
    have HOp5 := Lib.hid (HOp4.out.pick hg5 hgl)
    clear hg5 hd4 HOp4
    by_cases hx : 0 < x
    · clear x1
      go_wp2_with fail
      refine (pickD_any _ hd5 (by omega)).mono ?_
      rintro e w6 ⟨y, rfl, y0, y1', hd6, hg6, hz6⟩
      have y1 := y1' (by omega)
      clear y1' hz6
      have HOp6 := Lib.hid (HOp5.out.pick hg6 hgl)
      clear hg6 hd5 HOp5
      go_wp2_with fail
      refine (pickD_any _ hd6 (by omega)).mono ?_
      rintro e w7 ⟨t, rfl, t0, t1', hd7, hg7, hz7⟩
      have t1 := t1' (by omega)
      clear t1' hz7
      have HOp7 := Lib.hid (HOp6.out.pick hg7 hgl)
      clear hg7 hd6 HOp6
      have hyt : 0 ≤ y * t ∧ y * t < n2 := by
        rcases (show t = 0 ∨ t = 1 by omega) with rfl | rfl
        · rw [Int.mul_zero]; omega
        · rw [Int.mul_one]; omega
      obtain ⟨p0, p1⟩ := hyt
      obtain ⟨ga, rfl, hBg, hgl2, hcell⟩ := HOp7.out.at_ hn0
      obtain ⟨hc, _⟩ := hcell (y * t).toNat (by omega)
      have hw : IntKind.i64.wrap (y * t) = y * t := IntWalk.i64_in _ (by omega)
      clear hcell t0 t1 y0 y1
      generalize xs.getD (y * t).toNat 0 = b at hc
      go_wp2_with fail
      clear hc
      refine (pickD_any _ hd7 (by omega)).mono ?_
      rintro e w8 ⟨q, rfl, -, -, hd8, hg8, -⟩
      have HO8 := Lib.hid ((HOp7.out.pick hg8 hgl).base hs1)
      clear hg8 hw
      go_wp2_with fail
      go_ret3
      exact ⟨_, n2, c2, xs, _, _, rfl, HO8.out, hn3, hd8.belowW hb1 (Nat.le_refl _)⟩
    · go_wp2_with fail
      refine (pickD_any _ hd5 (by omega)).mono ?_
      rintro e w8 ⟨q, rfl, -, -, hd8, hg8, -⟩
      have HO8 := Lib.hid ((HOp5.out.pick hg8 hgl).base hs1)
      clear hg8
      go_wp2_with fail
      go_ret3
      exact ⟨_, n2, c2, xs, _, _, rfl, HO8.out, hn3, hd8.belowW hb1 (Nat.le_refl _)⟩
  · have hn0' : ¬ (0 : Int) < (n2 : Int) := by omega
    go_wp2_with fail
    refine (pickD_any _ hd4 (by omega)).mono ?_
    rintro e w8 ⟨q, rfl, -, -, hd8, hg8, -⟩
    have HO8 := Lib.hid ((HOp4.out.pick hg8 hgl).base hs1)
    clear hg8
    go_wp2_with fail
    go_ret3
    exact ⟨_, n2, c2, xs, _, _, rfl, HO8.out, hn3, hd8.belowW hb1 (Nat.le_refl _)⟩

set_option maxHeartbeats 1600000 in
theorem drawLotsOf_any (a : Option Addr) (n c : Nat) (z : List Int) (w : World) (h : IsRow .u8 w a n c z) :
    Calls Try.prog 18 #[.slice a n c] w (PostN w) := by
  go_enter Try.func18, Try.ntmps18
  go_wp2_with fail
  refine (l6Open_any a n c z _ h).mono ?_
  rintro e w1 ⟨rfl, hr1, hb1⟩
  clear h
  have hd1 := Dr.start hr1
  have hs1 := hb1.size
  have hgl := hr1.lt
  clear hr1
  go_wp2_with fail
  refine (pickD_any _ hd1 (by omega)).mono ?_
  rintro e w2 ⟨v, rfl, v0, v1', hd2, hg2, hz2⟩
  have v1 := v1' (by omega)
  clear v1' hz2
  clear hg2
  by_cases hv : v = 0
  · subst hv
    clear v0 v1
    have hs2 := hd2.size
    have hne2 : ¬ w2.heap.size = w.heap.size := by omega
    have hgl2 : w.heap.size < w2.heap.size := by omega
    go_wp2_with fail
    have tokA : True := trivial
    have tokB : True := trivial
    go_region_law (first | (have _t := tokA; refine step_pick (by rfl) _ _ _ (by rfl) (W := w1) (P := 0 + 1) (by rfl) (by rfl) ?_ (by omega) ?_; (first | exact hd2.drew | exact (hd2.alloc _).drew); clear tokA; intro v3 w3 v30 v31 hd3 hg3 hz3; have v31' := v31 (by omega); obtain ⟨gc3, gf3⟩ := gcell hg3; have hs3 : w2.heap.size ≤ w3.heap.size := Nat.le_trans (by simp) hg3.size; (try simp only [World.size_alloc, World.size_drew] at hz3); (try have hq3 : w2.heap.size < w3.heap.size := (by omega)); have hne3 : ¬ w3.heap.size = w.heap.size := (by omega); have HZ3 := Lib.hid hz3; clear v31 hz3 hg3) | (have _t := tokB; refine step_pick (by rfl) _ _ _ (by rfl) (W := w1) (P := 0 + 1 + 1) (by rfl) (by rfl) ?_ (by omega) ?_; (first | exact hd3 | exact hd3.alloc _); clear tokB; intro v4 w4 v40 v41 hd4 hg4 hz4; have v41' := v41 (by omega); obtain ⟨x4, hx4⟩ := lit3 v4 v40 v41' (-1) 999 1000; obtain ⟨gc4, gf4⟩ := gcell hg4; have hs4 : w3.heap.size ≤ w4.heap.size := Nat.le_trans (by simp) hg4.size; (try simp only [World.size_alloc, World.size_drew] at hz4); (try have hq4 : w3.heap.size < w4.heap.size := (by omega)); have hne4 : ¬ w4.heap.size = w.heap.size := (by omega); (try have hq5 : w2.heap.size < w4.heap.size := (by omega)); have HZ4 := Lib.hid hz4; clear v41 hz4 hg4))
    all_goals
      go_wp2_with fail
      go_ret2
      exact ⟨_, _, rfl, by first | exact hd4.belowW hb1 (Nat.le_refl _) | exact (hd4.alloc _).belowW hb1 (Nat.le_refl _)⟩
  · have hv' : (v == 0) = false := by simpa using hv
    clear hv
    go_wp2_with fail
    refine (pickD_any _ hd2 (by omega)).mono ?_
    rintro e w5 ⟨x, rfl, x0, x1', hd5, hg5, hz5⟩
    have x1 := x1' (by omega)
    clear x1' hz5
    go_wp2_with fail
    refine (pickD_any _ hd5 (by omega)).mono ?_
    rintro e w6 ⟨y, rfl, y0, y1', hd6, hg6, hz6⟩
    have y1 := y1' (by omega)
    clear y1' hz6
    go_wp2_with fail
    go_ret2
    exact ⟨_, _, rfl, hd6.belowW hb1 (Nat.le_refl _)⟩

theorem lit6s (v : Int) (h0 : 0 ≤ v) (h3 : v < 6) (a b c d e f : ByteArray) (ha : a.size ≤ 4) (hb : b.size ≤ 4) (hc : c.size ≤ 4) (hd : d.size ≤ 4) (he : e.size ≤ 4) (hf : f.size ≤ 4) :
    ∃ u : ByteArray, u.size ≤ 4 ∧ ([Value.string a, Value.string b, Value.string c, Value.string d, Value.string e, Value.string f] : List Value)[v.toNat]? = some (.string u) := by
  rcases (show v = 0 ∨ v = 1 ∨ v = 2 ∨ v = 3 ∨ v = 4 ∨ v = 5 by omega) with rfl | rfl | rfl | rfl | rfl | rfl
  · exact ⟨a, ha, rfl⟩
  · exact ⟨b, hb, rfl⟩
  · exact ⟨c, hc, rfl⟩
  · exact ⟨d, hd, rfl⟩
  · exact ⟨e, he, rfl⟩
  · exact ⟨f, hf, rfl⟩

/-- of: one of six short texts -/
def PickS (W : World) (g P : Nat) (e : Ending) (w2 : World) : Prop := ∃ s : ByteArray, e = .returned (.string s) ∧ s.size ≤ 4 ∧ Dr W g (P + 1) w2
theorem of6_any {W w1 : World} {g P b : Nat} (vs : List Value) (hl : vs.length = 6) (hv : ∀ v : Int, 0 ≤ v → v < 6 → ∃ u : ByteArray, u.size ≤ 4 ∧ vs[v.toNat]? = some (.string u)) (h : Dr W g P w1) (hP : P ≤ 1000000) (hc : OwnC w1 b 9 vs) (hb : ¬ b = g) :
    Calls Try.prog 54 #[.pointer (some ⟨g, 0, none⟩), .slice (some ⟨b, 0, none⟩) 6 6] w1 (PickS W g P) := by
  have HL := Lib.hid hl
  go_enter Try.func54, Try.ntmps54
  go_wp2_with fail
  refine (pickD_any _ h hP).mono ?_
  rintro e w2 ⟨v, rfl, v0, v1, hd2, hg2, -⟩
  have v1' := v1 (by omega)
  obtain ⟨u, hu, hx⟩ := hv v v0 v1'
  have hcell : w2.cell? ⟨b, v.toNat, none⟩ = some (.string u) := ((gcell hg2).1 b _ hc.lt hb).trans ((hc.cell _).trans hx)
  have HU := Lib.hid hu
  clear hx hu hv v1 hg2
  go_wp2_with fail
  go_ret
  exact ⟨u, rfl, HU.out, hd2⟩

set_option maxHeartbeats 1600000 in
theorem drawBallotParse_any (a : Option Addr) (n c : Nat) (z : List Int) (w : World) (h : IsRow .u8 w a n c z) :
    Calls Try.prog 37 #[.slice a n c] w (PostS w) := by
  go_enter Try.func37, Try.ntmps37
  go_wp2_with fail
  refine (l6Open_any a n c z _ h).mono ?_
  rintro e w1 ⟨rfl, hr1, hb1⟩
  clear h
  have hd1 := Dr.start hr1
  have hs1 := hb1.size
  have hgl := hr1.lt
  clear hr1
  go_wp2_with fail
  refine (l91Ballot_any _ 0 5 w1 (by omega) hd1.rdr (by omega) (by omega)).mono ?_
  rintro e w3 ⟨A, n2, c2, xs, rfl, ho3, hn3, hd3⟩
  have hcap := ho3.cap
  have HT := Lib.hid (sBallotText_any A n2 c2 xs w3 ho3.rd hcap.1 (by omega) hcap.2)
  clear ho3 hd1
  go_wp2_with fail
  refine HT.out.mono ?_
  rintro e w4 ⟨rfl, q, rfl⟩
  have hd4 := hd3.drewN q
  have hz : (⟨(Bal.text xs).toArray⟩ : ByteArray).size ≤ 5 := by
    show (Bal.text xs).length ≤ 5
    cases hb : Bal.bv xs 5 with
    | false => rw [Bal.text_f hb]; exact Nat.zero_le _
    | true => have h2 := Bal.bv_len (Bal.bv_iff.1 hb); rw [Bal.text_t hb, Bal.letters, List.length_map]; omega
  generalize (⟨(Bal.text xs).toArray⟩ : ByteArray) = S at hz
  clear hd3 HT
  go_wp2_with fail
  refine (pickD_any _ hd4 (by omega)).mono ?_
  rintro e w5 ⟨u, rfl, u0, u1', hd5, hg5, hz5⟩
  have u1 := u1' (by omega)
  clear u1' hz5
  clear hg5
  by_cases hu : u = 0
  · subst hu
    clear u0 u1
    have hgl5 := hd5.rdr.lt
    have hne : ¬ w5.heap.size = w.heap.size := by omega
    have HD6 := Lib.hid (fun o => hd5.alloc o)
    go_wp2_with fail
    refine (of6_any _ rfl (fun v h0 h1 => lit6s v h0 h1 _ _ _ _ _ _ (by decide) (by decide) (by decide) (by decide) (by decide) (by decide)) (HD6.out _) (by omega) (heap_alloc_new _ _) hne).mono ?_
    rintro e w7 ⟨s, rfl, hs, hd7⟩
    go_wp2_with fail
    go_ret
    exact ⟨_, rfl, by rw [ByteArray.size_append]; omega, hd7.belowW hb1 (Nat.le_refl _)⟩
  · have hu' : (u == 0) = false := by simpa using hu
    clear hu
    go_wp2_with fail
    go_ret
    exact ⟨_, rfl, by omega, hd5.belowW hb1 (Nat.le_refl _)⟩

end Go.Proofs.Ytpiajeibfggpiaa
