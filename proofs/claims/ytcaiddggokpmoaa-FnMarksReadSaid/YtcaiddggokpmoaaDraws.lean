/- The functions that draw ballots, lots and who has left. -/
import Derived.Test.YtcaiddggokpmoaaDrawBa
namespace Go.Proofs.Ytcaiddggokpmoaa
open Go.RowKit
set_option linter.unusedSimpArgs false

def PostI (w : World) (k : Nat) (e : Ending) (w' : World) : Prop := ∃ A n c xs, e = .returned (.slice A n c) ∧ OwA w' w.heap.size A n c xs ∧ n ≤ k ∧ Below w.heap.size w w'
def PostII (w : World) (e : Ending) (w' : World) : Prop := ∃ A n c xs m, e = .returned (.tuple #[.slice A n c, .int .i64 m]) ∧ OwA w' w.heap.size A n c xs ∧ n ≤ 10 ∧ -1 ≤ m ∧ m ≤ 7 ∧ Below w.heap.size w w'
def PostIII (w : World) (e : Ending) (w' : World) : Prop := ∃ A n c xs x y, e = .returned (.tuple #[.slice A n c, .int .i64 x, .int .i64 y]) ∧ OwA w' w.heap.size A n c xs ∧ n ≤ 10 ∧ Below w.heap.size w w'
def PostN (w : World) (e : Ending) (w' : World) : Prop := ∃ m s : Int, e = .returned (.tuple #[.int .i64 m, .int .i64 s]) ∧ Below w.heap.size w w'
def PostS (w : World) (e : Ending) (w' : World) : Prop := ∃ s : ByteArray, e = .returned (.string s) ∧ s.size ≤ 20 ∧ Below w.heap.size w w'



set_option maxHeartbeats 1600000 in
theorem drawBallotValid_any (a : Option Addr) (n c : Nat) (z : List Int) (w : World) (h : IsRow .u8 w a n c z) :
    Calls Try.prog 39 #[.slice a n c] w (PostII w) := by
  go_enter Try.func39, Try.ntmps39
  go_wp2_with fail
  refine (l6Open_any a n c z _ h).mono ?_
  rintro e w1 ⟨rfl, hr1, hb1⟩
  clear h
  have hd1 := Dr.start hr1
  have hs1 := hb1.size
  have hgl := hr1.lt
  clear hr1
  go_wp2_with fail
  refine (pickD_any _ hd1 (by omega)).mono ?_
  rintro e w2 ⟨v, rfl, v0, v1', hd2, hg2, hz2⟩
  have v1 := v1' (by omega)
  clear v1' hz2
  go_wp2_with fail
  refine (l91Ballot_any _ 1 (1 + v) w2 (by omega) hd2.rdr (by omega) (by omega)).mono ?_
  rintro e w3 ⟨A, n2, c2, xs, rfl, ho3, hn3, hd3'⟩
  have hs2 := hd2.size
  have HO := Lib.hid (ho3.base (Nat.le_trans hs1 hs2))
  have hd3 := hd2.trans hd3'
  have hgb : w.heap.size < w2.heap.size := by omega
  have HOp := Lib.hid ho3
  clear ho3 hd2 hd1 hg2 hd3'
  go_wp2_with fail
  refine (pickD_any _ hd3 (by omega)).mono ?_
  rintro e w4 ⟨u, rfl, u0, u1', hd4, hg4, hz4⟩
  have u1 := u1' (by omega)
  clear u1' hz4
  have HO4 := Lib.hid ((HOp.out.pick hg4 hgb).base (Nat.le_trans hs1 hs2))
  have HOp4 := Lib.hid (HOp.out.pick hg4 hgb)
  clear hg4 hd3 HO
  by_cases hu : u = 0
  · subst hu
    clear u0 u1
    go_wp2_with fail
    refine (pickD_any _ hd4 (by omega)).mono ?_
    rintro e w5 ⟨x, rfl, x0, x1', hd5, hg5, hz5⟩
    have x1 := x1' (by omega)
    clear x1' hz5
    have HO5 := Lib.hid ((HOp4.out.pick hg5 hgb).base (Nat.le_trans hs1 hs2))
    clear hg5
    go_wp2_with fail
    go_ret2
    exact ⟨A, n2, c2, xs, _, rfl, HO5.out, hn3, by omega, by omega, hd5.belowW hb1 (Nat.le_refl _)⟩
  · have hu' : (u == 0) = false := by simpa using hu
    clear hu
    go_wp2_with fail
    go_ret2
    exact ⟨A, n2, c2, xs, _, rfl, HO4.out, hn3, by omega, by omega, hd4.belowW hb1 (Nat.le_refl _)⟩








end Go.Proofs.Ytcaiddggokpmoaa
