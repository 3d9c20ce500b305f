/- The functions that draw ballots, lots and who has left. -/
import Derived.Test.YtnolnlhoedafcaaDrawBa
namespace Go.Proofs.Ytnolnlhoedafcaa
open Go.RowKit
set_option linter.unusedSimpArgs false

def PostI (w : World) (k : Nat) (e : Ending) (w' : World) : Prop := ∃ A n c xs, e = .returned (.slice A n c) ∧ OwA w' w.heap.size A n c xs ∧ n ≤ k ∧ Below w.heap.size w w'
def PostII (w : World) (e : Ending) (w' : World) : Prop := ∃ A n c xs m, e = .returned (.tuple #[.slice A n c, .int .i64 m]) ∧ OwA w' w.heap.size A n c xs ∧ n ≤ 10 ∧ -1 ≤ m ∧ m ≤ 7 ∧ Below w.heap.size w w'
def PostIII (w : World) (e : Ending) (w' : World) : Prop := ∃ A n c xs x y, e = .returned (.tuple #[.slice A n c, .int .i64 x, .int .i64 y]) ∧ OwA w' w.heap.size A n c xs ∧ n ≤ 10 ∧ Below w.heap.size w w'
def PostN (w : World) (e : Ending) (w' : World) : Prop := ∃ m s : Int, e = .returned (.tuple #[.int .i64 m, .int .i64 s]) ∧ Below w.heap.size w w'
def PostS (w : World) (e : Ending) (w' : World) : Prop := ∃ s : ByteArray, e = .returned (.string s) ∧ s.size ≤ 20 ∧ Below w.heap.size w w'











end Go.Proofs.Ytnolnlhoedafcaa
