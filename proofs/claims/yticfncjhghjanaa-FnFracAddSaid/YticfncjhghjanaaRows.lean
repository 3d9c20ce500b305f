/-
  No cell of these rows narrows 'for every input' (looked for: loops, veiled, ifaces, maps, wideKeys, modest, calm, conditions, laid).
  DERIVED. THE GIVEN ROWS OF THIS SEAT. 4 by the template 'for every input the law returns true; each argument reads behind the call as it read before'; 0 by the template 'total and deterministic' (their statements: YticfncjhghjanaaTotals.lean).
  GIVEN WITH THE SEED: the statements are not yours to turn. If you find one false, say at which input.
  Laid BY PROGRAM, IN A SANDBOX (cutbox-rows.mjs): the forced cells as the released guide's own fill.sh prints them over the translation bc8989afa28f44f5… (all of the seat's roots in one cut). By AI agents, Wed Nov 11 2026. No macro, syntax, notation, axiom, sorry.
-/
import Derived.Test.YticfncjhghjanaaChecked
import GoSem.Claim
import GoSem.ClaimJoined
import GoSem.ClaimMapViews
import Derived.JoinedTies
import Derived.KernelRfl
namespace Go.Proofs.Yticfncjhghjanaa
/- THE CELL 'sum', in the pinned program and in every row, IS THE sha256 OF THE DUMP (.gsa) THAT YticfncjhghjanaaProg.lean LOADS. Nothing in Lean hashes anything: it is a label: what it is worth is what the hold of that sum in a sandbox is worth. -/
noncomputable def Try.pinned : Pinned := { name := "yticfncjhghjanaa", sum := "bc8989afa28f44f592f82dfc662122f062157514fcd2471b3fdf6e18ca57ed6f", checked := Try.checked }
namespace Rows
def none {H : Type} : Left H := { results := [], args := [] }

/-- 'laws.FnFracPart': WHATEVER THE INPUT: true; the input reads as it did. -/
def fnFracPartSpec : ChangeSpec := { name := "fnFracPart", fn := fun _ => fun
  | [d] => { results := [.lit (.bool true)], args := [d] }
  | _ => none }
def fnFracPartRow : OpenClaim := { program := "yticfncjhghjanaa", sum := "bc8989afa28f44f592f82dfc662122f062157514fcd2471b3fdf6e18ca57ed6f", func := "loop.example/tallyaudit/laws.FnFracPart", spec := "fnFracPart", apart := false }
def FnFracPartSaid : Prop := fnFracPartRow.holds Try.pinned (OpenSpec.ofChange fnFracPartSpec)

/-- ITS FALSE NEIGHBOUR: 'it returns false'. Refute it at one input. -/
def fnFracPartWrong : ChangeSpec := { name := "fnFracPart", fn := fun _ => fun
  | [d] => { results := [.lit (.bool false)], args := [d] }
  | _ => none }
def FnFracPartWrongFalsely : Prop := fnFracPartRow.holds Try.pinned (OpenSpec.ofChange fnFracPartWrong)

/-- 'laws.FnFracLess': WHATEVER THE INPUT: true; the input reads as it did. -/
def fnFracLessSpec : ChangeSpec := { name := "fnFracLess", fn := fun _ => fun
  | [d] => { results := [.lit (.bool true)], args := [d] }
  | _ => none }
def fnFracLessRow : OpenClaim := { program := "yticfncjhghjanaa", sum := "bc8989afa28f44f592f82dfc662122f062157514fcd2471b3fdf6e18ca57ed6f", func := "loop.example/tallyaudit/laws.FnFracLess", spec := "fnFracLess", apart := false }
def FnFracLessSaid : Prop := fnFracLessRow.holds Try.pinned (OpenSpec.ofChange fnFracLessSpec)

/-- ITS FALSE NEIGHBOUR: 'it returns false'. Refute it at one input. -/
def fnFracLessWrong : ChangeSpec := { name := "fnFracLess", fn := fun _ => fun
  | [d] => { results := [.lit (.bool false)], args := [d] }
  | _ => none }
def FnFracLessWrongFalsely : Prop := fnFracLessRow.holds Try.pinned (OpenSpec.ofChange fnFracLessWrong)

/-- 'laws.FnFracLessAdd': WHATEVER THE INPUT: true; the input reads as it did. -/
def fnFracLessAddSpec : ChangeSpec := { name := "fnFracLessAdd", fn := fun _ => fun
  | [d] => { results := [.lit (.bool true)], args := [d] }
  | _ => none }
def fnFracLessAddRow : OpenClaim := { program := "yticfncjhghjanaa", sum := "bc8989afa28f44f592f82dfc662122f062157514fcd2471b3fdf6e18ca57ed6f", func := "loop.example/tallyaudit/laws.FnFracLessAdd", spec := "fnFracLessAdd", apart := false }
def FnFracLessAddSaid : Prop := fnFracLessAddRow.holds Try.pinned (OpenSpec.ofChange fnFracLessAddSpec)

/-- ITS FALSE NEIGHBOUR: 'it returns false'. Refute it at one input. -/
def fnFracLessAddWrong : ChangeSpec := { name := "fnFracLessAdd", fn := fun _ => fun
  | [d] => { results := [.lit (.bool false)], args := [d] }
  | _ => none }
def FnFracLessAddWrongFalsely : Prop := fnFracLessAddRow.holds Try.pinned (OpenSpec.ofChange fnFracLessAddWrong)

/-- 'laws.FnFracAdd': WHATEVER THE INPUT: true; the input reads as it did. -/
def fnFracAddSpec : ChangeSpec := { name := "fnFracAdd", fn := fun _ => fun
  | [d] => { results := [.lit (.bool true)], args := [d] }
  | _ => none }
def fnFracAddRow : OpenClaim := { program := "yticfncjhghjanaa", sum := "bc8989afa28f44f592f82dfc662122f062157514fcd2471b3fdf6e18ca57ed6f", func := "loop.example/tallyaudit/laws.FnFracAdd", spec := "fnFracAdd", apart := false }
def FnFracAddSaid : Prop := fnFracAddRow.holds Try.pinned (OpenSpec.ofChange fnFracAddSpec)

/-- ITS FALSE NEIGHBOUR: 'it returns false'. Refute it at one input. -/
def fnFracAddWrong : ChangeSpec := { name := "fnFracAdd", fn := fun _ => fun
  | [d] => { results := [.lit (.bool false)], args := [d] }
  | _ => none }
def FnFracAddWrongFalsely : Prop := fnFracAddRow.holds Try.pinned (OpenSpec.ofChange fnFracAddWrong)

/- THE SECOND FORM. 'bulk': how many values and letters a reading holds, each counted each time it is reached (what is shared counts as often as it is met; a slice's spare places count too). A statement '..UptoSaid' is the law's where the arguments, and the package variables that the reading takes, are together of bulk at most 1048576: NARROWER than '..Said'. Prove '..Said' where nothing that the law and all that it calls make is longer than what came in: it says more and counts as full. Else prove '..UptoSaid'. A law counts once. -/
mutual
def uptoBulk {H : Type} : DataW H → Nat
  | .lit (.string bytes) => bytes.length + 1
  | .lit _ => 1
  | .nil => 1
  | .ptr d => uptoBulk d + 1
  | .slice elems spare => uptoBulkAll elems + uptoBulkAll spare + 1
  | .agg parts => uptoBulkAll parts + 1
  | .iface _ d => uptoBulk d + 1
  | .map entries => uptoBulkEntries entries + 1
  | .held _ => 1
def uptoBulkAll {H : Type} : List (DataW H) → Nat
  | [] => 0
  | d :: r => uptoBulk d + uptoBulkAll r
def uptoBulkEntries {H : Type} : List (Lit × DataW H) → Nat
  | [] => 0
  | x :: r => uptoBulkEntry x + uptoBulkEntries r
def uptoBulkEntry {H : Type} : Lit × DataW H → Nat
  | (.string bytes, d) => bytes.length + uptoBulk d + 1
  | (_, d) => uptoBulk d + 1
 end
def uptoSmall : (H : Type) → List (DataW H) → Bool := fun _ ds => decide (uptoBulkAll ds ≤ 1048576)
def OpenSpec.upto (s : _root_.Go.ChangeSpec) : _root_.Go.OpenSpec := { _root_.Go.OpenSpec.ofChange s with cond := some uptoSmall }

/-- 'laws.FnFracPart', WHERE WHAT IT READS IS OF BULK AT MOST 1048576: true; the input reads as it did. -/
def fnFracPartUptoRow : OpenClaim := { program := "yticfncjhghjanaa", sum := "bc8989afa28f44f592f82dfc662122f062157514fcd2471b3fdf6e18ca57ed6f", func := "loop.example/tallyaudit/laws.FnFracPart", spec := "fnFracPart", apart := false, narrowed := true }
def FnFracPartUptoSaid : Prop := fnFracPartUptoRow.holds Try.pinned (OpenSpec.upto fnFracPartSpec)

/-- 'laws.FnFracLess', WHERE WHAT IT READS IS OF BULK AT MOST 1048576: true; the input reads as it did. -/
def fnFracLessUptoRow : OpenClaim := { program := "yticfncjhghjanaa", sum := "bc8989afa28f44f592f82dfc662122f062157514fcd2471b3fdf6e18ca57ed6f", func := "loop.example/tallyaudit/laws.FnFracLess", spec := "fnFracLess", apart := false, narrowed := true }
def FnFracLessUptoSaid : Prop := fnFracLessUptoRow.holds Try.pinned (OpenSpec.upto fnFracLessSpec)

/-- 'laws.FnFracLessAdd', WHERE WHAT IT READS IS OF BULK AT MOST 1048576: true; the input reads as it did. -/
def fnFracLessAddUptoRow : OpenClaim := { program := "yticfncjhghjanaa", sum := "bc8989afa28f44f592f82dfc662122f062157514fcd2471b3fdf6e18ca57ed6f", func := "loop.example/tallyaudit/laws.FnFracLessAdd", spec := "fnFracLessAdd", apart := false, narrowed := true }
def FnFracLessAddUptoSaid : Prop := fnFracLessAddUptoRow.holds Try.pinned (OpenSpec.upto fnFracLessAddSpec)

/-- 'laws.FnFracAdd', WHERE WHAT IT READS IS OF BULK AT MOST 1048576: true; the input reads as it did. -/
def fnFracAddUptoRow : OpenClaim := { program := "yticfncjhghjanaa", sum := "bc8989afa28f44f592f82dfc662122f062157514fcd2471b3fdf6e18ca57ed6f", func := "loop.example/tallyaudit/laws.FnFracAdd", spec := "fnFracAdd", apart := false, narrowed := true }
def FnFracAddUptoSaid : Prop := fnFracAddUptoRow.holds Try.pinned (OpenSpec.upto fnFracAddSpec)

end Rows
end Go.Proofs.Yticfncjhghjanaa
