/-
  No cell of these rows narrows 'for every input' (looked for: loops, veiled, ifaces, maps, wideKeys, modest, calm, conditions, laid).
  DERIVED. THE GIVEN ROWS OF THIS SEAT. 8 by the template 'for every input the law returns true; each argument reads behind the call as it read before'; 0 by the template 'total and deterministic' (their statements: YtcheobglpbackaaTotals.lean).
  GIVEN WITH THE SEED: the statements are not yours to turn. If you find one false, say at which input.
  Laid BY PROGRAM, IN A SANDBOX (cutbox-rows.mjs): the forced cells as the released guide's own fill.sh prints them over the translation 15d53eff2c7d09fc… (all of the seat's roots in one cut). By AI agents, Wed Nov 11 2026. No macro, syntax, notation, axiom, sorry.
-/
import Derived.Test.YtcheobglpbackaaChecked
import GoSem.Claim
import GoSem.ClaimJoined
import GoSem.ClaimMapViews
import Derived.JoinedTies
import Derived.KernelRfl
namespace Go.Proofs.Ytcheobglpbackaa
/- THE CELL 'sum', in the pinned program and in every row, IS THE sha256 OF THE DUMP (.gsa) THAT YtcheobglpbackaaProg.lean LOADS. Nothing in Lean hashes anything: it is a label: what it is worth is what the hold of that sum in a sandbox is worth. -/
noncomputable def Try.pinned : Pinned := { name := "ytcheobglpbackaa", sum := "15d53eff2c7d09fc97e899ea4c73a54a99103506155db465e1ca75dbc968d47c", checked := Try.checked }
namespace Rows
def none {H : Type} : Left H := { results := [], args := [] }

/-- 'laws.FnExactBallotValid': WHATEVER THE INPUT: true; the input reads as it did. -/
def fnExactBallotValidSpec : ChangeSpec := { name := "fnExactBallotValid", fn := fun _ => fun
  | [d1, d2] => { results := [.lit (.bool true)], args := [d1, d2] }
  | _ => none }
def fnExactBallotValidRow : OpenClaim := { program := "ytcheobglpbackaa", sum := "15d53eff2c7d09fc97e899ea4c73a54a99103506155db465e1ca75dbc968d47c", func := "loop.example/tallyaudit/laws.FnExactBallotValid", spec := "fnExactBallotValid", apart := false }
def FnExactBallotValidSaid : Prop := fnExactBallotValidRow.holds Try.pinned (OpenSpec.ofChange fnExactBallotValidSpec)

/-- ITS FALSE NEIGHBOUR: 'it returns false'. Refute it at one input. -/
def fnExactBallotValidWrong : ChangeSpec := { name := "fnExactBallotValid", fn := fun _ => fun
  | [d1, d2] => { results := [.lit (.bool false)], args := [d1, d2] }
  | _ => none }
def FnExactBallotValidWrongFalsely : Prop := fnExactBallotValidRow.holds Try.pinned (OpenSpec.ofChange fnExactBallotValidWrong)

/-- 'laws.FnExactLotsValid': WHATEVER THE INPUT: true; the input reads as it did. -/
def fnExactLotsValidSpec : ChangeSpec := { name := "fnExactLotsValid", fn := fun _ => fun
  | [d] => { results := [.lit (.bool true)], args := [d] }
  | _ => none }
def fnExactLotsValidRow : OpenClaim := { program := "ytcheobglpbackaa", sum := "15d53eff2c7d09fc97e899ea4c73a54a99103506155db465e1ca75dbc968d47c", func := "loop.example/tallyaudit/laws.FnExactLotsValid", spec := "fnExactLotsValid", apart := false }
def FnExactLotsValidSaid : Prop := fnExactLotsValidRow.holds Try.pinned (OpenSpec.ofChange fnExactLotsValidSpec)

/-- ITS FALSE NEIGHBOUR: 'it returns false'. Refute it at one input. -/
def fnExactLotsValidWrong : ChangeSpec := { name := "fnExactLotsValid", fn := fun _ => fun
  | [d] => { results := [.lit (.bool false)], args := [d] }
  | _ => none }
def FnExactLotsValidWrongFalsely : Prop := fnExactLotsValidRow.holds Try.pinned (OpenSpec.ofChange fnExactLotsValidWrong)

/-- 'laws.FnExactLotsOf': WHATEVER THE INPUT: true; the input reads as it did. -/
def fnExactLotsOfSpec : ChangeSpec := { name := "fnExactLotsOf", fn := fun _ => fun
  | [d1, d2] => { results := [.lit (.bool true)], args := [d1, d2] }
  | _ => none }
def fnExactLotsOfRow : OpenClaim := { program := "ytcheobglpbackaa", sum := "15d53eff2c7d09fc97e899ea4c73a54a99103506155db465e1ca75dbc968d47c", func := "loop.example/tallyaudit/laws.FnExactLotsOf", spec := "fnExactLotsOf", apart := false }
def FnExactLotsOfSaid : Prop := fnExactLotsOfRow.holds Try.pinned (OpenSpec.ofChange fnExactLotsOfSpec)

/-- ITS FALSE NEIGHBOUR: 'it returns false'. Refute it at one input. -/
def fnExactLotsOfWrong : ChangeSpec := { name := "fnExactLotsOf", fn := fun _ => fun
  | [d1, d2] => { results := [.lit (.bool false)], args := [d1, d2] }
  | _ => none }
def FnExactLotsOfWrongFalsely : Prop := fnExactLotsOfRow.holds Try.pinned (OpenSpec.ofChange fnExactLotsOfWrong)

/-- 'laws.FnExactBallotText': WHATEVER THE INPUT: true; the input reads as it did. -/
def fnExactBallotTextSpec : ChangeSpec := { name := "fnExactBallotText", fn := fun _ => fun
  | [d] => { results := [.lit (.bool true)], args := [d] }
  | _ => none }
def fnExactBallotTextRow : OpenClaim := { program := "ytcheobglpbackaa", sum := "15d53eff2c7d09fc97e899ea4c73a54a99103506155db465e1ca75dbc968d47c", func := "loop.example/tallyaudit/laws.FnExactBallotText", spec := "fnExactBallotText", apart := false }
def FnExactBallotTextSaid : Prop := fnExactBallotTextRow.holds Try.pinned (OpenSpec.ofChange fnExactBallotTextSpec)

/-- ITS FALSE NEIGHBOUR: 'it returns false'. Refute it at one input. -/
def fnExactBallotTextWrong : ChangeSpec := { name := "fnExactBallotText", fn := fun _ => fun
  | [d] => { results := [.lit (.bool false)], args := [d] }
  | _ => none }
def FnExactBallotTextWrongFalsely : Prop := fnExactBallotTextRow.holds Try.pinned (OpenSpec.ofChange fnExactBallotTextWrong)

/-- 'laws.FnExactBallotPrefers': WHATEVER THE INPUT: true; the input reads as it did. -/
def fnExactBallotPrefersSpec : ChangeSpec := { name := "fnExactBallotPrefers", fn := fun _ => fun
  | [d1, d2, d3] => { results := [.lit (.bool true)], args := [d1, d2, d3] }
  | _ => none }
def fnExactBallotPrefersRow : OpenClaim := { program := "ytcheobglpbackaa", sum := "15d53eff2c7d09fc97e899ea4c73a54a99103506155db465e1ca75dbc968d47c", func := "loop.example/tallyaudit/laws.FnExactBallotPrefers", spec := "fnExactBallotPrefers", apart := false }
def FnExactBallotPrefersSaid : Prop := fnExactBallotPrefersRow.holds Try.pinned (OpenSpec.ofChange fnExactBallotPrefersSpec)

/-- ITS FALSE NEIGHBOUR: 'it returns false'. Refute it at one input. -/
def fnExactBallotPrefersWrong : ChangeSpec := { name := "fnExactBallotPrefers", fn := fun _ => fun
  | [d1, d2, d3] => { results := [.lit (.bool false)], args := [d1, d2, d3] }
  | _ => none }
def FnExactBallotPrefersWrongFalsely : Prop := fnExactBallotPrefersRow.holds Try.pinned (OpenSpec.ofChange fnExactBallotPrefersWrong)

/-- 'laws.FnExactBallotParse': WHATEVER THE INPUT: true; the input reads as it did. -/
def fnExactBallotParseSpec : ChangeSpec := { name := "fnExactBallotParse", fn := fun _ => fun
  | [d] => { results := [.lit (.bool true)], args := [d] }
  | _ => none }
def fnExactBallotParseRow : OpenClaim := { program := "ytcheobglpbackaa", sum := "15d53eff2c7d09fc97e899ea4c73a54a99103506155db465e1ca75dbc968d47c", func := "loop.example/tallyaudit/laws.FnExactBallotParse", spec := "fnExactBallotParse", apart := false }
def FnExactBallotParseSaid : Prop := fnExactBallotParseRow.holds Try.pinned (OpenSpec.ofChange fnExactBallotParseSpec)

/-- ITS FALSE NEIGHBOUR: 'it returns false'. Refute it at one input. -/
def fnExactBallotParseWrong : ChangeSpec := { name := "fnExactBallotParse", fn := fun _ => fun
  | [d] => { results := [.lit (.bool false)], args := [d] }
  | _ => none }
def FnExactBallotParseWrongFalsely : Prop := fnExactBallotParseRow.holds Try.pinned (OpenSpec.ofChange fnExactBallotParseWrong)

/-- 'laws.FnExactBallotFirst': WHATEVER THE INPUT: true; the input reads as it did. -/
def fnExactBallotFirstSpec : ChangeSpec := { name := "fnExactBallotFirst", fn := fun _ => fun
  | [d1, d2] => { results := [.lit (.bool true)], args := [d1, d2] }
  | _ => none }
def fnExactBallotFirstRow : OpenClaim := { program := "ytcheobglpbackaa", sum := "15d53eff2c7d09fc97e899ea4c73a54a99103506155db465e1ca75dbc968d47c", func := "loop.example/tallyaudit/laws.FnExactBallotFirst", spec := "fnExactBallotFirst", apart := false }
def FnExactBallotFirstSaid : Prop := fnExactBallotFirstRow.holds Try.pinned (OpenSpec.ofChange fnExactBallotFirstSpec)

/-- ITS FALSE NEIGHBOUR: 'it returns false'. Refute it at one input. -/
def fnExactBallotFirstWrong : ChangeSpec := { name := "fnExactBallotFirst", fn := fun _ => fun
  | [d1, d2] => { results := [.lit (.bool false)], args := [d1, d2] }
  | _ => none }
def FnExactBallotFirstWrongFalsely : Prop := fnExactBallotFirstRow.holds Try.pinned (OpenSpec.ofChange fnExactBallotFirstWrong)

/-- 'laws.FnExactLotsFirst': WHATEVER THE INPUT: true; the input reads as it did. -/
def fnExactLotsFirstSpec : ChangeSpec := { name := "fnExactLotsFirst", fn := fun _ => fun
  | [d1, d2] => { results := [.lit (.bool true)], args := [d1, d2] }
  | _ => none }
def fnExactLotsFirstRow : OpenClaim := { program := "ytcheobglpbackaa", sum := "15d53eff2c7d09fc97e899ea4c73a54a99103506155db465e1ca75dbc968d47c", func := "loop.example/tallyaudit/laws.FnExactLotsFirst", spec := "fnExactLotsFirst", apart := false }
def FnExactLotsFirstSaid : Prop := fnExactLotsFirstRow.holds Try.pinned (OpenSpec.ofChange fnExactLotsFirstSpec)

/-- ITS FALSE NEIGHBOUR: 'it returns false'. Refute it at one input. -/
def fnExactLotsFirstWrong : ChangeSpec := { name := "fnExactLotsFirst", fn := fun _ => fun
  | [d1, d2] => { results := [.lit (.bool false)], args := [d1, d2] }
  | _ => none }
def FnExactLotsFirstWrongFalsely : Prop := fnExactLotsFirstRow.holds Try.pinned (OpenSpec.ofChange fnExactLotsFirstWrong)

/- THE SECOND FORM. 'bulk': how many values and letters a reading holds, each counted each time it is reached (what is shared counts as often as it is met; a slice's spare places count too). A statement '..UptoSaid' is the law's where the arguments, and the package variables that the reading takes, are together of bulk at most 1048576: NARROWER than '..Said'. Prove '..Said' where nothing that the law and all that it calls make is longer than what came in: it says more and counts as full. Else prove '..UptoSaid'. A law counts once. -/
mutual
def uptoBulk {H : Type} : DataW H → Nat
  | .lit (.string bytes) => bytes.length + 1
  | .lit _ => 1
  | .nil => 1
  | .ptr d => uptoBulk d + 1
  | .slice elems spare => uptoBulkAll elems + uptoBulkAll spare + 1
  | .agg parts => uptoBulkAll parts + 1
  | .iface _ d => uptoBulk d + 1
  | .map entries => uptoBulkEntries entries + 1
  | .held _ => 1
def uptoBulkAll {H : Type} : List (DataW H) → Nat
  | [] => 0
  | d :: r => uptoBulk d + uptoBulkAll r
def uptoBulkEntries {H : Type} : List (Lit × DataW H) → Nat
  | [] => 0
  | x :: r => uptoBulkEntry x + uptoBulkEntries r
def uptoBulkEntry {H : Type} : Lit × DataW H → Nat
  | (.string bytes, d) => bytes.length + uptoBulk d + 1
  | (_, d) => uptoBulk d + 1
 end
def uptoSmall : (H : Type) → List (DataW H) → Bool := fun _ ds => decide (uptoBulkAll ds ≤ 1048576)
def OpenSpec.upto (s : _root_.Go.ChangeSpec) : _root_.Go.OpenSpec := { _root_.Go.OpenSpec.ofChange s with cond := some uptoSmall }

/-- 'laws.FnExactBallotValid', WHERE WHAT IT READS IS OF BULK AT MOST 1048576: true; the input reads as it did. -/
def fnExactBallotValidUptoRow : OpenClaim := { program := "ytcheobglpbackaa", sum := "15d53eff2c7d09fc97e899ea4c73a54a99103506155db465e1ca75dbc968d47c", func := "loop.example/tallyaudit/laws.FnExactBallotValid", spec := "fnExactBallotValid", apart := false, narrowed := true }
def FnExactBallotValidUptoSaid : Prop := fnExactBallotValidUptoRow.holds Try.pinned (OpenSpec.upto fnExactBallotValidSpec)

/-- 'laws.FnExactLotsValid', WHERE WHAT IT READS IS OF BULK AT MOST 1048576: true; the input reads as it did. -/
def fnExactLotsValidUptoRow : OpenClaim := { program := "ytcheobglpbackaa", sum := "15d53eff2c7d09fc97e899ea4c73a54a99103506155db465e1ca75dbc968d47c", func := "loop.example/tallyaudit/laws.FnExactLotsValid", spec := "fnExactLotsValid", apart := false, narrowed := true }
def FnExactLotsValidUptoSaid : Prop := fnExactLotsValidUptoRow.holds Try.pinned (OpenSpec.upto fnExactLotsValidSpec)

/-- 'laws.FnExactLotsOf', WHERE WHAT IT READS IS OF BULK AT MOST 1048576: true; the input reads as it did. -/
def fnExactLotsOfUptoRow : OpenClaim := { program := "ytcheobglpbackaa", sum := "15d53eff2c7d09fc97e899ea4c73a54a99103506155db465e1ca75dbc968d47c", func := "loop.example/tallyaudit/laws.FnExactLotsOf", spec := "fnExactLotsOf", apart := false, narrowed := true }
def FnExactLotsOfUptoSaid : Prop := fnExactLotsOfUptoRow.holds Try.pinned (OpenSpec.upto fnExactLotsOfSpec)

/-- 'laws.FnExactBallotText', WHERE WHAT IT READS IS OF BULK AT MOST 1048576: true; the input reads as it did. -/
def fnExactBallotTextUptoRow : OpenClaim := { program := "ytcheobglpbackaa", sum := "15d53eff2c7d09fc97e899ea4c73a54a99103506155db465e1ca75dbc968d47c", func := "loop.example/tallyaudit/laws.FnExactBallotText", spec := "fnExactBallotText", apart := false, narrowed := true }
def FnExactBallotTextUptoSaid : Prop := fnExactBallotTextUptoRow.holds Try.pinned (OpenSpec.upto fnExactBallotTextSpec)

/-- 'laws.FnExactBallotPrefers', WHERE WHAT IT READS IS OF BULK AT MOST 1048576: true; the input reads as it did. -/
def fnExactBallotPrefersUptoRow : OpenClaim := { program := "ytcheobglpbackaa", sum := "15d53eff2c7d09fc97e899ea4c73a54a99103506155db465e1ca75dbc968d47c", func := "loop.example/tallyaudit/laws.FnExactBallotPrefers", spec := "fnExactBallotPrefers", apart := false, narrowed := true }
def FnExactBallotPrefersUptoSaid : Prop := fnExactBallotPrefersUptoRow.holds Try.pinned (OpenSpec.upto fnExactBallotPrefersSpec)

/-- 'laws.FnExactBallotParse', WHERE WHAT IT READS IS OF BULK AT MOST 1048576: true; the input reads as it did. -/
def fnExactBallotParseUptoRow : OpenClaim := { program := "ytcheobglpbackaa", sum := "15d53eff2c7d09fc97e899ea4c73a54a99103506155db465e1ca75dbc968d47c", func := "loop.example/tallyaudit/laws.FnExactBallotParse", spec := "fnExactBallotParse", apart := false, narrowed := true }
def FnExactBallotParseUptoSaid : Prop := fnExactBallotParseUptoRow.holds Try.pinned (OpenSpec.upto fnExactBallotParseSpec)

/-- 'laws.FnExactBallotFirst', WHERE WHAT IT READS IS OF BULK AT MOST 1048576: true; the input reads as it did. -/
def fnExactBallotFirstUptoRow : OpenClaim := { program := "ytcheobglpbackaa", sum := "15d53eff2c7d09fc97e899ea4c73a54a99103506155db465e1ca75dbc968d47c", func := "loop.example/tallyaudit/laws.FnExactBallotFirst", spec := "fnExactBallotFirst", apart := false, narrowed := true }
def FnExactBallotFirstUptoSaid : Prop := fnExactBallotFirstUptoRow.holds Try.pinned (OpenSpec.upto fnExactBallotFirstSpec)

/-- 'laws.FnExactLotsFirst', WHERE WHAT IT READS IS OF BULK AT MOST 1048576: true; the input reads as it did. -/
def fnExactLotsFirstUptoRow : OpenClaim := { program := "ytcheobglpbackaa", sum := "15d53eff2c7d09fc97e899ea4c73a54a99103506155db465e1ca75dbc968d47c", func := "loop.example/tallyaudit/laws.FnExactLotsFirst", spec := "fnExactLotsFirst", apart := false, narrowed := true }
def FnExactLotsFirstUptoSaid : Prop := fnExactLotsFirstUptoRow.holds Try.pinned (OpenSpec.upto fnExactLotsFirstSpec)

end Rows
end Go.Proofs.Ytcheobglpbackaa
