/-
  No cell of these rows narrows 'for every input' (looked for: loops, veiled, ifaces, maps, wideKeys, modest, calm, conditions, laid).
  DERIVED. THE GIVEN ROWS OF THIS SEAT. 12 by the template 'for every input the law returns true; each argument reads behind the call as it read before'; 0 by the template 'total and deterministic' (their statements: YtpiajeibfggpiaaTotals.lean).
  GIVEN WITH THE SEED: the statements are not yours to turn. If you find one false, say at which input.
  Laid BY PROGRAM, IN A SANDBOX (cutbox-rows.mjs): the forced cells as the released guide's own fill.sh prints them over the translation aa73ff148e6641b0… (all of the seat's roots in one cut). By AI agents, Wed Nov 11 2026. No macro, syntax, notation, axiom, sorry.
-/
import Derived.Test.YtpiajeibfggpiaaChecked
import GoSem.Claim
import GoSem.ClaimJoined
import GoSem.ClaimMapViews
import Derived.JoinedTies
import Derived.KernelRfl
namespace Go.Proofs.Ytpiajeibfggpiaa
/- THE CELL 'sum', in the pinned program and in every row, IS THE sha256 OF THE DUMP (.gsa) THAT YtpiajeibfggpiaaProg.lean LOADS. Nothing in Lean hashes anything: it is a label: what it is worth is what the hold of that sum in a sandbox is worth. -/
noncomputable def Try.pinned : Pinned := { name := "ytpiajeibfggpiaa", sum := "aa73ff148e6641b02ce05fe9696f6d15e11d17cf4f88112d2aedc4b58bd0696f", checked := Try.checked }
namespace Rows
def none {H : Type} : Left H := { results := [], args := [] }

/-- 'laws.FnBallotPart': WHATEVER THE INPUT: true; the input reads as it did. -/
def fnBallotPartSpec : ChangeSpec := { name := "fnBallotPart", fn := fun _ => fun
  | [d1, d2] => { results := [.lit (.bool true)], args := [d1, d2] }
  | _ => none }
def fnBallotPartRow : OpenClaim := { program := "ytpiajeibfggpiaa", sum := "aa73ff148e6641b02ce05fe9696f6d15e11d17cf4f88112d2aedc4b58bd0696f", func := "loop.example/tallyaudit/laws.FnBallotPart", spec := "fnBallotPart", apart := false }
def FnBallotPartSaid : Prop := fnBallotPartRow.holds Try.pinned (OpenSpec.ofChange fnBallotPartSpec)

/-- ITS FALSE NEIGHBOUR: 'it returns false'. Refute it at one input. -/
def fnBallotPartWrong : ChangeSpec := { name := "fnBallotPart", fn := fun _ => fun
  | [d1, d2] => { results := [.lit (.bool false)], args := [d1, d2] }
  | _ => none }
def FnBallotPartWrongFalsely : Prop := fnBallotPartRow.holds Try.pinned (OpenSpec.ofChange fnBallotPartWrong)

/-- 'laws.FnLotsAll': WHATEVER THE INPUT: true; the input reads as it did. -/
def fnLotsAllSpec : ChangeSpec := { name := "fnLotsAll", fn := fun _ => fun
  | [d] => { results := [.lit (.bool true)], args := [d] }
  | _ => none }
def fnLotsAllRow : OpenClaim := { program := "ytpiajeibfggpiaa", sum := "aa73ff148e6641b02ce05fe9696f6d15e11d17cf4f88112d2aedc4b58bd0696f", func := "loop.example/tallyaudit/laws.FnLotsAll", spec := "fnLotsAll", apart := false }
def FnLotsAllSaid : Prop := fnLotsAllRow.holds Try.pinned (OpenSpec.ofChange fnLotsAllSpec)

/-- ITS FALSE NEIGHBOUR: 'it returns false'. Refute it at one input. -/
def fnLotsAllWrong : ChangeSpec := { name := "fnLotsAll", fn := fun _ => fun
  | [d] => { results := [.lit (.bool false)], args := [d] }
  | _ => none }
def FnLotsAllWrongFalsely : Prop := fnLotsAllRow.holds Try.pinned (OpenSpec.ofChange fnLotsAllWrong)

/-- 'laws.FnLotsMore': WHATEVER THE INPUT: true; the input reads as it did. -/
def fnLotsMoreSpec : ChangeSpec := { name := "fnLotsMore", fn := fun _ => fun
  | [d] => { results := [.lit (.bool true)], args := [d] }
  | _ => none }
def fnLotsMoreRow : OpenClaim := { program := "ytpiajeibfggpiaa", sum := "aa73ff148e6641b02ce05fe9696f6d15e11d17cf4f88112d2aedc4b58bd0696f", func := "loop.example/tallyaudit/laws.FnLotsMore", spec := "fnLotsMore", apart := false }
def FnLotsMoreSaid : Prop := fnLotsMoreRow.holds Try.pinned (OpenSpec.ofChange fnLotsMoreSpec)

/-- ITS FALSE NEIGHBOUR: 'it returns false'. Refute it at one input. -/
def fnLotsMoreWrong : ChangeSpec := { name := "fnLotsMore", fn := fun _ => fun
  | [d] => { results := [.lit (.bool false)], args := [d] }
  | _ => none }
def FnLotsMoreWrongFalsely : Prop := fnLotsMoreRow.holds Try.pinned (OpenSpec.ofChange fnLotsMoreWrong)

/-- 'laws.FnLotsPart': WHATEVER THE INPUT: true; the input reads as it did. -/
def fnLotsPartSpec : ChangeSpec := { name := "fnLotsPart", fn := fun _ => fun
  | [d] => { results := [.lit (.bool true)], args := [d] }
  | _ => none }
def fnLotsPartRow : OpenClaim := { program := "ytpiajeibfggpiaa", sum := "aa73ff148e6641b02ce05fe9696f6d15e11d17cf4f88112d2aedc4b58bd0696f", func := "loop.example/tallyaudit/laws.FnLotsPart", spec := "fnLotsPart", apart := false }
def FnLotsPartSaid : Prop := fnLotsPartRow.holds Try.pinned (OpenSpec.ofChange fnLotsPartSpec)

/-- ITS FALSE NEIGHBOUR: 'it returns false'. Refute it at one input. -/
def fnLotsPartWrong : ChangeSpec := { name := "fnLotsPart", fn := fun _ => fun
  | [d] => { results := [.lit (.bool false)], args := [d] }
  | _ => none }
def FnLotsPartWrongFalsely : Prop := fnLotsPartRow.holds Try.pinned (OpenSpec.ofChange fnLotsPartWrong)

/-- 'laws.FnBallotPrefers': WHATEVER THE INPUT: true; the input reads as it did. -/
def fnBallotPrefersSpec : ChangeSpec := { name := "fnBallotPrefers", fn := fun _ => fun
  | [d] => { results := [.lit (.bool true)], args := [d] }
  | _ => none }
def fnBallotPrefersRow : OpenClaim := { program := "ytpiajeibfggpiaa", sum := "aa73ff148e6641b02ce05fe9696f6d15e11d17cf4f88112d2aedc4b58bd0696f", func := "loop.example/tallyaudit/laws.FnBallotPrefers", spec := "fnBallotPrefers", apart := false }
def FnBallotPrefersSaid : Prop := fnBallotPrefersRow.holds Try.pinned (OpenSpec.ofChange fnBallotPrefersSpec)

/-- ITS FALSE NEIGHBOUR: 'it returns false'. Refute it at one input. -/
def fnBallotPrefersWrong : ChangeSpec := { name := "fnBallotPrefers", fn := fun _ => fun
  | [d] => { results := [.lit (.bool false)], args := [d] }
  | _ => none }
def FnBallotPrefersWrongFalsely : Prop := fnBallotPrefersRow.holds Try.pinned (OpenSpec.ofChange fnBallotPrefersWrong)

/-- 'laws.FnLots': WHATEVER THE INPUT: true; the input reads as it did. -/
def fnLotsSpec : ChangeSpec := { name := "fnLots", fn := fun _ => fun
  | [d] => { results := [.lit (.bool true)], args := [d] }
  | _ => none }
def fnLotsRow : OpenClaim := { program := "ytpiajeibfggpiaa", sum := "aa73ff148e6641b02ce05fe9696f6d15e11d17cf4f88112d2aedc4b58bd0696f", func := "loop.example/tallyaudit/laws.FnLots", spec := "fnLots", apart := false }
def FnLotsSaid : Prop := fnLotsRow.holds Try.pinned (OpenSpec.ofChange fnLotsSpec)

/-- ITS FALSE NEIGHBOUR: 'it returns false'. Refute it at one input. -/
def fnLotsWrong : ChangeSpec := { name := "fnLots", fn := fun _ => fun
  | [d] => { results := [.lit (.bool false)], args := [d] }
  | _ => none }
def FnLotsWrongFalsely : Prop := fnLotsRow.holds Try.pinned (OpenSpec.ofChange fnLotsWrong)

/-- 'laws.FnBallotFirst': WHATEVER THE INPUT: true; the input reads as it did. -/
def fnBallotFirstSpec : ChangeSpec := { name := "fnBallotFirst", fn := fun _ => fun
  | [d] => { results := [.lit (.bool true)], args := [d] }
  | _ => none }
def fnBallotFirstRow : OpenClaim := { program := "ytpiajeibfggpiaa", sum := "aa73ff148e6641b02ce05fe9696f6d15e11d17cf4f88112d2aedc4b58bd0696f", func := "loop.example/tallyaudit/laws.FnBallotFirst", spec := "fnBallotFirst", apart := false }
def FnBallotFirstSaid : Prop := fnBallotFirstRow.holds Try.pinned (OpenSpec.ofChange fnBallotFirstSpec)

/-- ITS FALSE NEIGHBOUR: 'it returns false'. Refute it at one input. -/
def fnBallotFirstWrong : ChangeSpec := { name := "fnBallotFirst", fn := fun _ => fun
  | [d] => { results := [.lit (.bool false)], args := [d] }
  | _ => none }
def FnBallotFirstWrongFalsely : Prop := fnBallotFirstRow.holds Try.pinned (OpenSpec.ofChange fnBallotFirstWrong)

/-- 'laws.FnBallotPrefersAll': WHATEVER THE INPUT: true; the input reads as it did. -/
def fnBallotPrefersAllSpec : ChangeSpec := { name := "fnBallotPrefersAll", fn := fun _ => fun
  | [d] => { results := [.lit (.bool true)], args := [d] }
  | _ => none }
def fnBallotPrefersAllRow : OpenClaim := { program := "ytpiajeibfggpiaa", sum := "aa73ff148e6641b02ce05fe9696f6d15e11d17cf4f88112d2aedc4b58bd0696f", func := "loop.example/tallyaudit/laws.FnBallotPrefersAll", spec := "fnBallotPrefersAll", apart := false }
def FnBallotPrefersAllSaid : Prop := fnBallotPrefersAllRow.holds Try.pinned (OpenSpec.ofChange fnBallotPrefersAllSpec)

/-- ITS FALSE NEIGHBOUR: 'it returns false'. Refute it at one input. -/
def fnBallotPrefersAllWrong : ChangeSpec := { name := "fnBallotPrefersAll", fn := fun _ => fun
  | [d] => { results := [.lit (.bool false)], args := [d] }
  | _ => none }
def FnBallotPrefersAllWrongFalsely : Prop := fnBallotPrefersAllRow.holds Try.pinned (OpenSpec.ofChange fnBallotPrefersAllWrong)

/-- 'laws.FnBallotText': WHATEVER THE INPUT: true; the input reads as it did. -/
def fnBallotTextSpec : ChangeSpec := { name := "fnBallotText", fn := fun _ => fun
  | [d] => { results := [.lit (.bool true)], args := [d] }
  | _ => none }
def fnBallotTextRow : OpenClaim := { program := "ytpiajeibfggpiaa", sum := "aa73ff148e6641b02ce05fe9696f6d15e11d17cf4f88112d2aedc4b58bd0696f", func := "loop.example/tallyaudit/laws.FnBallotText", spec := "fnBallotText", apart := false }
def FnBallotTextSaid : Prop := fnBallotTextRow.holds Try.pinned (OpenSpec.ofChange fnBallotTextSpec)

/-- ITS FALSE NEIGHBOUR: 'it returns false'. Refute it at one input. -/
def fnBallotTextWrong : ChangeSpec := { name := "fnBallotText", fn := fun _ => fun
  | [d] => { results := [.lit (.bool false)], args := [d] }
  | _ => none }
def FnBallotTextWrongFalsely : Prop := fnBallotTextRow.holds Try.pinned (OpenSpec.ofChange fnBallotTextWrong)

/-- 'laws.FnBallotTwice': WHATEVER THE INPUT: true; the input reads as it did. -/
def fnBallotTwiceSpec : ChangeSpec := { name := "fnBallotTwice", fn := fun _ => fun
  | [d] => { results := [.lit (.bool true)], args := [d] }
  | _ => none }
def fnBallotTwiceRow : OpenClaim := { program := "ytpiajeibfggpiaa", sum := "aa73ff148e6641b02ce05fe9696f6d15e11d17cf4f88112d2aedc4b58bd0696f", func := "loop.example/tallyaudit/laws.FnBallotTwice", spec := "fnBallotTwice", apart := false }
def FnBallotTwiceSaid : Prop := fnBallotTwiceRow.holds Try.pinned (OpenSpec.ofChange fnBallotTwiceSpec)

/-- ITS FALSE NEIGHBOUR: 'it returns false'. Refute it at one input. -/
def fnBallotTwiceWrong : ChangeSpec := { name := "fnBallotTwice", fn := fun _ => fun
  | [d] => { results := [.lit (.bool false)], args := [d] }
  | _ => none }
def FnBallotTwiceWrongFalsely : Prop := fnBallotTwiceRow.holds Try.pinned (OpenSpec.ofChange fnBallotTwiceWrong)

/-- 'laws.FnLotsFirst': WHATEVER THE INPUT: true; the input reads as it did. -/
def fnLotsFirstSpec : ChangeSpec := { name := "fnLotsFirst", fn := fun _ => fun
  | [d] => { results := [.lit (.bool true)], args := [d] }
  | _ => none }
def fnLotsFirstRow : OpenClaim := { program := "ytpiajeibfggpiaa", sum := "aa73ff148e6641b02ce05fe9696f6d15e11d17cf4f88112d2aedc4b58bd0696f", func := "loop.example/tallyaudit/laws.FnLotsFirst", spec := "fnLotsFirst", apart := false }
def FnLotsFirstSaid : Prop := fnLotsFirstRow.holds Try.pinned (OpenSpec.ofChange fnLotsFirstSpec)

/-- ITS FALSE NEIGHBOUR: 'it returns false'. Refute it at one input. -/
def fnLotsFirstWrong : ChangeSpec := { name := "fnLotsFirst", fn := fun _ => fun
  | [d] => { results := [.lit (.bool false)], args := [d] }
  | _ => none }
def FnLotsFirstWrongFalsely : Prop := fnLotsFirstRow.holds Try.pinned (OpenSpec.ofChange fnLotsFirstWrong)

/-- 'laws.FnBallotParse': WHATEVER THE INPUT: true; the input reads as it did. -/
def fnBallotParseSpec : ChangeSpec := { name := "fnBallotParse", fn := fun _ => fun
  | [d] => { results := [.lit (.bool true)], args := [d] }
  | _ => none }
def fnBallotParseRow : OpenClaim := { program := "ytpiajeibfggpiaa", sum := "aa73ff148e6641b02ce05fe9696f6d15e11d17cf4f88112d2aedc4b58bd0696f", func := "loop.example/tallyaudit/laws.FnBallotParse", spec := "fnBallotParse", apart := false }
def FnBallotParseSaid : Prop := fnBallotParseRow.holds Try.pinned (OpenSpec.ofChange fnBallotParseSpec)

/-- ITS FALSE NEIGHBOUR: 'it returns false'. Refute it at one input. -/
def fnBallotParseWrong : ChangeSpec := { name := "fnBallotParse", fn := fun _ => fun
  | [d] => { results := [.lit (.bool false)], args := [d] }
  | _ => none }
def FnBallotParseWrongFalsely : Prop := fnBallotParseRow.holds Try.pinned (OpenSpec.ofChange fnBallotParseWrong)

/- THE SECOND FORM. 'bulk': how many values and letters a reading holds, each counted each time it is reached (what is shared counts as often as it is met; a slice's spare places count too). A statement '..UptoSaid' is the law's where the arguments, and the package variables that the reading takes, are together of bulk at most 1048576: NARROWER than '..Said'. Prove '..Said' where nothing that the law and all that it calls make is longer than what came in: it says more and counts as full. Else prove '..UptoSaid'. A law counts once. -/
mutual
def uptoBulk {H : Type} : DataW H → Nat
  | .lit (.string bytes) => bytes.length + 1
  | .lit _ => 1
  | .nil => 1
  | .ptr d => uptoBulk d + 1
  | .slice elems spare => uptoBulkAll elems + uptoBulkAll spare + 1
  | .agg parts => uptoBulkAll parts + 1
  | .iface _ d => uptoBulk d + 1
  | .map entries => uptoBulkEntries entries + 1
  | .held _ => 1
def uptoBulkAll {H : Type} : List (DataW H) → Nat
  | [] => 0
  | d :: r => uptoBulk d + uptoBulkAll r
def uptoBulkEntries {H : Type} : List (Lit × DataW H) → Nat
  | [] => 0
  | x :: r => uptoBulkEntry x + uptoBulkEntries r
def uptoBulkEntry {H : Type} : Lit × DataW H → Nat
  | (.string bytes, d) => bytes.length + uptoBulk d + 1
  | (_, d) => uptoBulk d + 1
 end
def uptoSmall : (H : Type) → List (DataW H) → Bool := fun _ ds => decide (uptoBulkAll ds ≤ 1048576)
def OpenSpec.upto (s : _root_.Go.ChangeSpec) : _root_.Go.OpenSpec := { _root_.Go.OpenSpec.ofChange s with cond := some uptoSmall }

/-- 'laws.FnBallotPart', WHERE WHAT IT READS IS OF BULK AT MOST 1048576: true; the input reads as it did. -/
def fnBallotPartUptoRow : OpenClaim := { program := "ytpiajeibfggpiaa", sum := "aa73ff148e6641b02ce05fe9696f6d15e11d17cf4f88112d2aedc4b58bd0696f", func := "loop.example/tallyaudit/laws.FnBallotPart", spec := "fnBallotPart", apart := false, narrowed := true }
def FnBallotPartUptoSaid : Prop := fnBallotPartUptoRow.holds Try.pinned (OpenSpec.upto fnBallotPartSpec)

/-- 'laws.FnLotsAll', WHERE WHAT IT READS IS OF BULK AT MOST 1048576: true; the input reads as it did. -/
def fnLotsAllUptoRow : OpenClaim := { program := "ytpiajeibfggpiaa", sum := "aa73ff148e6641b02ce05fe9696f6d15e11d17cf4f88112d2aedc4b58bd0696f", func := "loop.example/tallyaudit/laws.FnLotsAll", spec := "fnLotsAll", apart := false, narrowed := true }
def FnLotsAllUptoSaid : Prop := fnLotsAllUptoRow.holds Try.pinned (OpenSpec.upto fnLotsAllSpec)

/-- 'laws.FnLotsMore', WHERE WHAT IT READS IS OF BULK AT MOST 1048576: true; the input reads as it did. -/
def fnLotsMoreUptoRow : OpenClaim := { program := "ytpiajeibfggpiaa", sum := "aa73ff148e6641b02ce05fe9696f6d15e11d17cf4f88112d2aedc4b58bd0696f", func := "loop.example/tallyaudit/laws.FnLotsMore", spec := "fnLotsMore", apart := false, narrowed := true }
def FnLotsMoreUptoSaid : Prop := fnLotsMoreUptoRow.holds Try.pinned (OpenSpec.upto fnLotsMoreSpec)

/-- 'laws.FnLotsPart', WHERE WHAT IT READS IS OF BULK AT MOST 1048576: true; the input reads as it did. -/
def fnLotsPartUptoRow : OpenClaim := { program := "ytpiajeibfggpiaa", sum := "aa73ff148e6641b02ce05fe9696f6d15e11d17cf4f88112d2aedc4b58bd0696f", func := "loop.example/tallyaudit/laws.FnLotsPart", spec := "fnLotsPart", apart := false, narrowed := true }
def FnLotsPartUptoSaid : Prop := fnLotsPartUptoRow.holds Try.pinned (OpenSpec.upto fnLotsPartSpec)

/-- 'laws.FnBallotPrefers', WHERE WHAT IT READS IS OF BULK AT MOST 1048576: true; the input reads as it did. -/
def fnBallotPrefersUptoRow : OpenClaim := { program := "ytpiajeibfggpiaa", sum := "aa73ff148e6641b02ce05fe9696f6d15e11d17cf4f88112d2aedc4b58bd0696f", func := "loop.example/tallyaudit/laws.FnBallotPrefers", spec := "fnBallotPrefers", apart := false, narrowed := true }
def FnBallotPrefersUptoSaid : Prop := fnBallotPrefersUptoRow.holds Try.pinned (OpenSpec.upto fnBallotPrefersSpec)

/-- 'laws.FnLots', WHERE WHAT IT READS IS OF BULK AT MOST 1048576: true; the input reads as it did. -/
def fnLotsUptoRow : OpenClaim := { program := "ytpiajeibfggpiaa", sum := "aa73ff148e6641b02ce05fe9696f6d15e11d17cf4f88112d2aedc4b58bd0696f", func := "loop.example/tallyaudit/laws.FnLots", spec := "fnLots", apart := false, narrowed := true }
def FnLotsUptoSaid : Prop := fnLotsUptoRow.holds Try.pinned (OpenSpec.upto fnLotsSpec)

/-- 'laws.FnBallotFirst', WHERE WHAT IT READS IS OF BULK AT MOST 1048576: true; the input reads as it did. -/
def fnBallotFirstUptoRow : OpenClaim := { program := "ytpiajeibfggpiaa", sum := "aa73ff148e6641b02ce05fe9696f6d15e11d17cf4f88112d2aedc4b58bd0696f", func := "loop.example/tallyaudit/laws.FnBallotFirst", spec := "fnBallotFirst", apart := false, narrowed := true }
def FnBallotFirstUptoSaid : Prop := fnBallotFirstUptoRow.holds Try.pinned (OpenSpec.upto fnBallotFirstSpec)

/-- 'laws.FnBallotPrefersAll', WHERE WHAT IT READS IS OF BULK AT MOST 1048576: true; the input reads as it did. -/
def fnBallotPrefersAllUptoRow : OpenClaim := { program := "ytpiajeibfggpiaa", sum := "aa73ff148e6641b02ce05fe9696f6d15e11d17cf4f88112d2aedc4b58bd0696f", func := "loop.example/tallyaudit/laws.FnBallotPrefersAll", spec := "fnBallotPrefersAll", apart := false, narrowed := true }
def FnBallotPrefersAllUptoSaid : Prop := fnBallotPrefersAllUptoRow.holds Try.pinned (OpenSpec.upto fnBallotPrefersAllSpec)

/-- 'laws.FnBallotText', WHERE WHAT IT READS IS OF BULK AT MOST 1048576: true; the input reads as it did. -/
def fnBallotTextUptoRow : OpenClaim := { program := "ytpiajeibfggpiaa", sum := "aa73ff148e6641b02ce05fe9696f6d15e11d17cf4f88112d2aedc4b58bd0696f", func := "loop.example/tallyaudit/laws.FnBallotText", spec := "fnBallotText", apart := false, narrowed := true }
def FnBallotTextUptoSaid : Prop := fnBallotTextUptoRow.holds Try.pinned (OpenSpec.upto fnBallotTextSpec)

/-- 'laws.FnBallotTwice', WHERE WHAT IT READS IS OF BULK AT MOST 1048576: true; the input reads as it did. -/
def fnBallotTwiceUptoRow : OpenClaim := { program := "ytpiajeibfggpiaa", sum := "aa73ff148e6641b02ce05fe9696f6d15e11d17cf4f88112d2aedc4b58bd0696f", func := "loop.example/tallyaudit/laws.FnBallotTwice", spec := "fnBallotTwice", apart := false, narrowed := true }
def FnBallotTwiceUptoSaid : Prop := fnBallotTwiceUptoRow.holds Try.pinned (OpenSpec.upto fnBallotTwiceSpec)

/-- 'laws.FnLotsFirst', WHERE WHAT IT READS IS OF BULK AT MOST 1048576: true; the input reads as it did. -/
def fnLotsFirstUptoRow : OpenClaim := { program := "ytpiajeibfggpiaa", sum := "aa73ff148e6641b02ce05fe9696f6d15e11d17cf4f88112d2aedc4b58bd0696f", func := "loop.example/tallyaudit/laws.FnLotsFirst", spec := "fnLotsFirst", apart := false, narrowed := true }
def FnLotsFirstUptoSaid : Prop := fnLotsFirstUptoRow.holds Try.pinned (OpenSpec.upto fnLotsFirstSpec)

/-- 'laws.FnBallotParse', WHERE WHAT IT READS IS OF BULK AT MOST 1048576: true; the input reads as it did. -/
def fnBallotParseUptoRow : OpenClaim := { program := "ytpiajeibfggpiaa", sum := "aa73ff148e6641b02ce05fe9696f6d15e11d17cf4f88112d2aedc4b58bd0696f", func := "loop.example/tallyaudit/laws.FnBallotParse", spec := "fnBallotParse", apart := false, narrowed := true }
def FnBallotParseUptoSaid : Prop := fnBallotParseUptoRow.holds Try.pinned (OpenSpec.upto fnBallotParseSpec)

end Rows
end Go.Proofs.Ytpiajeibfggpiaa
