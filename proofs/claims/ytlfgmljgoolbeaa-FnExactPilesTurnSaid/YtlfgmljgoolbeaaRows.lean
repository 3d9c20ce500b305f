/-
  No cell of these rows narrows 'for every input' (looked for: loops, veiled, ifaces, maps, wideKeys, modest, calm, conditions, laid).
  DERIVED. THE GIVEN ROWS OF THIS SEAT. 13 by the template 'for every input the law returns true; each argument reads behind the call as it read before'; 0 by the template 'total and deterministic' (their statements: YtlfgmljgoolbeaaTotals.lean).
  GIVEN WITH THE SEED: the statements are not yours to turn. If you find one false, say at which input.
  Laid BY PROGRAM, IN A SANDBOX (cutbox-rows.mjs): the forced cells as the released guide's own fill.sh prints them over the translation 0bba55d45857ba80… (all of the seat's roots in one cut). By AI agents, Wed Nov 11 2026. No macro, syntax, notation, axiom, sorry.
-/
import Derived.Test.YtlfgmljgoolbeaaChecked
import GoSem.Claim
import GoSem.ClaimJoined
import GoSem.ClaimMapViews
import Derived.JoinedTies
import Derived.KernelRfl
namespace Go.Proofs.Ytlfgmljgoolbeaa
/- THE CELL 'sum', in the pinned program and in every row, IS THE sha256 OF THE DUMP (.gsa) THAT YtlfgmljgoolbeaaProg.lean LOADS. Nothing in Lean hashes anything: it is a label: what it is worth is what the hold of that sum in a sandbox is worth. -/
noncomputable def Try.pinned : Pinned := { name := "ytlfgmljgoolbeaa", sum := "0bba55d45857ba80040d95ef61d6fbc16d945304ec9581f000686fa55a4fc6a7", checked := Try.checked }
namespace Rows
def none {H : Type} : Left H := { results := [], args := [] }

/-- 'laws.FnPilesMerge': WHATEVER THE INPUT: true; the input reads as it did. -/
def fnPilesMergeSpec : ChangeSpec := { name := "fnPilesMerge", fn := fun _ => fun
  | [d] => { results := [.lit (.bool true)], args := [d] }
  | _ => none }
def fnPilesMergeRow : OpenClaim := { program := "ytlfgmljgoolbeaa", sum := "0bba55d45857ba80040d95ef61d6fbc16d945304ec9581f000686fa55a4fc6a7", func := "loop.example/tallyaudit/laws.FnPilesMerge", spec := "fnPilesMerge", unfollowed := true, recurses := true, apart := false }
def FnPilesMergeSaid : Prop := fnPilesMergeRow.holds Try.pinned (OpenSpec.ofChange fnPilesMergeSpec)

/-- ITS FALSE NEIGHBOUR: 'it returns false'. Refute it at one input. -/
def fnPilesMergeWrong : ChangeSpec := { name := "fnPilesMerge", fn := fun _ => fun
  | [d] => { results := [.lit (.bool false)], args := [d] }
  | _ => none }
def FnPilesMergeWrongFalsely : Prop := fnPilesMergeRow.holds Try.pinned (OpenSpec.ofChange fnPilesMergeWrong)

/-- 'laws.FnExactPilesTurn': WHATEVER THE INPUT: true; the input reads as it did. -/
def fnExactPilesTurnSpec : ChangeSpec := { name := "fnExactPilesTurn", fn := fun _ => fun
  | [d1, d2, d3] => { results := [.lit (.bool true)], args := [d1, d2, d3] }
  | _ => none }
def fnExactPilesTurnRow : OpenClaim := { program := "ytlfgmljgoolbeaa", sum := "0bba55d45857ba80040d95ef61d6fbc16d945304ec9581f000686fa55a4fc6a7", func := "loop.example/tallyaudit/laws.FnExactPilesTurn", spec := "fnExactPilesTurn", unfollowed := true, recurses := true, apart := false }
def FnExactPilesTurnSaid : Prop := fnExactPilesTurnRow.holds Try.pinned (OpenSpec.ofChange fnExactPilesTurnSpec)

/-- ITS FALSE NEIGHBOUR: 'it returns false'. Refute it at one input. -/
def fnExactPilesTurnWrong : ChangeSpec := { name := "fnExactPilesTurn", fn := fun _ => fun
  | [d1, d2, d3] => { results := [.lit (.bool false)], args := [d1, d2, d3] }
  | _ => none }
def FnExactPilesTurnWrongFalsely : Prop := fnExactPilesTurnRow.holds Try.pinned (OpenSpec.ofChange fnExactPilesTurnWrong)

/-- 'laws.FnPilesTurn': WHATEVER THE INPUT: true; the input reads as it did. -/
def fnPilesTurnSpec : ChangeSpec := { name := "fnPilesTurn", fn := fun _ => fun
  | [d] => { results := [.lit (.bool true)], args := [d] }
  | _ => none }
def fnPilesTurnRow : OpenClaim := { program := "ytlfgmljgoolbeaa", sum := "0bba55d45857ba80040d95ef61d6fbc16d945304ec9581f000686fa55a4fc6a7", func := "loop.example/tallyaudit/laws.FnPilesTurn", spec := "fnPilesTurn", unfollowed := true, recurses := true, apart := false }
def FnPilesTurnSaid : Prop := fnPilesTurnRow.holds Try.pinned (OpenSpec.ofChange fnPilesTurnSpec)

/-- ITS FALSE NEIGHBOUR: 'it returns false'. Refute it at one input. -/
def fnPilesTurnWrong : ChangeSpec := { name := "fnPilesTurn", fn := fun _ => fun
  | [d] => { results := [.lit (.bool false)], args := [d] }
  | _ => none }
def FnPilesTurnWrongFalsely : Prop := fnPilesTurnRow.holds Try.pinned (OpenSpec.ofChange fnPilesTurnWrong)

/-- 'laws.FnExactPilesValid': WHATEVER THE INPUT: true; the input reads as it did. -/
def fnExactPilesValidSpec : ChangeSpec := { name := "fnExactPilesValid", fn := fun _ => fun
  | [d] => { results := [.lit (.bool true)], args := [d] }
  | _ => none }
def fnExactPilesValidRow : OpenClaim := { program := "ytlfgmljgoolbeaa", sum := "0bba55d45857ba80040d95ef61d6fbc16d945304ec9581f000686fa55a4fc6a7", func := "loop.example/tallyaudit/laws.FnExactPilesValid", spec := "fnExactPilesValid", apart := false }
def FnExactPilesValidSaid : Prop := fnExactPilesValidRow.holds Try.pinned (OpenSpec.ofChange fnExactPilesValidSpec)

/-- ITS FALSE NEIGHBOUR: 'it returns false'. Refute it at one input. -/
def fnExactPilesValidWrong : ChangeSpec := { name := "fnExactPilesValid", fn := fun _ => fun
  | [d] => { results := [.lit (.bool false)], args := [d] }
  | _ => none }
def FnExactPilesValidWrongFalsely : Prop := fnExactPilesValidRow.holds Try.pinned (OpenSpec.ofChange fnExactPilesValidWrong)

/-- 'laws.FnExactPilesTotal': WHATEVER THE INPUT: true; the input reads as it did. -/
def fnExactPilesTotalSpec : ChangeSpec := { name := "fnExactPilesTotal", fn := fun _ => fun
  | [d] => { results := [.lit (.bool true)], args := [d] }
  | _ => none }
def fnExactPilesTotalRow : OpenClaim := { program := "ytlfgmljgoolbeaa", sum := "0bba55d45857ba80040d95ef61d6fbc16d945304ec9581f000686fa55a4fc6a7", func := "loop.example/tallyaudit/laws.FnExactPilesTotal", spec := "fnExactPilesTotal", apart := false }
def FnExactPilesTotalSaid : Prop := fnExactPilesTotalRow.holds Try.pinned (OpenSpec.ofChange fnExactPilesTotalSpec)

/-- ITS FALSE NEIGHBOUR: 'it returns false'. Refute it at one input. -/
def fnExactPilesTotalWrong : ChangeSpec := { name := "fnExactPilesTotal", fn := fun _ => fun
  | [d] => { results := [.lit (.bool false)], args := [d] }
  | _ => none }
def FnExactPilesTotalWrongFalsely : Prop := fnExactPilesTotalRow.holds Try.pinned (OpenSpec.ofChange fnExactPilesTotalWrong)

/-- 'laws.FnPilesPart': WHATEVER THE INPUT: true; the input reads as it did. -/
def fnPilesPartSpec : ChangeSpec := { name := "fnPilesPart", fn := fun _ => fun
  | [d1, d2] => { results := [.lit (.bool true)], args := [d1, d2] }
  | _ => none }
def fnPilesPartRow : OpenClaim := { program := "ytlfgmljgoolbeaa", sum := "0bba55d45857ba80040d95ef61d6fbc16d945304ec9581f000686fa55a4fc6a7", func := "loop.example/tallyaudit/laws.FnPilesPart", spec := "fnPilesPart", apart := false }
def FnPilesPartSaid : Prop := fnPilesPartRow.holds Try.pinned (OpenSpec.ofChange fnPilesPartSpec)

/-- ITS FALSE NEIGHBOUR: 'it returns false'. Refute it at one input. -/
def fnPilesPartWrong : ChangeSpec := { name := "fnPilesPart", fn := fun _ => fun
  | [d1, d2] => { results := [.lit (.bool false)], args := [d1, d2] }
  | _ => none }
def FnPilesPartWrongFalsely : Prop := fnPilesPartRow.holds Try.pinned (OpenSpec.ofChange fnPilesPartWrong)

/-- 'laws.FnPilesTotal': WHATEVER THE INPUT: true; the input reads as it did. -/
def fnPilesTotalSpec : ChangeSpec := { name := "fnPilesTotal", fn := fun _ => fun
  | [d] => { results := [.lit (.bool true)], args := [d] }
  | _ => none }
def fnPilesTotalRow : OpenClaim := { program := "ytlfgmljgoolbeaa", sum := "0bba55d45857ba80040d95ef61d6fbc16d945304ec9581f000686fa55a4fc6a7", func := "loop.example/tallyaudit/laws.FnPilesTotal", spec := "fnPilesTotal", apart := false }
def FnPilesTotalSaid : Prop := fnPilesTotalRow.holds Try.pinned (OpenSpec.ofChange fnPilesTotalSpec)

/-- ITS FALSE NEIGHBOUR: 'it returns false'. Refute it at one input. -/
def fnPilesTotalWrong : ChangeSpec := { name := "fnPilesTotal", fn := fun _ => fun
  | [d] => { results := [.lit (.bool false)], args := [d] }
  | _ => none }
def FnPilesTotalWrongFalsely : Prop := fnPilesTotalRow.holds Try.pinned (OpenSpec.ofChange fnPilesTotalWrong)

/-- 'laws.FnExactPilesAdd': WHATEVER THE INPUT: true; the input reads as it did. -/
def fnExactPilesAddSpec : ChangeSpec := { name := "fnExactPilesAdd", fn := fun _ => fun
  | [d1, d2, d3] => { results := [.lit (.bool true)], args := [d1, d2, d3] }
  | _ => none }
def fnExactPilesAddRow : OpenClaim := { program := "ytlfgmljgoolbeaa", sum := "0bba55d45857ba80040d95ef61d6fbc16d945304ec9581f000686fa55a4fc6a7", func := "loop.example/tallyaudit/laws.FnExactPilesAdd", spec := "fnExactPilesAdd", unfollowed := true, recurses := true, apart := false }
def FnExactPilesAddSaid : Prop := fnExactPilesAddRow.holds Try.pinned (OpenSpec.ofChange fnExactPilesAddSpec)

/-- ITS FALSE NEIGHBOUR: 'it returns false'. Refute it at one input. -/
def fnExactPilesAddWrong : ChangeSpec := { name := "fnExactPilesAdd", fn := fun _ => fun
  | [d1, d2, d3] => { results := [.lit (.bool false)], args := [d1, d2, d3] }
  | _ => none }
def FnExactPilesAddWrongFalsely : Prop := fnExactPilesAddRow.holds Try.pinned (OpenSpec.ofChange fnExactPilesAddWrong)

/-- 'laws.FnExactPilesMerge': WHATEVER THE INPUT: true; the input reads as it did. -/
def fnExactPilesMergeSpec : ChangeSpec := { name := "fnExactPilesMerge", fn := fun _ => fun
  | [d1, d2] => { results := [.lit (.bool true)], args := [d1, d2] }
  | _ => none }
def fnExactPilesMergeRow : OpenClaim := { program := "ytlfgmljgoolbeaa", sum := "0bba55d45857ba80040d95ef61d6fbc16d945304ec9581f000686fa55a4fc6a7", func := "loop.example/tallyaudit/laws.FnExactPilesMerge", spec := "fnExactPilesMerge", unfollowed := true, recurses := true, apart := false }
def FnExactPilesMergeSaid : Prop := fnExactPilesMergeRow.holds Try.pinned (OpenSpec.ofChange fnExactPilesMergeSpec)

/-- ITS FALSE NEIGHBOUR: 'it returns false'. Refute it at one input. -/
def fnExactPilesMergeWrong : ChangeSpec := { name := "fnExactPilesMerge", fn := fun _ => fun
  | [d1, d2] => { results := [.lit (.bool false)], args := [d1, d2] }
  | _ => none }
def FnExactPilesMergeWrongFalsely : Prop := fnExactPilesMergeRow.holds Try.pinned (OpenSpec.ofChange fnExactPilesMergeWrong)

/-- 'laws.FnPilesAddTwo': WHATEVER THE INPUT: true; the input reads as it did. -/
def fnPilesAddTwoSpec : ChangeSpec := { name := "fnPilesAddTwo", fn := fun _ => fun
  | [d1, d2] => { results := [.lit (.bool true)], args := [d1, d2] }
  | _ => none }
def fnPilesAddTwoRow : OpenClaim := { program := "ytlfgmljgoolbeaa", sum := "0bba55d45857ba80040d95ef61d6fbc16d945304ec9581f000686fa55a4fc6a7", func := "loop.example/tallyaudit/laws.FnPilesAddTwo", spec := "fnPilesAddTwo", unfollowed := true, recurses := true, apart := false }
def FnPilesAddTwoSaid : Prop := fnPilesAddTwoRow.holds Try.pinned (OpenSpec.ofChange fnPilesAddTwoSpec)

/-- ITS FALSE NEIGHBOUR: 'it returns false'. Refute it at one input. -/
def fnPilesAddTwoWrong : ChangeSpec := { name := "fnPilesAddTwo", fn := fun _ => fun
  | [d1, d2] => { results := [.lit (.bool false)], args := [d1, d2] }
  | _ => none }
def FnPilesAddTwoWrongFalsely : Prop := fnPilesAddTwoRow.holds Try.pinned (OpenSpec.ofChange fnPilesAddTwoWrong)

/-- 'laws.FnPilesMergeParts': WHATEVER THE INPUT: true; the input reads as it did. -/
def fnPilesMergePartsSpec : ChangeSpec := { name := "fnPilesMergeParts", fn := fun _ => fun
  | [d1, d2] => { results := [.lit (.bool true)], args := [d1, d2] }
  | _ => none }
def fnPilesMergePartsRow : OpenClaim := { program := "ytlfgmljgoolbeaa", sum := "0bba55d45857ba80040d95ef61d6fbc16d945304ec9581f000686fa55a4fc6a7", func := "loop.example/tallyaudit/laws.FnPilesMergeParts", spec := "fnPilesMergeParts", unfollowed := true, recurses := true, apart := false }
def FnPilesMergePartsSaid : Prop := fnPilesMergePartsRow.holds Try.pinned (OpenSpec.ofChange fnPilesMergePartsSpec)

/-- ITS FALSE NEIGHBOUR: 'it returns false'. Refute it at one input. -/
def fnPilesMergePartsWrong : ChangeSpec := { name := "fnPilesMergeParts", fn := fun _ => fun
  | [d1, d2] => { results := [.lit (.bool false)], args := [d1, d2] }
  | _ => none }
def FnPilesMergePartsWrongFalsely : Prop := fnPilesMergePartsRow.holds Try.pinned (OpenSpec.ofChange fnPilesMergePartsWrong)

/-- 'laws.FnPilesAdd': WHATEVER THE INPUT: true; the input reads as it did. -/
def fnPilesAddSpec : ChangeSpec := { name := "fnPilesAdd", fn := fun _ => fun
  | [d] => { results := [.lit (.bool true)], args := [d] }
  | _ => none }
def fnPilesAddRow : OpenClaim := { program := "ytlfgmljgoolbeaa", sum := "0bba55d45857ba80040d95ef61d6fbc16d945304ec9581f000686fa55a4fc6a7", func := "loop.example/tallyaudit/laws.FnPilesAdd", spec := "fnPilesAdd", unfollowed := true, recurses := true, apart := false }
def FnPilesAddSaid : Prop := fnPilesAddRow.holds Try.pinned (OpenSpec.ofChange fnPilesAddSpec)

/-- ITS FALSE NEIGHBOUR: 'it returns false'. Refute it at one input. -/
def fnPilesAddWrong : ChangeSpec := { name := "fnPilesAdd", fn := fun _ => fun
  | [d] => { results := [.lit (.bool false)], args := [d] }
  | _ => none }
def FnPilesAddWrongFalsely : Prop := fnPilesAddRow.holds Try.pinned (OpenSpec.ofChange fnPilesAddWrong)

/-- 'laws.FnPilesMergeAdd': WHATEVER THE INPUT: true; the input reads as it did. -/
def fnPilesMergeAddSpec : ChangeSpec := { name := "fnPilesMergeAdd", fn := fun _ => fun
  | [d] => { results := [.lit (.bool true)], args := [d] }
  | _ => none }
def fnPilesMergeAddRow : OpenClaim := { program := "ytlfgmljgoolbeaa", sum := "0bba55d45857ba80040d95ef61d6fbc16d945304ec9581f000686fa55a4fc6a7", func := "loop.example/tallyaudit/laws.FnPilesMergeAdd", spec := "fnPilesMergeAdd", unfollowed := true, recurses := true, apart := false }
def FnPilesMergeAddSaid : Prop := fnPilesMergeAddRow.holds Try.pinned (OpenSpec.ofChange fnPilesMergeAddSpec)

/-- ITS FALSE NEIGHBOUR: 'it returns false'. Refute it at one input. -/
def fnPilesMergeAddWrong : ChangeSpec := { name := "fnPilesMergeAdd", fn := fun _ => fun
  | [d] => { results := [.lit (.bool false)], args := [d] }
  | _ => none }
def FnPilesMergeAddWrongFalsely : Prop := fnPilesMergeAddRow.holds Try.pinned (OpenSpec.ofChange fnPilesMergeAddWrong)

/- THE SECOND FORM. 'bulk': how many values and letters a reading holds, each counted each time it is reached (what is shared counts as often as it is met; a slice's spare places count too). A statement '..UptoSaid' is the law's where the arguments, and the package variables that the reading takes, are together of bulk at most 1048576: NARROWER than '..Said'. Prove '..Said' where nothing that the law and all that it calls make is longer than what came in: it says more and counts as full. Else prove '..UptoSaid'. A law counts once. -/
mutual
def uptoBulk {H : Type} : DataW H → Nat
  | .lit (.string bytes) => bytes.length + 1
  | .lit _ => 1
  | .nil => 1
  | .ptr d => uptoBulk d + 1
  | .slice elems spare => uptoBulkAll elems + uptoBulkAll spare + 1
  | .agg parts => uptoBulkAll parts + 1
  | .iface _ d => uptoBulk d + 1
  | .map entries => uptoBulkEntries entries + 1
  | .held _ => 1
def uptoBulkAll {H : Type} : List (DataW H) → Nat
  | [] => 0
  | d :: r => uptoBulk d + uptoBulkAll r
def uptoBulkEntries {H : Type} : List (Lit × DataW H) → Nat
  | [] => 0
  | x :: r => uptoBulkEntry x + uptoBulkEntries r
def uptoBulkEntry {H : Type} : Lit × DataW H → Nat
  | (.string bytes, d) => bytes.length + uptoBulk d + 1
  | (_, d) => uptoBulk d + 1
 end
def uptoSmall : (H : Type) → List (DataW H) → Bool := fun _ ds => decide (uptoBulkAll ds ≤ 1048576)
def OpenSpec.upto (s : _root_.Go.ChangeSpec) : _root_.Go.OpenSpec := { _root_.Go.OpenSpec.ofChange s with cond := some uptoSmall }

/-- 'laws.FnPilesMerge', WHERE WHAT IT READS IS OF BULK AT MOST 1048576: true; the input reads as it did. -/
def fnPilesMergeUptoRow : OpenClaim := { program := "ytlfgmljgoolbeaa", sum := "0bba55d45857ba80040d95ef61d6fbc16d945304ec9581f000686fa55a4fc6a7", func := "loop.example/tallyaudit/laws.FnPilesMerge", spec := "fnPilesMerge", unfollowed := true, recurses := true, apart := false, narrowed := true }
def FnPilesMergeUptoSaid : Prop := fnPilesMergeUptoRow.holds Try.pinned (OpenSpec.upto fnPilesMergeSpec)

/-- 'laws.FnExactPilesTurn', WHERE WHAT IT READS IS OF BULK AT MOST 1048576: true; the input reads as it did. -/
def fnExactPilesTurnUptoRow : OpenClaim := { program := "ytlfgmljgoolbeaa", sum := "0bba55d45857ba80040d95ef61d6fbc16d945304ec9581f000686fa55a4fc6a7", func := "loop.example/tallyaudit/laws.FnExactPilesTurn", spec := "fnExactPilesTurn", unfollowed := true, recurses := true, apart := false, narrowed := true }
def FnExactPilesTurnUptoSaid : Prop := fnExactPilesTurnUptoRow.holds Try.pinned (OpenSpec.upto fnExactPilesTurnSpec)

/-- 'laws.FnPilesTurn', WHERE WHAT IT READS IS OF BULK AT MOST 1048576: true; the input reads as it did. -/
def fnPilesTurnUptoRow : OpenClaim := { program := "ytlfgmljgoolbeaa", sum := "0bba55d45857ba80040d95ef61d6fbc16d945304ec9581f000686fa55a4fc6a7", func := "loop.example/tallyaudit/laws.FnPilesTurn", spec := "fnPilesTurn", unfollowed := true, recurses := true, apart := false, narrowed := true }
def FnPilesTurnUptoSaid : Prop := fnPilesTurnUptoRow.holds Try.pinned (OpenSpec.upto fnPilesTurnSpec)

/-- 'laws.FnExactPilesValid', WHERE WHAT IT READS IS OF BULK AT MOST 1048576: true; the input reads as it did. -/
def fnExactPilesValidUptoRow : OpenClaim := { program := "ytlfgmljgoolbeaa", sum := "0bba55d45857ba80040d95ef61d6fbc16d945304ec9581f000686fa55a4fc6a7", func := "loop.example/tallyaudit/laws.FnExactPilesValid", spec := "fnExactPilesValid", apart := false, narrowed := true }
def FnExactPilesValidUptoSaid : Prop := fnExactPilesValidUptoRow.holds Try.pinned (OpenSpec.upto fnExactPilesValidSpec)

/-- 'laws.FnExactPilesTotal', WHERE WHAT IT READS IS OF BULK AT MOST 1048576: true; the input reads as it did. -/
def fnExactPilesTotalUptoRow : OpenClaim := { program := "ytlfgmljgoolbeaa", sum := "0bba55d45857ba80040d95ef61d6fbc16d945304ec9581f000686fa55a4fc6a7", func := "loop.example/tallyaudit/laws.FnExactPilesTotal", spec := "fnExactPilesTotal", apart := false, narrowed := true }
def FnExactPilesTotalUptoSaid : Prop := fnExactPilesTotalUptoRow.holds Try.pinned (OpenSpec.upto fnExactPilesTotalSpec)

/-- 'laws.FnPilesPart', WHERE WHAT IT READS IS OF BULK AT MOST 1048576: true; the input reads as it did. -/
def fnPilesPartUptoRow : OpenClaim := { program := "ytlfgmljgoolbeaa", sum := "0bba55d45857ba80040d95ef61d6fbc16d945304ec9581f000686fa55a4fc6a7", func := "loop.example/tallyaudit/laws.FnPilesPart", spec := "fnPilesPart", apart := false, narrowed := true }
def FnPilesPartUptoSaid : Prop := fnPilesPartUptoRow.holds Try.pinned (OpenSpec.upto fnPilesPartSpec)

/-- 'laws.FnPilesTotal', WHERE WHAT IT READS IS OF BULK AT MOST 1048576: true; the input reads as it did. -/
def fnPilesTotalUptoRow : OpenClaim := { program := "ytlfgmljgoolbeaa", sum := "0bba55d45857ba80040d95ef61d6fbc16d945304ec9581f000686fa55a4fc6a7", func := "loop.example/tallyaudit/laws.FnPilesTotal", spec := "fnPilesTotal", apart := false, narrowed := true }
def FnPilesTotalUptoSaid : Prop := fnPilesTotalUptoRow.holds Try.pinned (OpenSpec.upto fnPilesTotalSpec)

/-- 'laws.FnExactPilesAdd', WHERE WHAT IT READS IS OF BULK AT MOST 1048576: true; the input reads as it did. -/
def fnExactPilesAddUptoRow : OpenClaim := { program := "ytlfgmljgoolbeaa", sum := "0bba55d45857ba80040d95ef61d6fbc16d945304ec9581f000686fa55a4fc6a7", func := "loop.example/tallyaudit/laws.FnExactPilesAdd", spec := "fnExactPilesAdd", unfollowed := true, recurses := true, apart := false, narrowed := true }
def FnExactPilesAddUptoSaid : Prop := fnExactPilesAddUptoRow.holds Try.pinned (OpenSpec.upto fnExactPilesAddSpec)

/-- 'laws.FnExactPilesMerge', WHERE WHAT IT READS IS OF BULK AT MOST 1048576: true; the input reads as it did. -/
def fnExactPilesMergeUptoRow : OpenClaim := { program := "ytlfgmljgoolbeaa", sum := "0bba55d45857ba80040d95ef61d6fbc16d945304ec9581f000686fa55a4fc6a7", func := "loop.example/tallyaudit/laws.FnExactPilesMerge", spec := "fnExactPilesMerge", unfollowed := true, recurses := true, apart := false, narrowed := true }
def FnExactPilesMergeUptoSaid : Prop := fnExactPilesMergeUptoRow.holds Try.pinned (OpenSpec.upto fnExactPilesMergeSpec)

/-- 'laws.FnPilesAddTwo', WHERE WHAT IT READS IS OF BULK AT MOST 1048576: true; the input reads as it did. -/
def fnPilesAddTwoUptoRow : OpenClaim := { program := "ytlfgmljgoolbeaa", sum := "0bba55d45857ba80040d95ef61d6fbc16d945304ec9581f000686fa55a4fc6a7", func := "loop.example/tallyaudit/laws.FnPilesAddTwo", spec := "fnPilesAddTwo", unfollowed := true, recurses := true, apart := false, narrowed := true }
def FnPilesAddTwoUptoSaid : Prop := fnPilesAddTwoUptoRow.holds Try.pinned (OpenSpec.upto fnPilesAddTwoSpec)

/-- 'laws.FnPilesMergeParts', WHERE WHAT IT READS IS OF BULK AT MOST 1048576: true; the input reads as it did. -/
def fnPilesMergePartsUptoRow : OpenClaim := { program := "ytlfgmljgoolbeaa", sum := "0bba55d45857ba80040d95ef61d6fbc16d945304ec9581f000686fa55a4fc6a7", func := "loop.example/tallyaudit/laws.FnPilesMergeParts", spec := "fnPilesMergeParts", unfollowed := true, recurses := true, apart := false, narrowed := true }
def FnPilesMergePartsUptoSaid : Prop := fnPilesMergePartsUptoRow.holds Try.pinned (OpenSpec.upto fnPilesMergePartsSpec)

/-- 'laws.FnPilesAdd', WHERE WHAT IT READS IS OF BULK AT MOST 1048576: true; the input reads as it did. -/
def fnPilesAddUptoRow : OpenClaim := { program := "ytlfgmljgoolbeaa", sum := "0bba55d45857ba80040d95ef61d6fbc16d945304ec9581f000686fa55a4fc6a7", func := "loop.example/tallyaudit/laws.FnPilesAdd", spec := "fnPilesAdd", unfollowed := true, recurses := true, apart := false, narrowed := true }
def FnPilesAddUptoSaid : Prop := fnPilesAddUptoRow.holds Try.pinned (OpenSpec.upto fnPilesAddSpec)

/-- 'laws.FnPilesMergeAdd', WHERE WHAT IT READS IS OF BULK AT MOST 1048576: true; the input reads as it did. -/
def fnPilesMergeAddUptoRow : OpenClaim := { program := "ytlfgmljgoolbeaa", sum := "0bba55d45857ba80040d95ef61d6fbc16d945304ec9581f000686fa55a4fc6a7", func := "loop.example/tallyaudit/laws.FnPilesMergeAdd", spec := "fnPilesMergeAdd", unfollowed := true, recurses := true, apart := false, narrowed := true }
def FnPilesMergeAddUptoSaid : Prop := fnPilesMergeAddUptoRow.holds Try.pinned (OpenSpec.upto fnPilesMergeAddSpec)

end Rows
end Go.Proofs.Ytlfgmljgoolbeaa
