/-
  No cell of these rows narrows 'for every input' (looked for: loops, veiled, ifaces, maps, wideKeys, modest, calm, conditions, laid).
  DERIVED. THE GIVEN ROWS OF THIS SEAT. 13 by the template 'for every input the law returns true; each argument reads behind the call as it read before'; 0 by the template 'total and deterministic' (their statements: YtchiiiahgmfofaaTotals.lean).
  GIVEN WITH THE SEED: the statements are not yours to turn. If you find one false, say at which input.
  Laid BY PROGRAM, IN A SANDBOX (cutbox-rows.mjs): the forced cells as the released guide's own fill.sh prints them over the translation b27a7d4b729a15a9… (all of the seat's roots in one cut). By AI agents, Wed Nov 11 2026. No macro, syntax, notation, axiom, sorry.
-/
import Derived.Test.YtchiiiahgmfofaaChecked
import GoSem.Claim
import GoSem.ClaimJoined
import GoSem.ClaimMapViews
import Derived.JoinedTies
import Derived.KernelRfl
namespace Go.Proofs.Ytchiiiahgmfofaa
/- THE CELL 'sum', in the pinned program and in every row, IS THE sha256 OF THE DUMP (.gsa) THAT YtchiiiahgmfofaaProg.lean LOADS. Nothing in Lean hashes anything: it is a label: what it is worth is what the hold of that sum in a sandbox is worth. -/
noncomputable def Try.pinned : Pinned := { name := "ytchiiiahgmfofaa", sum := "b27a7d4b729a15a9e113a026bbf4eaf54895de601ec4ad12aefee2c006b9ef09", checked := Try.checked }
namespace Rows
def none {H : Type} : Left H := { results := [], args := [] }

/-- 'additivelaw34.CombPaths': WHATEVER THE INPUT: true; the input reads as it did. -/
def combPathsSpec : ChangeSpec := { name := "combPaths", fn := fun _ => fun
  | [d1, d2, d3] => { results := [.lit (.bool true)], args := [d1, d2, d3] }
  | _ => none }
def combPathsRow : OpenClaim := { program := "ytchiiiahgmfofaa", sum := "b27a7d4b729a15a9e113a026bbf4eaf54895de601ec4ad12aefee2c006b9ef09", func := "additive/additivelaw34.CombPaths", spec := "combPaths", unfollowed := true, recurses := true, plainKeys := false, apart := false }
def CombPathsSaid : Prop := combPathsRow.holds Try.pinned (OpenSpec.ofChange combPathsSpec)

/-- ITS FALSE NEIGHBOUR: 'it returns false'. Refute it at one input. -/
def combPathsWrong : ChangeSpec := { name := "combPaths", fn := fun _ => fun
  | [d1, d2, d3] => { results := [.lit (.bool false)], args := [d1, d2, d3] }
  | _ => none }
def CombPathsWrongFalsely : Prop := combPathsRow.holds Try.pinned (OpenSpec.ofChange combPathsWrong)

/-- 'additivelaw34.CombStraight': WHATEVER THE INPUT: true; the input reads as it did. -/
def combStraightSpec : ChangeSpec := { name := "combStraight", fn := fun _ => fun
  | [d1, d2] => { results := [.lit (.bool true)], args := [d1, d2] }
  | _ => none }
def combStraightRow : OpenClaim := { program := "ytchiiiahgmfofaa", sum := "b27a7d4b729a15a9e113a026bbf4eaf54895de601ec4ad12aefee2c006b9ef09", func := "additive/additivelaw34.CombStraight", spec := "combStraight", unfollowed := true, recurses := true, plainKeys := false, apart := false }
def CombStraightSaid : Prop := combStraightRow.holds Try.pinned (OpenSpec.ofChange combStraightSpec)

/-- ITS FALSE NEIGHBOUR: 'it returns false'. Refute it at one input. -/
def combStraightWrong : ChangeSpec := { name := "combStraight", fn := fun _ => fun
  | [d1, d2] => { results := [.lit (.bool false)], args := [d1, d2] }
  | _ => none }
def CombStraightWrongFalsely : Prop := combStraightRow.holds Try.pinned (OpenSpec.ofChange combStraightWrong)

/-- 'additivelaw34.CombShortest': WHATEVER THE INPUT: true; the input reads as it did. -/
def combShortestSpec : ChangeSpec := { name := "combShortest", fn := fun _ => fun
  | [d1, d2, d3] => { results := [.lit (.bool true)], args := [d1, d2, d3] }
  | _ => none }
def combShortestRow : OpenClaim := { program := "ytchiiiahgmfofaa", sum := "b27a7d4b729a15a9e113a026bbf4eaf54895de601ec4ad12aefee2c006b9ef09", func := "additive/additivelaw34.CombShortest", spec := "combShortest", unfollowed := true, recurses := true, plainKeys := false, apart := false }
def CombShortestSaid : Prop := combShortestRow.holds Try.pinned (OpenSpec.ofChange combShortestSpec)

/-- ITS FALSE NEIGHBOUR: 'it returns false'. Refute it at one input. -/
def combShortestWrong : ChangeSpec := { name := "combShortest", fn := fun _ => fun
  | [d1, d2, d3] => { results := [.lit (.bool false)], args := [d1, d2, d3] }
  | _ => none }
def CombShortestWrongFalsely : Prop := combShortestRow.holds Try.pinned (OpenSpec.ofChange combShortestWrong)

/-- 'additivelaw34.CombSymmetry': WHATEVER THE INPUT: true; the input reads as it did. -/
def combSymmetrySpec : ChangeSpec := { name := "combSymmetry", fn := fun _ => fun
  | [d1, d2, d3] => { results := [.lit (.bool true)], args := [d1, d2, d3] }
  | _ => none }
def combSymmetryRow : OpenClaim := { program := "ytchiiiahgmfofaa", sum := "b27a7d4b729a15a9e113a026bbf4eaf54895de601ec4ad12aefee2c006b9ef09", func := "additive/additivelaw34.CombSymmetry", spec := "combSymmetry", unfollowed := true, recurses := true, plainKeys := false, apart := false }
def CombSymmetrySaid : Prop := combSymmetryRow.holds Try.pinned (OpenSpec.ofChange combSymmetrySpec)

/-- ITS FALSE NEIGHBOUR: 'it returns false'. Refute it at one input. -/
def combSymmetryWrong : ChangeSpec := { name := "combSymmetry", fn := fun _ => fun
  | [d1, d2, d3] => { results := [.lit (.bool false)], args := [d1, d2, d3] }
  | _ => none }
def CombSymmetryWrongFalsely : Prop := combSymmetryRow.holds Try.pinned (OpenSpec.ofChange combSymmetryWrong)

/-- 'additivelaw34.CombLines': WHATEVER THE INPUT: true; the input reads as it did. -/
def combLinesSpec : ChangeSpec := { name := "combLines", fn := fun _ => fun
  | [d1, d2] => { results := [.lit (.bool true)], args := [d1, d2] }
  | _ => none }
def combLinesRow : OpenClaim := { program := "ytchiiiahgmfofaa", sum := "b27a7d4b729a15a9e113a026bbf4eaf54895de601ec4ad12aefee2c006b9ef09", func := "additive/additivelaw34.CombLines", spec := "combLines", unfollowed := true, recurses := true, plainKeys := false, apart := false }
def CombLinesSaid : Prop := combLinesRow.holds Try.pinned (OpenSpec.ofChange combLinesSpec)

/-- ITS FALSE NEIGHBOUR: 'it returns false'. Refute it at one input. -/
def combLinesWrong : ChangeSpec := { name := "combLines", fn := fun _ => fun
  | [d1, d2] => { results := [.lit (.bool false)], args := [d1, d2] }
  | _ => none }
def CombLinesWrongFalsely : Prop := combLinesRow.holds Try.pinned (OpenSpec.ofChange combLinesWrong)

/-- 'additivelaw34.CombTurns': WHATEVER THE INPUT: true; the input reads as it did. -/
def combTurnsSpec : ChangeSpec := { name := "combTurns", fn := fun _ => fun
  | [d] => { results := [.lit (.bool true)], args := [d] }
  | _ => none }
def combTurnsRow : OpenClaim := { program := "ytchiiiahgmfofaa", sum := "b27a7d4b729a15a9e113a026bbf4eaf54895de601ec4ad12aefee2c006b9ef09", func := "additive/additivelaw34.CombTurns", spec := "combTurns", unfollowed := true, recurses := true, plainKeys := false, apart := false }
def CombTurnsSaid : Prop := combTurnsRow.holds Try.pinned (OpenSpec.ofChange combTurnsSpec)

/-- ITS FALSE NEIGHBOUR: 'it returns false'. Refute it at one input. -/
def combTurnsWrong : ChangeSpec := { name := "combTurns", fn := fun _ => fun
  | [d] => { results := [.lit (.bool false)], args := [d] }
  | _ => none }
def CombTurnsWrongFalsely : Prop := combTurnsRow.holds Try.pinned (OpenSpec.ofChange combTurnsWrong)

/-- 'additivelaw34.CombEasy': WHATEVER THE INPUT: true; the input reads as it did. -/
def combEasySpec : ChangeSpec := { name := "combEasy", fn := fun _ => fun
  | [d1, d2, d3] => { results := [.lit (.bool true)], args := [d1, d2, d3] }
  | _ => none }
def combEasyRow : OpenClaim := { program := "ytchiiiahgmfofaa", sum := "b27a7d4b729a15a9e113a026bbf4eaf54895de601ec4ad12aefee2c006b9ef09", func := "additive/additivelaw34.CombEasy", spec := "combEasy", unfollowed := true, recurses := true, plainKeys := false, apart := false }
def CombEasySaid : Prop := combEasyRow.holds Try.pinned (OpenSpec.ofChange combEasySpec)

/-- ITS FALSE NEIGHBOUR: 'it returns false'. Refute it at one input. -/
def combEasyWrong : ChangeSpec := { name := "combEasy", fn := fun _ => fun
  | [d1, d2, d3] => { results := [.lit (.bool false)], args := [d1, d2, d3] }
  | _ => none }
def CombEasyWrongFalsely : Prop := combEasyRow.holds Try.pinned (OpenSpec.ofChange combEasyWrong)

/-- 'additivelaw34.CombEasier': WHATEVER THE INPUT: true; the input reads as it did. -/
def combEasierSpec : ChangeSpec := { name := "combEasier", fn := fun _ => fun
  | [d1, d2, d3] => { results := [.lit (.bool true)], args := [d1, d2, d3] }
  | _ => none }
def combEasierRow : OpenClaim := { program := "ytchiiiahgmfofaa", sum := "b27a7d4b729a15a9e113a026bbf4eaf54895de601ec4ad12aefee2c006b9ef09", func := "additive/additivelaw34.CombEasier", spec := "combEasier", unfollowed := true, recurses := true, plainKeys := false, apart := false }
def CombEasierSaid : Prop := combEasierRow.holds Try.pinned (OpenSpec.ofChange combEasierSpec)

/-- ITS FALSE NEIGHBOUR: 'it returns false'. Refute it at one input. -/
def combEasierWrong : ChangeSpec := { name := "combEasier", fn := fun _ => fun
  | [d1, d2, d3] => { results := [.lit (.bool false)], args := [d1, d2, d3] }
  | _ => none }
def CombEasierWrongFalsely : Prop := combEasierRow.holds Try.pinned (OpenSpec.ofChange combEasierWrong)

/-- 'additivelaw40.EmitCommands': WHATEVER THE INPUT: true; the input reads as it did. -/
def emitCommandsSpec : ChangeSpec := { name := "emitCommands", fn := fun _ => fun
  | [d1, d2] => { results := [.lit (.bool true)], args := [d1, d2] }
  | _ => none }
def emitCommandsRow : OpenClaim := { program := "ytchiiiahgmfofaa", sum := "b27a7d4b729a15a9e113a026bbf4eaf54895de601ec4ad12aefee2c006b9ef09", func := "additive/additivelaw40.EmitCommands", spec := "emitCommands", unfollowed := true, recurses := true, plainKeys := false, apart := false }
def EmitCommandsSaid : Prop := emitCommandsRow.holds Try.pinned (OpenSpec.ofChange emitCommandsSpec)

/-- ITS FALSE NEIGHBOUR: 'it returns false'. Refute it at one input. -/
def emitCommandsWrong : ChangeSpec := { name := "emitCommands", fn := fun _ => fun
  | [d1, d2] => { results := [.lit (.bool false)], args := [d1, d2] }
  | _ => none }
def EmitCommandsWrongFalsely : Prop := emitCommandsRow.holds Try.pinned (OpenSpec.ofChange emitCommandsWrong)

/-- 'additivelaw40.EmitValid': WHATEVER THE INPUT: true; the input reads as it did. -/
def emitValidSpec : ChangeSpec := { name := "emitValid", fn := fun _ => fun
  | [d1, d2] => { results := [.lit (.bool true)], args := [d1, d2] }
  | _ => none }
def emitValidRow : OpenClaim := { program := "ytchiiiahgmfofaa", sum := "b27a7d4b729a15a9e113a026bbf4eaf54895de601ec4ad12aefee2c006b9ef09", func := "additive/additivelaw40.EmitValid", spec := "emitValid", unfollowed := true, recurses := true, plainKeys := false, apart := false }
def EmitValidSaid : Prop := emitValidRow.holds Try.pinned (OpenSpec.ofChange emitValidSpec)

/-- ITS FALSE NEIGHBOUR: 'it returns false'. Refute it at one input. -/
def emitValidWrong : ChangeSpec := { name := "emitValid", fn := fun _ => fun
  | [d1, d2] => { results := [.lit (.bool false)], args := [d1, d2] }
  | _ => none }
def EmitValidWrongFalsely : Prop := emitValidRow.holds Try.pinned (OpenSpec.ofChange emitValidWrong)

/-- 'additivelaw40.EmitFollows': WHATEVER THE INPUT: true; the input reads as it did. -/
def emitFollowsSpec : ChangeSpec := { name := "emitFollows", fn := fun _ => fun
  | [d1, d2] => { results := [.lit (.bool true)], args := [d1, d2] }
  | _ => none }
def emitFollowsRow : OpenClaim := { program := "ytchiiiahgmfofaa", sum := "b27a7d4b729a15a9e113a026bbf4eaf54895de601ec4ad12aefee2c006b9ef09", func := "additive/additivelaw40.EmitFollows", spec := "emitFollows", unfollowed := true, recurses := true, plainKeys := false, apart := false }
def EmitFollowsSaid : Prop := emitFollowsRow.holds Try.pinned (OpenSpec.ofChange emitFollowsSpec)

/-- ITS FALSE NEIGHBOUR: 'it returns false'. Refute it at one input. -/
def emitFollowsWrong : ChangeSpec := { name := "emitFollows", fn := fun _ => fun
  | [d1, d2] => { results := [.lit (.bool false)], args := [d1, d2] }
  | _ => none }
def EmitFollowsWrongFalsely : Prop := emitFollowsRow.holds Try.pinned (OpenSpec.ofChange emitFollowsWrong)

/-- 'additivelaw40.EmitPrefix': WHATEVER THE INPUT: true; the input reads as it did. -/
def emitPrefixSpec : ChangeSpec := { name := "emitPrefix", fn := fun _ => fun
  | [d1, d2, d3] => { results := [.lit (.bool true)], args := [d1, d2, d3] }
  | _ => none }
def emitPrefixRow : OpenClaim := { program := "ytchiiiahgmfofaa", sum := "b27a7d4b729a15a9e113a026bbf4eaf54895de601ec4ad12aefee2c006b9ef09", func := "additive/additivelaw40.EmitPrefix", spec := "emitPrefix", unfollowed := true, recurses := true, plainKeys := false, apart := false }
def EmitPrefixSaid : Prop := emitPrefixRow.holds Try.pinned (OpenSpec.ofChange emitPrefixSpec)

/-- ITS FALSE NEIGHBOUR: 'it returns false'. Refute it at one input. -/
def emitPrefixWrong : ChangeSpec := { name := "emitPrefix", fn := fun _ => fun
  | [d1, d2, d3] => { results := [.lit (.bool false)], args := [d1, d2, d3] }
  | _ => none }
def EmitPrefixWrongFalsely : Prop := emitPrefixRow.holds Try.pinned (OpenSpec.ofChange emitPrefixWrong)

/-- 'additivelaw40.EmitCorners': WHATEVER THE INPUT: true; the input reads as it did. -/
def emitCornersSpec : ChangeSpec := { name := "emitCorners", fn := fun _ => fun
  | [d1, d2] => { results := [.lit (.bool true)], args := [d1, d2] }
  | _ => none }
def emitCornersRow : OpenClaim := { program := "ytchiiiahgmfofaa", sum := "b27a7d4b729a15a9e113a026bbf4eaf54895de601ec4ad12aefee2c006b9ef09", func := "additive/additivelaw40.EmitCorners", spec := "emitCorners", unfollowed := true, recurses := true, plainKeys := false, apart := false }
def EmitCornersSaid : Prop := emitCornersRow.holds Try.pinned (OpenSpec.ofChange emitCornersSpec)

/-- ITS FALSE NEIGHBOUR: 'it returns false'. Refute it at one input. -/
def emitCornersWrong : ChangeSpec := { name := "emitCorners", fn := fun _ => fun
  | [d1, d2] => { results := [.lit (.bool false)], args := [d1, d2] }
  | _ => none }
def EmitCornersWrongFalsely : Prop := emitCornersRow.holds Try.pinned (OpenSpec.ofChange emitCornersWrong)

/- THE SECOND FORM. 'bulk': how many values and letters a reading holds, each counted each time it is reached (what is shared counts as often as it is met; a slice's spare places count too). A statement '..UptoSaid' is the law's where the arguments, and the package variables that the reading takes, are together of bulk at most 1048576: NARROWER than '..Said'. Prove '..Said' where nothing that the law and all that it calls make is longer than what came in: it says more and counts as full. Else prove '..UptoSaid'. A law counts once. -/
mutual
def uptoBulk {H : Type} : DataW H → Nat
  | .lit (.string bytes) => bytes.length + 1
  | .lit _ => 1
  | .nil => 1
  | .ptr d => uptoBulk d + 1
  | .slice elems spare => uptoBulkAll elems + uptoBulkAll spare + 1
  | .agg parts => uptoBulkAll parts + 1
  | .iface _ d => uptoBulk d + 1
  | .map entries => uptoBulkEntries entries + 1
  | .held _ => 1
def uptoBulkAll {H : Type} : List (DataW H) → Nat
  | [] => 0
  | d :: r => uptoBulk d + uptoBulkAll r
def uptoBulkEntries {H : Type} : List (Lit × DataW H) → Nat
  | [] => 0
  | x :: r => uptoBulkEntry x + uptoBulkEntries r
def uptoBulkEntry {H : Type} : Lit × DataW H → Nat
  | (.string bytes, d) => bytes.length + uptoBulk d + 1
  | (_, d) => uptoBulk d + 1
 end
def uptoSmall : (H : Type) → List (DataW H) → Bool := fun _ ds => decide (uptoBulkAll ds ≤ 1048576)
def OpenSpec.upto (s : _root_.Go.ChangeSpec) : _root_.Go.OpenSpec := { _root_.Go.OpenSpec.ofChange s with cond := some uptoSmall }

/-- 'additivelaw34.CombPaths', WHERE WHAT IT READS IS OF BULK AT MOST 1048576: true; the input reads as it did. -/
def combPathsUptoRow : OpenClaim := { program := "ytchiiiahgmfofaa", sum := "b27a7d4b729a15a9e113a026bbf4eaf54895de601ec4ad12aefee2c006b9ef09", func := "additive/additivelaw34.CombPaths", spec := "combPaths", unfollowed := true, recurses := true, plainKeys := false, apart := false, narrowed := true }
def CombPathsUptoSaid : Prop := combPathsUptoRow.holds Try.pinned (OpenSpec.upto combPathsSpec)

/-- 'additivelaw34.CombStraight', WHERE WHAT IT READS IS OF BULK AT MOST 1048576: true; the input reads as it did. -/
def combStraightUptoRow : OpenClaim := { program := "ytchiiiahgmfofaa", sum := "b27a7d4b729a15a9e113a026bbf4eaf54895de601ec4ad12aefee2c006b9ef09", func := "additive/additivelaw34.CombStraight", spec := "combStraight", unfollowed := true, recurses := true, plainKeys := false, apart := false, narrowed := true }
def CombStraightUptoSaid : Prop := combStraightUptoRow.holds Try.pinned (OpenSpec.upto combStraightSpec)

/-- 'additivelaw34.CombShortest', WHERE WHAT IT READS IS OF BULK AT MOST 1048576: true; the input reads as it did. -/
def combShortestUptoRow : OpenClaim := { program := "ytchiiiahgmfofaa", sum := "b27a7d4b729a15a9e113a026bbf4eaf54895de601ec4ad12aefee2c006b9ef09", func := "additive/additivelaw34.CombShortest", spec := "combShortest", unfollowed := true, recurses := true, plainKeys := false, apart := false, narrowed := true }
def CombShortestUptoSaid : Prop := combShortestUptoRow.holds Try.pinned (OpenSpec.upto combShortestSpec)

/-- 'additivelaw34.CombSymmetry', WHERE WHAT IT READS IS OF BULK AT MOST 1048576: true; the input reads as it did. -/
def combSymmetryUptoRow : OpenClaim := { program := "ytchiiiahgmfofaa", sum := "b27a7d4b729a15a9e113a026bbf4eaf54895de601ec4ad12aefee2c006b9ef09", func := "additive/additivelaw34.CombSymmetry", spec := "combSymmetry", unfollowed := true, recurses := true, plainKeys := false, apart := false, narrowed := true }
def CombSymmetryUptoSaid : Prop := combSymmetryUptoRow.holds Try.pinned (OpenSpec.upto combSymmetrySpec)

/-- 'additivelaw34.CombLines', WHERE WHAT IT READS IS OF BULK AT MOST 1048576: true; the input reads as it did. -/
def combLinesUptoRow : OpenClaim := { program := "ytchiiiahgmfofaa", sum := "b27a7d4b729a15a9e113a026bbf4eaf54895de601ec4ad12aefee2c006b9ef09", func := "additive/additivelaw34.CombLines", spec := "combLines", unfollowed := true, recurses := true, plainKeys := false, apart := false, narrowed := true }
def CombLinesUptoSaid : Prop := combLinesUptoRow.holds Try.pinned (OpenSpec.upto combLinesSpec)

/-- 'additivelaw34.CombTurns', WHERE WHAT IT READS IS OF BULK AT MOST 1048576: true; the input reads as it did. -/
def combTurnsUptoRow : OpenClaim := { program := "ytchiiiahgmfofaa", sum := "b27a7d4b729a15a9e113a026bbf4eaf54895de601ec4ad12aefee2c006b9ef09", func := "additive/additivelaw34.CombTurns", spec := "combTurns", unfollowed := true, recurses := true, plainKeys := false, apart := false, narrowed := true }
def CombTurnsUptoSaid : Prop := combTurnsUptoRow.holds Try.pinned (OpenSpec.upto combTurnsSpec)

/-- 'additivelaw34.CombEasy', WHERE WHAT IT READS IS OF BULK AT MOST 1048576: true; the input reads as it did. -/
def combEasyUptoRow : OpenClaim := { program := "ytchiiiahgmfofaa", sum := "b27a7d4b729a15a9e113a026bbf4eaf54895de601ec4ad12aefee2c006b9ef09", func := "additive/additivelaw34.CombEasy", spec := "combEasy", unfollowed := true, recurses := true, plainKeys := false, apart := false, narrowed := true }
def CombEasyUptoSaid : Prop := combEasyUptoRow.holds Try.pinned (OpenSpec.upto combEasySpec)

/-- 'additivelaw34.CombEasier', WHERE WHAT IT READS IS OF BULK AT MOST 1048576: true; the input reads as it did. -/
def combEasierUptoRow : OpenClaim := { program := "ytchiiiahgmfofaa", sum := "b27a7d4b729a15a9e113a026bbf4eaf54895de601ec4ad12aefee2c006b9ef09", func := "additive/additivelaw34.CombEasier", spec := "combEasier", unfollowed := true, recurses := true, plainKeys := false, apart := false, narrowed := true }
def CombEasierUptoSaid : Prop := combEasierUptoRow.holds Try.pinned (OpenSpec.upto combEasierSpec)

/-- 'additivelaw40.EmitCommands', WHERE WHAT IT READS IS OF BULK AT MOST 1048576: true; the input reads as it did. -/
def emitCommandsUptoRow : OpenClaim := { program := "ytchiiiahgmfofaa", sum := "b27a7d4b729a15a9e113a026bbf4eaf54895de601ec4ad12aefee2c006b9ef09", func := "additive/additivelaw40.EmitCommands", spec := "emitCommands", unfollowed := true, recurses := true, plainKeys := false, apart := false, narrowed := true }
def EmitCommandsUptoSaid : Prop := emitCommandsUptoRow.holds Try.pinned (OpenSpec.upto emitCommandsSpec)

/-- 'additivelaw40.EmitValid', WHERE WHAT IT READS IS OF BULK AT MOST 1048576: true; the input reads as it did. -/
def emitValidUptoRow : OpenClaim := { program := "ytchiiiahgmfofaa", sum := "b27a7d4b729a15a9e113a026bbf4eaf54895de601ec4ad12aefee2c006b9ef09", func := "additive/additivelaw40.EmitValid", spec := "emitValid", unfollowed := true, recurses := true, plainKeys := false, apart := false, narrowed := true }
def EmitValidUptoSaid : Prop := emitValidUptoRow.holds Try.pinned (OpenSpec.upto emitValidSpec)

/-- 'additivelaw40.EmitFollows', WHERE WHAT IT READS IS OF BULK AT MOST 1048576: true; the input reads as it did. -/
def emitFollowsUptoRow : OpenClaim := { program := "ytchiiiahgmfofaa", sum := "b27a7d4b729a15a9e113a026bbf4eaf54895de601ec4ad12aefee2c006b9ef09", func := "additive/additivelaw40.EmitFollows", spec := "emitFollows", unfollowed := true, recurses := true, plainKeys := false, apart := false, narrowed := true }
def EmitFollowsUptoSaid : Prop := emitFollowsUptoRow.holds Try.pinned (OpenSpec.upto emitFollowsSpec)

/-- 'additivelaw40.EmitPrefix', WHERE WHAT IT READS IS OF BULK AT MOST 1048576: true; the input reads as it did. -/
def emitPrefixUptoRow : OpenClaim := { program := "ytchiiiahgmfofaa", sum := "b27a7d4b729a15a9e113a026bbf4eaf54895de601ec4ad12aefee2c006b9ef09", func := "additive/additivelaw40.EmitPrefix", spec := "emitPrefix", unfollowed := true, recurses := true, plainKeys := false, apart := false, narrowed := true }
def EmitPrefixUptoSaid : Prop := emitPrefixUptoRow.holds Try.pinned (OpenSpec.upto emitPrefixSpec)

/-- 'additivelaw40.EmitCorners', WHERE WHAT IT READS IS OF BULK AT MOST 1048576: true; the input reads as it did. -/
def emitCornersUptoRow : OpenClaim := { program := "ytchiiiahgmfofaa", sum := "b27a7d4b729a15a9e113a026bbf4eaf54895de601ec4ad12aefee2c006b9ef09", func := "additive/additivelaw40.EmitCorners", spec := "emitCorners", unfollowed := true, recurses := true, plainKeys := false, apart := false, narrowed := true }
def EmitCornersUptoSaid : Prop := emitCornersUptoRow.holds Try.pinned (OpenSpec.upto emitCornersSpec)

end Rows
end Go.Proofs.Ytchiiiahgmfofaa
