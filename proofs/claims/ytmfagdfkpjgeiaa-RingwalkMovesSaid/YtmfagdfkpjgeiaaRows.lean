/-
  No cell of these rows narrows 'for every input' (looked for: loops, veiled, ifaces, maps, wideKeys, modest, calm, conditions, laid).
  DERIVED. THE GIVEN ROWS OF THIS SEAT. 4 by the template 'for every input the law returns true; each argument reads behind the call as it read before'; 0 by the template 'total and deterministic' (their statements: YtmfagdfkpjgeiaaTotals.lean).
  GIVEN WITH THE SEED: the statements are not yours to turn. If you find one false, say at which input.
  Laid BY PROGRAM, IN A SANDBOX (cutbox-rows.mjs): the forced cells as the released guide's own fill.sh prints them over the translation bd2327a10cea0dfd… (all of the seat's roots in one cut). By AI agents, Wed Nov 11 2026. No macro, syntax, notation, axiom, sorry.
-/
import Derived.Test.YtmfagdfkpjgeiaaChecked
import GoSem.Claim
import GoSem.ClaimJoined
import GoSem.ClaimMapViews
import Derived.JoinedTies
import Derived.KernelRfl
namespace Go.Proofs.Ytmfagdfkpjgeiaa
/- THE CELL 'sum', in the pinned program and in every row, IS THE sha256 OF THE DUMP (.gsa) THAT YtmfagdfkpjgeiaaProg.lean LOADS. Nothing in Lean hashes anything: it is a label: what it is worth is what the hold of that sum in a sandbox is worth. -/
noncomputable def Try.pinned : Pinned := { name := "ytmfagdfkpjgeiaa", sum := "bd2327a10cea0dfd1db1fd8c4dd31e573a643f0e6851450968f303130956aa5d", checked := Try.checked }
namespace Rows
def none {H : Type} : Left H := { results := [], args := [] }

/-- 'additivelaw24.RingwalkWalks': WHATEVER THE INPUT: true; the input reads as it did. -/
def ringwalkWalksSpec : ChangeSpec := { name := "ringwalkWalks", fn := fun _ => fun
  | [d] => { results := [.lit (.bool true)], args := [d] }
  | _ => none }
def ringwalkWalksRow : OpenClaim := { program := "ytmfagdfkpjgeiaa", sum := "bd2327a10cea0dfd1db1fd8c4dd31e573a643f0e6851450968f303130956aa5d", func := "additive/additivelaw24.RingwalkWalks", spec := "ringwalkWalks", unfollowed := true, recurses := true, plainKeys := false, apart := false }
def RingwalkWalksSaid : Prop := ringwalkWalksRow.holds Try.pinned (OpenSpec.ofChange ringwalkWalksSpec)

/-- ITS FALSE NEIGHBOUR: 'it returns false'. Refute it at one input. -/
def ringwalkWalksWrong : ChangeSpec := { name := "ringwalkWalks", fn := fun _ => fun
  | [d] => { results := [.lit (.bool false)], args := [d] }
  | _ => none }
def RingwalkWalksWrongFalsely : Prop := ringwalkWalksRow.holds Try.pinned (OpenSpec.ofChange ringwalkWalksWrong)

/-- 'additivelaw24.RingwalkBoxes': WHATEVER THE INPUT: true; the input reads as it did. -/
def ringwalkBoxesSpec : ChangeSpec := { name := "ringwalkBoxes", fn := fun _ => fun
  | [d] => { results := [.lit (.bool true)], args := [d] }
  | _ => none }
def ringwalkBoxesRow : OpenClaim := { program := "ytmfagdfkpjgeiaa", sum := "bd2327a10cea0dfd1db1fd8c4dd31e573a643f0e6851450968f303130956aa5d", func := "additive/additivelaw24.RingwalkBoxes", spec := "ringwalkBoxes", unfollowed := true, recurses := true, plainKeys := false, apart := false }
def RingwalkBoxesSaid : Prop := ringwalkBoxesRow.holds Try.pinned (OpenSpec.ofChange ringwalkBoxesSpec)

/-- ITS FALSE NEIGHBOUR: 'it returns false'. Refute it at one input. -/
def ringwalkBoxesWrong : ChangeSpec := { name := "ringwalkBoxes", fn := fun _ => fun
  | [d] => { results := [.lit (.bool false)], args := [d] }
  | _ => none }
def RingwalkBoxesWrongFalsely : Prop := ringwalkBoxesRow.holds Try.pinned (OpenSpec.ofChange ringwalkBoxesWrong)

/-- 'additivelaw24.RingwalkTracks': WHATEVER THE INPUT: true; the input reads as it did. -/
def ringwalkTracksSpec : ChangeSpec := { name := "ringwalkTracks", fn := fun _ => fun
  | [d] => { results := [.lit (.bool true)], args := [d] }
  | _ => none }
def ringwalkTracksRow : OpenClaim := { program := "ytmfagdfkpjgeiaa", sum := "bd2327a10cea0dfd1db1fd8c4dd31e573a643f0e6851450968f303130956aa5d", func := "additive/additivelaw24.RingwalkTracks", spec := "ringwalkTracks", unfollowed := true, recurses := true, plainKeys := false, apart := false }
def RingwalkTracksSaid : Prop := ringwalkTracksRow.holds Try.pinned (OpenSpec.ofChange ringwalkTracksSpec)

/-- ITS FALSE NEIGHBOUR: 'it returns false'. Refute it at one input. -/
def ringwalkTracksWrong : ChangeSpec := { name := "ringwalkTracks", fn := fun _ => fun
  | [d] => { results := [.lit (.bool false)], args := [d] }
  | _ => none }
def RingwalkTracksWrongFalsely : Prop := ringwalkTracksRow.holds Try.pinned (OpenSpec.ofChange ringwalkTracksWrong)

/-- 'additivelaw24.RingwalkMoves': WHATEVER THE INPUT: true; the input reads as it did. -/
def ringwalkMovesSpec : ChangeSpec := { name := "ringwalkMoves", fn := fun _ => fun
  | [d1, d2, d3] => { results := [.lit (.bool true)], args := [d1, d2, d3] }
  | _ => none }
def ringwalkMovesRow : OpenClaim := { program := "ytmfagdfkpjgeiaa", sum := "bd2327a10cea0dfd1db1fd8c4dd31e573a643f0e6851450968f303130956aa5d", func := "additive/additivelaw24.RingwalkMoves", spec := "ringwalkMoves", unfollowed := true, recurses := true, plainKeys := false, apart := false }
def RingwalkMovesSaid : Prop := ringwalkMovesRow.holds Try.pinned (OpenSpec.ofChange ringwalkMovesSpec)

/-- ITS FALSE NEIGHBOUR: 'it returns false'. Refute it at one input. -/
def ringwalkMovesWrong : ChangeSpec := { name := "ringwalkMoves", fn := fun _ => fun
  | [d1, d2, d3] => { results := [.lit (.bool false)], args := [d1, d2, d3] }
  | _ => none }
def RingwalkMovesWrongFalsely : Prop := ringwalkMovesRow.holds Try.pinned (OpenSpec.ofChange ringwalkMovesWrong)

/- THE SECOND FORM. 'bulk': how many values and letters a reading holds, each counted each time it is reached (what is shared counts as often as it is met; a slice's spare places count too). A statement '..UptoSaid' is the law's where the arguments, and the package variables that the reading takes, are together of bulk at most 1048576: NARROWER than '..Said'. Prove '..Said' where nothing that the law and all that it calls make is longer than what came in: it says more and counts as full. Else prove '..UptoSaid'. A law counts once. -/
mutual
def uptoBulk {H : Type} : DataW H → Nat
  | .lit (.string bytes) => bytes.length + 1
  | .lit _ => 1
  | .nil => 1
  | .ptr d => uptoBulk d + 1
  | .slice elems spare => uptoBulkAll elems + uptoBulkAll spare + 1
  | .agg parts => uptoBulkAll parts + 1
  | .iface _ d => uptoBulk d + 1
  | .map entries => uptoBulkEntries entries + 1
  | .held _ => 1
def uptoBulkAll {H : Type} : List (DataW H) → Nat
  | [] => 0
  | d :: r => uptoBulk d + uptoBulkAll r
def uptoBulkEntries {H : Type} : List (Lit × DataW H) → Nat
  | [] => 0
  | x :: r => uptoBulkEntry x + uptoBulkEntries r
def uptoBulkEntry {H : Type} : Lit × DataW H → Nat
  | (.string bytes, d) => bytes.length + uptoBulk d + 1
  | (_, d) => uptoBulk d + 1
 end
def uptoSmall : (H : Type) → List (DataW H) → Bool := fun _ ds => decide (uptoBulkAll ds ≤ 1048576)
def OpenSpec.upto (s : _root_.Go.ChangeSpec) : _root_.Go.OpenSpec := { _root_.Go.OpenSpec.ofChange s with cond := some uptoSmall }

/-- 'additivelaw24.RingwalkWalks', WHERE WHAT IT READS IS OF BULK AT MOST 1048576: true; the input reads as it did. -/
def ringwalkWalksUptoRow : OpenClaim := { program := "ytmfagdfkpjgeiaa", sum := "bd2327a10cea0dfd1db1fd8c4dd31e573a643f0e6851450968f303130956aa5d", func := "additive/additivelaw24.RingwalkWalks", spec := "ringwalkWalks", unfollowed := true, recurses := true, plainKeys := false, apart := false, narrowed := true }
def RingwalkWalksUptoSaid : Prop := ringwalkWalksUptoRow.holds Try.pinned (OpenSpec.upto ringwalkWalksSpec)

/-- 'additivelaw24.RingwalkBoxes', WHERE WHAT IT READS IS OF BULK AT MOST 1048576: true; the input reads as it did. -/
def ringwalkBoxesUptoRow : OpenClaim := { program := "ytmfagdfkpjgeiaa", sum := "bd2327a10cea0dfd1db1fd8c4dd31e573a643f0e6851450968f303130956aa5d", func := "additive/additivelaw24.RingwalkBoxes", spec := "ringwalkBoxes", unfollowed := true, recurses := true, plainKeys := false, apart := false, narrowed := true }
def RingwalkBoxesUptoSaid : Prop := ringwalkBoxesUptoRow.holds Try.pinned (OpenSpec.upto ringwalkBoxesSpec)

/-- 'additivelaw24.RingwalkTracks', WHERE WHAT IT READS IS OF BULK AT MOST 1048576: true; the input reads as it did. -/
def ringwalkTracksUptoRow : OpenClaim := { program := "ytmfagdfkpjgeiaa", sum := "bd2327a10cea0dfd1db1fd8c4dd31e573a643f0e6851450968f303130956aa5d", func := "additive/additivelaw24.RingwalkTracks", spec := "ringwalkTracks", unfollowed := true, recurses := true, plainKeys := false, apart := false, narrowed := true }
def RingwalkTracksUptoSaid : Prop := ringwalkTracksUptoRow.holds Try.pinned (OpenSpec.upto ringwalkTracksSpec)

/-- 'additivelaw24.RingwalkMoves', WHERE WHAT IT READS IS OF BULK AT MOST 1048576: true; the input reads as it did. -/
def ringwalkMovesUptoRow : OpenClaim := { program := "ytmfagdfkpjgeiaa", sum := "bd2327a10cea0dfd1db1fd8c4dd31e573a643f0e6851450968f303130956aa5d", func := "additive/additivelaw24.RingwalkMoves", spec := "ringwalkMoves", unfollowed := true, recurses := true, plainKeys := false, apart := false, narrowed := true }
def RingwalkMovesUptoSaid : Prop := ringwalkMovesUptoRow.holds Try.pinned (OpenSpec.upto ringwalkMovesSpec)

end Rows
end Go.Proofs.Ytmfagdfkpjgeiaa
