/-
  No cell of these rows narrows 'for every input' (looked for: loops, veiled, ifaces, maps, wideKeys, modest, calm, conditions, laid).
  DERIVED. THE GIVEN ROWS OF THIS SEAT. 9 by the template 'for every input the law returns true; each argument reads behind the call as it read before'; 0 by the template 'total and deterministic' (their statements: YtmfagdfkpjgeiaaGreatTotals.lean).
  GIVEN WITH THE SEED: the statements are not yours to turn. If you find one false, say at which input.
  Laid BY PROGRAM, IN A SANDBOX (cutbox-rows.mjs): the forced cells as the released guide's own fill.sh prints them over the translation d5cca7c41286f069… (all of the seat's roots in one cut). By AI agents, Wed Nov 11 2026. No macro, syntax, notation, axiom, sorry.
-/
import Derived.Test.YtmfagdfkpjgeiaaGreatChecked
import GoSem.Claim
import GoSem.ClaimJoined
import GoSem.ClaimMapViews
import Derived.JoinedTies
import Derived.KernelRfl
namespace Go.Proofs.YtmfagdfkpjgeiaaGreat
/- THE CELL 'sum', in the pinned program and in every row, IS THE sha256 OF THE DUMP (.gsa) THAT YtmfagdfkpjgeiaaGreatProg.lean LOADS. Nothing in Lean hashes anything: it is a label: what it is worth is what the hold of that sum in a sandbox is worth. -/
noncomputable def Tryz.pinned : Pinned := { name := "ytmfagdfkpjgeiaagreat", sum := "d5cca7c41286f0693b9911cf3a0a67c3fe513267c1f94942865eba913f6455de", checked := Tryz.checked }
namespace Rows
def none {H : Type} : Left H := { results := [], args := [] }

/-- 'additivelaw29.HatchPatterns': WHATEVER THE INPUT: true; the input reads as it did. -/
def hatchPatternsSpec : ChangeSpec := { name := "hatchPatterns", fn := fun _ => fun
  | [d1, d2, d3, d4] => { results := [.lit (.bool true)], args := [d1, d2, d3, d4] }
  | _ => none }
def hatchPatternsRow : OpenClaim := { program := "ytmfagdfkpjgeiaagreat", sum := "d5cca7c41286f0693b9911cf3a0a67c3fe513267c1f94942865eba913f6455de", func := "additive/additivelaw29.HatchPatterns", spec := "hatchPatterns", unfollowed := true, recurses := true, plainKeys := false, apart := false }
def HatchPatternsSaid : Prop := hatchPatternsRow.holds Tryz.pinned (OpenSpec.ofChange hatchPatternsSpec)

/-- ITS FALSE NEIGHBOUR: 'it returns false'. Refute it at one input. -/
def hatchPatternsWrong : ChangeSpec := { name := "hatchPatterns", fn := fun _ => fun
  | [d1, d2, d3, d4] => { results := [.lit (.bool false)], args := [d1, d2, d3, d4] }
  | _ => none }
def HatchPatternsWrongFalsely : Prop := hatchPatternsRow.holds Tryz.pinned (OpenSpec.ofChange hatchPatternsWrong)

/-- 'additivelaw29.HatchStairs': WHATEVER THE INPUT: true; the input reads as it did. -/
def hatchStairsSpec : ChangeSpec := { name := "hatchStairs", fn := fun _ => fun
  | [d1, d2, d3, d4] => { results := [.lit (.bool true)], args := [d1, d2, d3, d4] }
  | _ => none }
def hatchStairsRow : OpenClaim := { program := "ytmfagdfkpjgeiaagreat", sum := "d5cca7c41286f0693b9911cf3a0a67c3fe513267c1f94942865eba913f6455de", func := "additive/additivelaw29.HatchStairs", spec := "hatchStairs", unfollowed := true, recurses := true, plainKeys := false, apart := false }
def HatchStairsSaid : Prop := hatchStairsRow.holds Tryz.pinned (OpenSpec.ofChange hatchStairsSpec)

/-- ITS FALSE NEIGHBOUR: 'it returns false'. Refute it at one input. -/
def hatchStairsWrong : ChangeSpec := { name := "hatchStairs", fn := fun _ => fun
  | [d1, d2, d3, d4] => { results := [.lit (.bool false)], args := [d1, d2, d3, d4] }
  | _ => none }
def HatchStairsWrongFalsely : Prop := hatchStairsRow.holds Tryz.pinned (OpenSpec.ofChange hatchStairsWrong)

/-- 'additivelaw24.RingwalkCovers': WHATEVER THE INPUT: true; the input reads as it did. -/
def ringwalkCoversSpec : ChangeSpec := { name := "ringwalkCovers", fn := fun _ => fun
  | [d] => { results := [.lit (.bool true)], args := [d] }
  | _ => none }
def ringwalkCoversRow : OpenClaim := { program := "ytmfagdfkpjgeiaagreat", sum := "d5cca7c41286f0693b9911cf3a0a67c3fe513267c1f94942865eba913f6455de", func := "additive/additivelaw24.RingwalkCovers", spec := "ringwalkCovers", unfollowed := true, recurses := true, plainKeys := false, apart := false }
def RingwalkCoversSaid : Prop := ringwalkCoversRow.holds Tryz.pinned (OpenSpec.ofChange ringwalkCoversSpec)

/-- ITS FALSE NEIGHBOUR: 'it returns false'. Refute it at one input. -/
def ringwalkCoversWrong : ChangeSpec := { name := "ringwalkCovers", fn := fun _ => fun
  | [d] => { results := [.lit (.bool false)], args := [d] }
  | _ => none }
def RingwalkCoversWrongFalsely : Prop := ringwalkCoversRow.holds Tryz.pinned (OpenSpec.ofChange ringwalkCoversWrong)

/-- 'additivelaw27.WallsTracks': WHATEVER THE INPUT: true; the input reads as it did. -/
def wallsTracksSpec : ChangeSpec := { name := "wallsTracks", fn := fun _ => fun
  | [d1, d2] => { results := [.lit (.bool true)], args := [d1, d2] }
  | _ => none }
def wallsTracksRow : OpenClaim := { program := "ytmfagdfkpjgeiaagreat", sum := "d5cca7c41286f0693b9911cf3a0a67c3fe513267c1f94942865eba913f6455de", func := "additive/additivelaw27.WallsTracks", spec := "wallsTracks", unfollowed := true, recurses := true, plainKeys := false, apart := false }
def WallsTracksSaid : Prop := wallsTracksRow.holds Tryz.pinned (OpenSpec.ofChange wallsTracksSpec)

/-- ITS FALSE NEIGHBOUR: 'it returns false'. Refute it at one input. -/
def wallsTracksWrong : ChangeSpec := { name := "wallsTracks", fn := fun _ => fun
  | [d1, d2] => { results := [.lit (.bool false)], args := [d1, d2] }
  | _ => none }
def WallsTracksWrongFalsely : Prop := wallsTracksRow.holds Tryz.pinned (OpenSpec.ofChange wallsTracksWrong)

/-- 'additivelaw27.WallsBounds': WHATEVER THE INPUT: true; the input reads as it did. -/
def wallsBoundsSpec : ChangeSpec := { name := "wallsBounds", fn := fun _ => fun
  | [d1, d2] => { results := [.lit (.bool true)], args := [d1, d2] }
  | _ => none }
def wallsBoundsRow : OpenClaim := { program := "ytmfagdfkpjgeiaagreat", sum := "d5cca7c41286f0693b9911cf3a0a67c3fe513267c1f94942865eba913f6455de", func := "additive/additivelaw27.WallsBounds", spec := "wallsBounds", unfollowed := true, recurses := true, plainKeys := false, apart := false }
def WallsBoundsSaid : Prop := wallsBoundsRow.holds Tryz.pinned (OpenSpec.ofChange wallsBoundsSpec)

/-- ITS FALSE NEIGHBOUR: 'it returns false'. Refute it at one input. -/
def wallsBoundsWrong : ChangeSpec := { name := "wallsBounds", fn := fun _ => fun
  | [d1, d2] => { results := [.lit (.bool false)], args := [d1, d2] }
  | _ => none }
def WallsBoundsWrongFalsely : Prop := wallsBoundsRow.holds Tryz.pinned (OpenSpec.ofChange wallsBoundsWrong)

/-- 'additivelaw27.WallsMore': WHATEVER THE INPUT: true; the input reads as it did. -/
def wallsMoreSpec : ChangeSpec := { name := "wallsMore", fn := fun _ => fun
  | [d1, d2] => { results := [.lit (.bool true)], args := [d1, d2] }
  | _ => none }
def wallsMoreRow : OpenClaim := { program := "ytmfagdfkpjgeiaagreat", sum := "d5cca7c41286f0693b9911cf3a0a67c3fe513267c1f94942865eba913f6455de", func := "additive/additivelaw27.WallsMore", spec := "wallsMore", unfollowed := true, recurses := true, plainKeys := false, apart := false }
def WallsMoreSaid : Prop := wallsMoreRow.holds Tryz.pinned (OpenSpec.ofChange wallsMoreSpec)

/-- ITS FALSE NEIGHBOUR: 'it returns false'. Refute it at one input. -/
def wallsMoreWrong : ChangeSpec := { name := "wallsMore", fn := fun _ => fun
  | [d1, d2] => { results := [.lit (.bool false)], args := [d1, d2] }
  | _ => none }
def WallsMoreWrongFalsely : Prop := wallsMoreRow.holds Tryz.pinned (OpenSpec.ofChange wallsMoreWrong)

/-- 'additivelaw27.WallsDivide': WHATEVER THE INPUT: true; the input reads as it did. -/
def wallsDivideSpec : ChangeSpec := { name := "wallsDivide", fn := fun _ => fun
  | [d1, d2] => { results := [.lit (.bool true)], args := [d1, d2] }
  | _ => none }
def wallsDivideRow : OpenClaim := { program := "ytmfagdfkpjgeiaagreat", sum := "d5cca7c41286f0693b9911cf3a0a67c3fe513267c1f94942865eba913f6455de", func := "additive/additivelaw27.WallsDivide", spec := "wallsDivide", unfollowed := true, recurses := true, plainKeys := false, apart := false }
def WallsDivideSaid : Prop := wallsDivideRow.holds Tryz.pinned (OpenSpec.ofChange wallsDivideSpec)

/-- ITS FALSE NEIGHBOUR: 'it returns false'. Refute it at one input. -/
def wallsDivideWrong : ChangeSpec := { name := "wallsDivide", fn := fun _ => fun
  | [d1, d2] => { results := [.lit (.bool false)], args := [d1, d2] }
  | _ => none }
def WallsDivideWrongFalsely : Prop := wallsDivideRow.holds Tryz.pinned (OpenSpec.ofChange wallsDivideWrong)

/-- 'additivelaw27.WallsApart': WHATEVER THE INPUT: true; the input reads as it did. -/
def wallsApartSpec : ChangeSpec := { name := "wallsApart", fn := fun _ => fun
  | [d1, d2] => { results := [.lit (.bool true)], args := [d1, d2] }
  | _ => none }
def wallsApartRow : OpenClaim := { program := "ytmfagdfkpjgeiaagreat", sum := "d5cca7c41286f0693b9911cf3a0a67c3fe513267c1f94942865eba913f6455de", func := "additive/additivelaw27.WallsApart", spec := "wallsApart", unfollowed := true, recurses := true, plainKeys := false, apart := false }
def WallsApartSaid : Prop := wallsApartRow.holds Tryz.pinned (OpenSpec.ofChange wallsApartSpec)

/-- ITS FALSE NEIGHBOUR: 'it returns false'. Refute it at one input. -/
def wallsApartWrong : ChangeSpec := { name := "wallsApart", fn := fun _ => fun
  | [d1, d2] => { results := [.lit (.bool false)], args := [d1, d2] }
  | _ => none }
def WallsApartWrongFalsely : Prop := wallsApartRow.holds Tryz.pinned (OpenSpec.ofChange wallsApartWrong)

/-- 'additivelaw29.HatchNear': WHATEVER THE INPUT: true; the input reads as it did. -/
def hatchNearSpec : ChangeSpec := { name := "hatchNear", fn := fun _ => fun
  | [d1, d2, d3, d4] => { results := [.lit (.bool true)], args := [d1, d2, d3, d4] }
  | _ => none }
def hatchNearRow : OpenClaim := { program := "ytmfagdfkpjgeiaagreat", sum := "d5cca7c41286f0693b9911cf3a0a67c3fe513267c1f94942865eba913f6455de", func := "additive/additivelaw29.HatchNear", spec := "hatchNear", unfollowed := true, recurses := true, plainKeys := false, apart := false }
def HatchNearSaid : Prop := hatchNearRow.holds Tryz.pinned (OpenSpec.ofChange hatchNearSpec)

/-- ITS FALSE NEIGHBOUR: 'it returns false'. Refute it at one input. -/
def hatchNearWrong : ChangeSpec := { name := "hatchNear", fn := fun _ => fun
  | [d1, d2, d3, d4] => { results := [.lit (.bool false)], args := [d1, d2, d3, d4] }
  | _ => none }
def HatchNearWrongFalsely : Prop := hatchNearRow.holds Tryz.pinned (OpenSpec.ofChange hatchNearWrong)

/- THE SECOND FORM. 'bulk': how many values and letters a reading holds, each counted each time it is reached (what is shared counts as often as it is met; a slice's spare places count too). A statement '..UptoSaid' is the law's where the arguments, and the package variables that the reading takes, are together of bulk at most 1048576: NARROWER than '..Said'. Prove '..Said' where nothing that the law and all that it calls make is longer than what came in: it says more and counts as full. Else prove '..UptoSaid'. A law counts once. -/
mutual
def uptoBulk {H : Type} : DataW H → Nat
  | .lit (.string bytes) => bytes.length + 1
  | .lit _ => 1
  | .nil => 1
  | .ptr d => uptoBulk d + 1
  | .slice elems spare => uptoBulkAll elems + uptoBulkAll spare + 1
  | .agg parts => uptoBulkAll parts + 1
  | .iface _ d => uptoBulk d + 1
  | .map entries => uptoBulkEntries entries + 1
  | .held _ => 1
def uptoBulkAll {H : Type} : List (DataW H) → Nat
  | [] => 0
  | d :: r => uptoBulk d + uptoBulkAll r
def uptoBulkEntries {H : Type} : List (Lit × DataW H) → Nat
  | [] => 0
  | x :: r => uptoBulkEntry x + uptoBulkEntries r
def uptoBulkEntry {H : Type} : Lit × DataW H → Nat
  | (.string bytes, d) => bytes.length + uptoBulk d + 1
  | (_, d) => uptoBulk d + 1
 end
def uptoSmall : (H : Type) → List (DataW H) → Bool := fun _ ds => decide (uptoBulkAll ds ≤ 1048576)
def OpenSpec.upto (s : _root_.Go.ChangeSpec) : _root_.Go.OpenSpec := { _root_.Go.OpenSpec.ofChange s with cond := some uptoSmall }

/-- 'additivelaw29.HatchPatterns', WHERE WHAT IT READS IS OF BULK AT MOST 1048576: true; the input reads as it did. -/
def hatchPatternsUptoRow : OpenClaim := { program := "ytmfagdfkpjgeiaagreat", sum := "d5cca7c41286f0693b9911cf3a0a67c3fe513267c1f94942865eba913f6455de", func := "additive/additivelaw29.HatchPatterns", spec := "hatchPatterns", unfollowed := true, recurses := true, plainKeys := false, apart := false, narrowed := true }
def HatchPatternsUptoSaid : Prop := hatchPatternsUptoRow.holds Tryz.pinned (OpenSpec.upto hatchPatternsSpec)

/-- 'additivelaw29.HatchStairs', WHERE WHAT IT READS IS OF BULK AT MOST 1048576: true; the input reads as it did. -/
def hatchStairsUptoRow : OpenClaim := { program := "ytmfagdfkpjgeiaagreat", sum := "d5cca7c41286f0693b9911cf3a0a67c3fe513267c1f94942865eba913f6455de", func := "additive/additivelaw29.HatchStairs", spec := "hatchStairs", unfollowed := true, recurses := true, plainKeys := false, apart := false, narrowed := true }
def HatchStairsUptoSaid : Prop := hatchStairsUptoRow.holds Tryz.pinned (OpenSpec.upto hatchStairsSpec)

/-- 'additivelaw24.RingwalkCovers', WHERE WHAT IT READS IS OF BULK AT MOST 1048576: true; the input reads as it did. -/
def ringwalkCoversUptoRow : OpenClaim := { program := "ytmfagdfkpjgeiaagreat", sum := "d5cca7c41286f0693b9911cf3a0a67c3fe513267c1f94942865eba913f6455de", func := "additive/additivelaw24.RingwalkCovers", spec := "ringwalkCovers", unfollowed := true, recurses := true, plainKeys := false, apart := false, narrowed := true }
def RingwalkCoversUptoSaid : Prop := ringwalkCoversUptoRow.holds Tryz.pinned (OpenSpec.upto ringwalkCoversSpec)

/-- 'additivelaw27.WallsTracks', WHERE WHAT IT READS IS OF BULK AT MOST 1048576: true; the input reads as it did. -/
def wallsTracksUptoRow : OpenClaim := { program := "ytmfagdfkpjgeiaagreat", sum := "d5cca7c41286f0693b9911cf3a0a67c3fe513267c1f94942865eba913f6455de", func := "additive/additivelaw27.WallsTracks", spec := "wallsTracks", unfollowed := true, recurses := true, plainKeys := false, apart := false, narrowed := true }
def WallsTracksUptoSaid : Prop := wallsTracksUptoRow.holds Tryz.pinned (OpenSpec.upto wallsTracksSpec)

/-- 'additivelaw27.WallsBounds', WHERE WHAT IT READS IS OF BULK AT MOST 1048576: true; the input reads as it did. -/
def wallsBoundsUptoRow : OpenClaim := { program := "ytmfagdfkpjgeiaagreat", sum := "d5cca7c41286f0693b9911cf3a0a67c3fe513267c1f94942865eba913f6455de", func := "additive/additivelaw27.WallsBounds", spec := "wallsBounds", unfollowed := true, recurses := true, plainKeys := false, apart := false, narrowed := true }
def WallsBoundsUptoSaid : Prop := wallsBoundsUptoRow.holds Tryz.pinned (OpenSpec.upto wallsBoundsSpec)

/-- 'additivelaw27.WallsMore', WHERE WHAT IT READS IS OF BULK AT MOST 1048576: true; the input reads as it did. -/
def wallsMoreUptoRow : OpenClaim := { program := "ytmfagdfkpjgeiaagreat", sum := "d5cca7c41286f0693b9911cf3a0a67c3fe513267c1f94942865eba913f6455de", func := "additive/additivelaw27.WallsMore", spec := "wallsMore", unfollowed := true, recurses := true, plainKeys := false, apart := false, narrowed := true }
def WallsMoreUptoSaid : Prop := wallsMoreUptoRow.holds Tryz.pinned (OpenSpec.upto wallsMoreSpec)

/-- 'additivelaw27.WallsDivide', WHERE WHAT IT READS IS OF BULK AT MOST 1048576: true; the input reads as it did. -/
def wallsDivideUptoRow : OpenClaim := { program := "ytmfagdfkpjgeiaagreat", sum := "d5cca7c41286f0693b9911cf3a0a67c3fe513267c1f94942865eba913f6455de", func := "additive/additivelaw27.WallsDivide", spec := "wallsDivide", unfollowed := true, recurses := true, plainKeys := false, apart := false, narrowed := true }
def WallsDivideUptoSaid : Prop := wallsDivideUptoRow.holds Tryz.pinned (OpenSpec.upto wallsDivideSpec)

/-- 'additivelaw27.WallsApart', WHERE WHAT IT READS IS OF BULK AT MOST 1048576: true; the input reads as it did. -/
def wallsApartUptoRow : OpenClaim := { program := "ytmfagdfkpjgeiaagreat", sum := "d5cca7c41286f0693b9911cf3a0a67c3fe513267c1f94942865eba913f6455de", func := "additive/additivelaw27.WallsApart", spec := "wallsApart", unfollowed := true, recurses := true, plainKeys := false, apart := false, narrowed := true }
def WallsApartUptoSaid : Prop := wallsApartUptoRow.holds Tryz.pinned (OpenSpec.upto wallsApartSpec)

/-- 'additivelaw29.HatchNear', WHERE WHAT IT READS IS OF BULK AT MOST 1048576: true; the input reads as it did. -/
def hatchNearUptoRow : OpenClaim := { program := "ytmfagdfkpjgeiaagreat", sum := "d5cca7c41286f0693b9911cf3a0a67c3fe513267c1f94942865eba913f6455de", func := "additive/additivelaw29.HatchNear", spec := "hatchNear", unfollowed := true, recurses := true, plainKeys := false, apart := false, narrowed := true }
def HatchNearUptoSaid : Prop := hatchNearUptoRow.holds Tryz.pinned (OpenSpec.upto hatchNearSpec)

end Rows
end Go.Proofs.YtmfagdfkpjgeiaaGreat
