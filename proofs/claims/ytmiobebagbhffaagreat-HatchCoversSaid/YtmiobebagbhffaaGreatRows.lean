/-
  No cell of these rows narrows 'for every input' (looked for: loops, veiled, ifaces, maps, wideKeys, modest, calm, conditions, laid).
  DERIVED. THE GIVEN ROWS OF THIS SEAT. 5 by the template 'for every input the law returns true; each argument reads behind the call as it read before'; 0 by the template 'total and deterministic' (their statements: YtmiobebagbhffaaGreatTotals.lean).
  GIVEN WITH THE SEED: the statements are not yours to turn. If you find one false, say at which input.
  Laid BY PROGRAM, IN A SANDBOX (cutbox-rows.mjs): the forced cells as the released guide's own fill.sh prints them over the translation 60a415713f93142b… (all of the seat's roots in one cut). By AI agents, Wed Nov 11 2026. No macro, syntax, notation, axiom, sorry.
-/
import Derived.Test.YtmiobebagbhffaaGreatChecked
import GoSem.Claim
import GoSem.ClaimJoined
import GoSem.ClaimMapViews
import Derived.JoinedTies
import Derived.KernelRfl
namespace Go.Proofs.YtmiobebagbhffaaGreat
/- THE CELL 'sum', in the pinned program and in every row, IS THE sha256 OF THE DUMP (.gsa) THAT YtmiobebagbhffaaGreatProg.lean LOADS. Nothing in Lean hashes anything: it is a label: what it is worth is what the hold of that sum in a sandbox is worth. -/
noncomputable def Tryz.pinned : Pinned := { name := "ytmiobebagbhffaagreat", sum := "60a415713f93142be3a6d5809ba6e3ad393f8222ad890edf5ced6466bd5b75e2", checked := Tryz.checked }
namespace Rows
def none {H : Type} : Left H := { results := [], args := [] }

/-- 'additivelaw29.HatchLines': WHATEVER THE INPUT: true; the input reads as it did. -/
def hatchLinesSpec : ChangeSpec := { name := "hatchLines", fn := fun _ => fun
  | [d1, d2, d3] => { results := [.lit (.bool true)], args := [d1, d2, d3] }
  | _ => none }
def hatchLinesRow : OpenClaim := { program := "ytmiobebagbhffaagreat", sum := "60a415713f93142be3a6d5809ba6e3ad393f8222ad890edf5ced6466bd5b75e2", func := "additive/additivelaw29.HatchLines", spec := "hatchLines", unfollowed := true, recurses := true, plainKeys := false, apart := false }
def HatchLinesSaid : Prop := hatchLinesRow.holds Tryz.pinned (OpenSpec.ofChange hatchLinesSpec)

/-- ITS FALSE NEIGHBOUR: 'it returns false'. Refute it at one input. -/
def hatchLinesWrong : ChangeSpec := { name := "hatchLines", fn := fun _ => fun
  | [d1, d2, d3] => { results := [.lit (.bool false)], args := [d1, d2, d3] }
  | _ => none }
def HatchLinesWrongFalsely : Prop := hatchLinesRow.holds Tryz.pinned (OpenSpec.ofChange hatchLinesWrong)

/-- 'additivelaw29.HatchZigzags': WHATEVER THE INPUT: true; the input reads as it did. -/
def hatchZigzagsSpec : ChangeSpec := { name := "hatchZigzags", fn := fun _ => fun
  | [d] => { results := [.lit (.bool true)], args := [d] }
  | _ => none }
def hatchZigzagsRow : OpenClaim := { program := "ytmiobebagbhffaagreat", sum := "60a415713f93142be3a6d5809ba6e3ad393f8222ad890edf5ced6466bd5b75e2", func := "additive/additivelaw29.HatchZigzags", spec := "hatchZigzags", unfollowed := true, recurses := true, plainKeys := false, apart := false }
def HatchZigzagsSaid : Prop := hatchZigzagsRow.holds Tryz.pinned (OpenSpec.ofChange hatchZigzagsSpec)

/-- ITS FALSE NEIGHBOUR: 'it returns false'. Refute it at one input. -/
def hatchZigzagsWrong : ChangeSpec := { name := "hatchZigzags", fn := fun _ => fun
  | [d] => { results := [.lit (.bool false)], args := [d] }
  | _ => none }
def HatchZigzagsWrongFalsely : Prop := hatchZigzagsRow.holds Tryz.pinned (OpenSpec.ofChange hatchZigzagsWrong)

/-- 'additivelaw29.HatchFars': WHATEVER THE INPUT: true; the input reads as it did. -/
def hatchFarsSpec : ChangeSpec := { name := "hatchFars", fn := fun _ => fun
  | [d1, d2] => { results := [.lit (.bool true)], args := [d1, d2] }
  | _ => none }
def hatchFarsRow : OpenClaim := { program := "ytmiobebagbhffaagreat", sum := "60a415713f93142be3a6d5809ba6e3ad393f8222ad890edf5ced6466bd5b75e2", func := "additive/additivelaw29.HatchFars", spec := "hatchFars", unfollowed := true, recurses := true, plainKeys := false, apart := false }
def HatchFarsSaid : Prop := hatchFarsRow.holds Tryz.pinned (OpenSpec.ofChange hatchFarsSpec)

/-- ITS FALSE NEIGHBOUR: 'it returns false'. Refute it at one input. -/
def hatchFarsWrong : ChangeSpec := { name := "hatchFars", fn := fun _ => fun
  | [d1, d2] => { results := [.lit (.bool false)], args := [d1, d2] }
  | _ => none }
def HatchFarsWrongFalsely : Prop := hatchFarsRow.holds Tryz.pinned (OpenSpec.ofChange hatchFarsWrong)

/-- 'additivelaw29.HatchCovers': WHATEVER THE INPUT: true; the input reads as it did. -/
def hatchCoversSpec : ChangeSpec := { name := "hatchCovers", fn := fun _ => fun
  | [d1, d2] => { results := [.lit (.bool true)], args := [d1, d2] }
  | _ => none }
def hatchCoversRow : OpenClaim := { program := "ytmiobebagbhffaagreat", sum := "60a415713f93142be3a6d5809ba6e3ad393f8222ad890edf5ced6466bd5b75e2", func := "additive/additivelaw29.HatchCovers", spec := "hatchCovers", unfollowed := true, recurses := true, plainKeys := false, apart := false }
def HatchCoversSaid : Prop := hatchCoversRow.holds Tryz.pinned (OpenSpec.ofChange hatchCoversSpec)

/-- ITS FALSE NEIGHBOUR: 'it returns false'. Refute it at one input. -/
def hatchCoversWrong : ChangeSpec := { name := "hatchCovers", fn := fun _ => fun
  | [d1, d2] => { results := [.lit (.bool false)], args := [d1, d2] }
  | _ => none }
def HatchCoversWrongFalsely : Prop := hatchCoversRow.holds Tryz.pinned (OpenSpec.ofChange hatchCoversWrong)

/-- 'additivelaw29.HatchEvery': WHATEVER THE INPUT: true; the input reads as it did. -/
def hatchEverySpec : ChangeSpec := { name := "hatchEvery", fn := fun _ => fun
  | [d1, d2, d3, d4] => { results := [.lit (.bool true)], args := [d1, d2, d3, d4] }
  | _ => none }
def hatchEveryRow : OpenClaim := { program := "ytmiobebagbhffaagreat", sum := "60a415713f93142be3a6d5809ba6e3ad393f8222ad890edf5ced6466bd5b75e2", func := "additive/additivelaw29.HatchEvery", spec := "hatchEvery", unfollowed := true, recurses := true, plainKeys := false, apart := false }
def HatchEverySaid : Prop := hatchEveryRow.holds Tryz.pinned (OpenSpec.ofChange hatchEverySpec)

/-- ITS FALSE NEIGHBOUR: 'it returns false'. Refute it at one input. -/
def hatchEveryWrong : ChangeSpec := { name := "hatchEvery", fn := fun _ => fun
  | [d1, d2, d3, d4] => { results := [.lit (.bool false)], args := [d1, d2, d3, d4] }
  | _ => none }
def HatchEveryWrongFalsely : Prop := hatchEveryRow.holds Tryz.pinned (OpenSpec.ofChange hatchEveryWrong)

/- THE SECOND FORM. 'bulk': how many values and letters a reading holds, each counted each time it is reached (what is shared counts as often as it is met; a slice's spare places count too). A statement '..UptoSaid' is the law's where the arguments, and the package variables that the reading takes, are together of bulk at most 1048576: NARROWER than '..Said'. Prove '..Said' where nothing that the law and all that it calls make is longer than what came in: it says more and counts as full. Else prove '..UptoSaid'. A law counts once. -/
mutual
def uptoBulk {H : Type} : DataW H → Nat
  | .lit (.string bytes) => bytes.length + 1
  | .lit _ => 1
  | .nil => 1
  | .ptr d => uptoBulk d + 1
  | .slice elems spare => uptoBulkAll elems + uptoBulkAll spare + 1
  | .agg parts => uptoBulkAll parts + 1
  | .iface _ d => uptoBulk d + 1
  | .map entries => uptoBulkEntries entries + 1
  | .held _ => 1
def uptoBulkAll {H : Type} : List (DataW H) → Nat
  | [] => 0
  | d :: r => uptoBulk d + uptoBulkAll r
def uptoBulkEntries {H : Type} : List (Lit × DataW H) → Nat
  | [] => 0
  | x :: r => uptoBulkEntry x + uptoBulkEntries r
def uptoBulkEntry {H : Type} : Lit × DataW H → Nat
  | (.string bytes, d) => bytes.length + uptoBulk d + 1
  | (_, d) => uptoBulk d + 1
 end
def uptoSmall : (H : Type) → List (DataW H) → Bool := fun _ ds => decide (uptoBulkAll ds ≤ 1048576)
def OpenSpec.upto (s : _root_.Go.ChangeSpec) : _root_.Go.OpenSpec := { _root_.Go.OpenSpec.ofChange s with cond := some uptoSmall }

/-- 'additivelaw29.HatchLines', WHERE WHAT IT READS IS OF BULK AT MOST 1048576: true; the input reads as it did. -/
def hatchLinesUptoRow : OpenClaim := { program := "ytmiobebagbhffaagreat", sum := "60a415713f93142be3a6d5809ba6e3ad393f8222ad890edf5ced6466bd5b75e2", func := "additive/additivelaw29.HatchLines", spec := "hatchLines", unfollowed := true, recurses := true, plainKeys := false, apart := false, narrowed := true }
def HatchLinesUptoSaid : Prop := hatchLinesUptoRow.holds Tryz.pinned (OpenSpec.upto hatchLinesSpec)

/-- 'additivelaw29.HatchZigzags', WHERE WHAT IT READS IS OF BULK AT MOST 1048576: true; the input reads as it did. -/
def hatchZigzagsUptoRow : OpenClaim := { program := "ytmiobebagbhffaagreat", sum := "60a415713f93142be3a6d5809ba6e3ad393f8222ad890edf5ced6466bd5b75e2", func := "additive/additivelaw29.HatchZigzags", spec := "hatchZigzags", unfollowed := true, recurses := true, plainKeys := false, apart := false, narrowed := true }
def HatchZigzagsUptoSaid : Prop := hatchZigzagsUptoRow.holds Tryz.pinned (OpenSpec.upto hatchZigzagsSpec)

/-- 'additivelaw29.HatchFars', WHERE WHAT IT READS IS OF BULK AT MOST 1048576: true; the input reads as it did. -/
def hatchFarsUptoRow : OpenClaim := { program := "ytmiobebagbhffaagreat", sum := "60a415713f93142be3a6d5809ba6e3ad393f8222ad890edf5ced6466bd5b75e2", func := "additive/additivelaw29.HatchFars", spec := "hatchFars", unfollowed := true, recurses := true, plainKeys := false, apart := false, narrowed := true }
def HatchFarsUptoSaid : Prop := hatchFarsUptoRow.holds Tryz.pinned (OpenSpec.upto hatchFarsSpec)

/-- 'additivelaw29.HatchCovers', WHERE WHAT IT READS IS OF BULK AT MOST 1048576: true; the input reads as it did. -/
def hatchCoversUptoRow : OpenClaim := { program := "ytmiobebagbhffaagreat", sum := "60a415713f93142be3a6d5809ba6e3ad393f8222ad890edf5ced6466bd5b75e2", func := "additive/additivelaw29.HatchCovers", spec := "hatchCovers", unfollowed := true, recurses := true, plainKeys := false, apart := false, narrowed := true }
def HatchCoversUptoSaid : Prop := hatchCoversUptoRow.holds Tryz.pinned (OpenSpec.upto hatchCoversSpec)

/-- 'additivelaw29.HatchEvery', WHERE WHAT IT READS IS OF BULK AT MOST 1048576: true; the input reads as it did. -/
def hatchEveryUptoRow : OpenClaim := { program := "ytmiobebagbhffaagreat", sum := "60a415713f93142be3a6d5809ba6e3ad393f8222ad890edf5ced6466bd5b75e2", func := "additive/additivelaw29.HatchEvery", spec := "hatchEvery", unfollowed := true, recurses := true, plainKeys := false, apart := false, narrowed := true }
def HatchEveryUptoSaid : Prop := hatchEveryUptoRow.holds Tryz.pinned (OpenSpec.upto hatchEverySpec)

end Rows
end Go.Proofs.YtmiobebagbhffaaGreat
