/-
  No cell of these rows narrows 'for every input' (looked for: loops, veiled, ifaces, maps, wideKeys, modest, calm, conditions, laid).
  DERIVED. THE GIVEN ROWS OF THIS SEAT. 15 by the template 'for every input the law returns true; each argument reads behind the call as it read before'; 0 by the template 'total and deterministic' (their statements: YtjbbfiagijjdoaaGreatTotals.lean).
  GIVEN WITH THE SEED: the statements are not yours to turn. If you find one false, say at which input.
  Laid BY PROGRAM, IN A SANDBOX (cutbox-rows.mjs): the forced cells as the released guide's own fill.sh prints them over the translation 97c86852e419f44b… (all of the seat's roots in one cut). By AI agents, Wed Nov 11 2026. No macro, syntax, notation, axiom, sorry.
-/
import Derived.Test.YtjbbfiagijjdoaaGreatChecked
import GoSem.Claim
import GoSem.ClaimJoined
import GoSem.ClaimMapViews
import Derived.JoinedTies
import Derived.KernelRfl
namespace Go.Proofs.YtjbbfiagijjdoaaGreat
/- THE CELL 'sum', in the pinned program and in every row, IS THE sha256 OF THE DUMP (.gsa) THAT YtjbbfiagijjdoaaGreatProg.lean LOADS. Nothing in Lean hashes anything: it is a label: what it is worth is what the hold of that sum in a sandbox is worth. -/
noncomputable def Tryz.pinned : Pinned := { name := "ytjbbfiagijjdoaagreat", sum := "97c86852e419f44b0923eca308ffe61218c7aaef95bd996b9b26e283b279e5d0", checked := Tryz.checked }
namespace Rows
def none {H : Type} : Left H := { results := [], args := [] }

/-- 'ropewaylaw13.ReplicaServes': WHATEVER THE INPUT: true; the input reads as it did. -/
def replicaServesSpec : ChangeSpec := { name := "replicaServes", fn := fun _ => fun
  | [d1, d2, d3] => { results := [.lit (.bool true)], args := [d1, d2, d3] }
  | _ => none }
def replicaServesRow : OpenClaim := { program := "ytjbbfiagijjdoaagreat", sum := "97c86852e419f44b0923eca308ffe61218c7aaef95bd996b9b26e283b279e5d0", func := "ropeway/ropewaylaw13.ReplicaServes", spec := "replicaServes", inPlace := ["slices.overlaps[ropeway/api.ViewBook]", "slices.overlaps[ropeway/api.ViewCells]", "slices.overlaps[ropeway/api.ViewIntent]", "math.Float64bits"], unfollowed := true, recurses := true, plainKeys := false, apart := false }
def ReplicaServesSaid : Prop := replicaServesRow.holds Tryz.pinned (OpenSpec.ofChange replicaServesSpec)

/-- ITS FALSE NEIGHBOUR: 'it returns false'. Refute it at one input. -/
def replicaServesWrong : ChangeSpec := { name := "replicaServes", fn := fun _ => fun
  | [d1, d2, d3] => { results := [.lit (.bool false)], args := [d1, d2, d3] }
  | _ => none }
def ReplicaServesWrongFalsely : Prop := replicaServesRow.holds Tryz.pinned (OpenSpec.ofChange replicaServesWrong)

/-- 'ropewaylaw13.ReplicaQuiet': WHATEVER THE INPUT: true; the input reads as it did. -/
def replicaQuietSpec : ChangeSpec := { name := "replicaQuiet", fn := fun _ => fun
  | [d1, d2, d3] => { results := [.lit (.bool true)], args := [d1, d2, d3] }
  | _ => none }
def replicaQuietRow : OpenClaim := { program := "ytjbbfiagijjdoaagreat", sum := "97c86852e419f44b0923eca308ffe61218c7aaef95bd996b9b26e283b279e5d0", func := "ropeway/ropewaylaw13.ReplicaQuiet", spec := "replicaQuiet", inPlace := ["slices.overlaps[ropeway/api.ViewBook]", "slices.overlaps[ropeway/api.ViewCells]", "slices.overlaps[ropeway/api.ViewIntent]", "math.Float64bits"], unfollowed := true, recurses := true, plainKeys := false, apart := false }
def ReplicaQuietSaid : Prop := replicaQuietRow.holds Tryz.pinned (OpenSpec.ofChange replicaQuietSpec)

/-- ITS FALSE NEIGHBOUR: 'it returns false'. Refute it at one input. -/
def replicaQuietWrong : ChangeSpec := { name := "replicaQuiet", fn := fun _ => fun
  | [d1, d2, d3] => { results := [.lit (.bool false)], args := [d1, d2, d3] }
  | _ => none }
def ReplicaQuietWrongFalsely : Prop := replicaQuietRow.holds Tryz.pinned (OpenSpec.ofChange replicaQuietWrong)

/-- 'ropewaylaw12.FoldTells': WHATEVER THE INPUT: true; the input reads as it did. -/
def foldTellsSpec : ChangeSpec := { name := "foldTells", fn := fun _ => fun
  | [d1, d2, d3] => { results := [.lit (.bool true)], args := [d1, d2, d3] }
  | _ => none }
def foldTellsRow : OpenClaim := { program := "ytjbbfiagijjdoaagreat", sum := "97c86852e419f44b0923eca308ffe61218c7aaef95bd996b9b26e283b279e5d0", func := "ropeway/ropewaylaw12.FoldTells", spec := "foldTells", inPlace := ["slices.overlaps[ropeway/api.ViewBook]", "slices.overlaps[ropeway/api.ViewCells]", "slices.overlaps[ropeway/api.ViewIntent]", "math.Float64bits"], unfollowed := true, recurses := true, plainKeys := false, apart := false }
def FoldTellsSaid : Prop := foldTellsRow.holds Tryz.pinned (OpenSpec.ofChange foldTellsSpec)

/-- ITS FALSE NEIGHBOUR: 'it returns false'. Refute it at one input. -/
def foldTellsWrong : ChangeSpec := { name := "foldTells", fn := fun _ => fun
  | [d1, d2, d3] => { results := [.lit (.bool false)], args := [d1, d2, d3] }
  | _ => none }
def FoldTellsWrongFalsely : Prop := foldTellsRow.holds Tryz.pinned (OpenSpec.ofChange foldTellsWrong)

/-- 'ropewaylaw12.FoldSeen': WHATEVER THE INPUT: true; the input reads as it did. -/
def foldSeenSpec : ChangeSpec := { name := "foldSeen", fn := fun _ => fun
  | [d1, d2, d3] => { results := [.lit (.bool true)], args := [d1, d2, d3] }
  | _ => none }
def foldSeenRow : OpenClaim := { program := "ytjbbfiagijjdoaagreat", sum := "97c86852e419f44b0923eca308ffe61218c7aaef95bd996b9b26e283b279e5d0", func := "ropeway/ropewaylaw12.FoldSeen", spec := "foldSeen", inPlace := ["slices.overlaps[ropeway/api.ViewBook]", "slices.overlaps[ropeway/api.ViewCells]", "slices.overlaps[ropeway/api.ViewIntent]", "math.Float64bits"], unfollowed := true, recurses := true, plainKeys := false, apart := false }
def FoldSeenSaid : Prop := foldSeenRow.holds Tryz.pinned (OpenSpec.ofChange foldSeenSpec)

/-- ITS FALSE NEIGHBOUR: 'it returns false'. Refute it at one input. -/
def foldSeenWrong : ChangeSpec := { name := "foldSeen", fn := fun _ => fun
  | [d1, d2, d3] => { results := [.lit (.bool false)], args := [d1, d2, d3] }
  | _ => none }
def FoldSeenWrongFalsely : Prop := foldSeenRow.holds Tryz.pinned (OpenSpec.ofChange foldSeenWrong)

/-- 'ropewaylaw13.ReplicaTells': WHATEVER THE INPUT: true; the input reads as it did. -/
def replicaTellsSpec : ChangeSpec := { name := "replicaTells", fn := fun _ => fun
  | [d1, d2, d3] => { results := [.lit (.bool true)], args := [d1, d2, d3] }
  | _ => none }
def replicaTellsRow : OpenClaim := { program := "ytjbbfiagijjdoaagreat", sum := "97c86852e419f44b0923eca308ffe61218c7aaef95bd996b9b26e283b279e5d0", func := "ropeway/ropewaylaw13.ReplicaTells", spec := "replicaTells", inPlace := ["slices.overlaps[ropeway/api.ViewBook]", "slices.overlaps[ropeway/api.ViewCells]", "slices.overlaps[ropeway/api.ViewIntent]", "math.Float64bits"], unfollowed := true, recurses := true, plainKeys := false, apart := false }
def ReplicaTellsSaid : Prop := replicaTellsRow.holds Tryz.pinned (OpenSpec.ofChange replicaTellsSpec)

/-- ITS FALSE NEIGHBOUR: 'it returns false'. Refute it at one input. -/
def replicaTellsWrong : ChangeSpec := { name := "replicaTells", fn := fun _ => fun
  | [d1, d2, d3] => { results := [.lit (.bool false)], args := [d1, d2, d3] }
  | _ => none }
def ReplicaTellsWrongFalsely : Prop := replicaTellsRow.holds Tryz.pinned (OpenSpec.ofChange replicaTellsWrong)

/-- 'ropewaylaw22.AuditTells': WHATEVER THE INPUT: true; the input reads as it did. -/
def auditTellsSpec : ChangeSpec := { name := "auditTells", fn := fun _ => fun
  | [d1, d2, d3] => { results := [.lit (.bool true)], args := [d1, d2, d3] }
  | _ => none }
def auditTellsRow : OpenClaim := { program := "ytjbbfiagijjdoaagreat", sum := "97c86852e419f44b0923eca308ffe61218c7aaef95bd996b9b26e283b279e5d0", func := "ropeway/ropewaylaw22.AuditTells", spec := "auditTells", inPlace := ["slices.overlaps[ropeway/api.ViewBook]", "slices.overlaps[ropeway/api.ViewCells]", "slices.overlaps[ropeway/api.ViewIntent]", "math.Float64bits"], unfollowed := true, recurses := true, plainKeys := false, apart := false }
def AuditTellsSaid : Prop := auditTellsRow.holds Tryz.pinned (OpenSpec.ofChange auditTellsSpec)

/-- ITS FALSE NEIGHBOUR: 'it returns false'. Refute it at one input. -/
def auditTellsWrong : ChangeSpec := { name := "auditTells", fn := fun _ => fun
  | [d1, d2, d3] => { results := [.lit (.bool false)], args := [d1, d2, d3] }
  | _ => none }
def AuditTellsWrongFalsely : Prop := auditTellsRow.holds Tryz.pinned (OpenSpec.ofChange auditTellsWrong)

/-- 'ropewaylaw22.AuditGrows': WHATEVER THE INPUT: true; the input reads as it did. -/
def auditGrowsSpec : ChangeSpec := { name := "auditGrows", fn := fun _ => fun
  | [d1, d2, d3] => { results := [.lit (.bool true)], args := [d1, d2, d3] }
  | _ => none }
def auditGrowsRow : OpenClaim := { program := "ytjbbfiagijjdoaagreat", sum := "97c86852e419f44b0923eca308ffe61218c7aaef95bd996b9b26e283b279e5d0", func := "ropeway/ropewaylaw22.AuditGrows", spec := "auditGrows", inPlace := ["slices.overlaps[ropeway/api.ViewBook]", "slices.overlaps[ropeway/api.ViewCells]", "slices.overlaps[ropeway/api.ViewIntent]", "math.Float64bits"], unfollowed := true, recurses := true, plainKeys := false, apart := false }
def AuditGrowsSaid : Prop := auditGrowsRow.holds Tryz.pinned (OpenSpec.ofChange auditGrowsSpec)

/-- ITS FALSE NEIGHBOUR: 'it returns false'. Refute it at one input. -/
def auditGrowsWrong : ChangeSpec := { name := "auditGrows", fn := fun _ => fun
  | [d1, d2, d3] => { results := [.lit (.bool false)], args := [d1, d2, d3] }
  | _ => none }
def AuditGrowsWrongFalsely : Prop := auditGrowsRow.holds Tryz.pinned (OpenSpec.ofChange auditGrowsWrong)

/-- 'ropewaylaw22.AuditTurns': WHATEVER THE INPUT: true; the input reads as it did. -/
def auditTurnsSpec : ChangeSpec := { name := "auditTurns", fn := fun _ => fun
  | [d] => { results := [.lit (.bool true)], args := [d] }
  | _ => none }
def auditTurnsRow : OpenClaim := { program := "ytjbbfiagijjdoaagreat", sum := "97c86852e419f44b0923eca308ffe61218c7aaef95bd996b9b26e283b279e5d0", func := "ropeway/ropewaylaw22.AuditTurns", spec := "auditTurns", inPlace := ["slices.overlaps[ropeway/api.ViewBook]", "slices.overlaps[ropeway/api.ViewCells]", "slices.overlaps[ropeway/api.ViewIntent]", "math.Float64bits"], unfollowed := true, recurses := true, plainKeys := false, apart := false }
def AuditTurnsSaid : Prop := auditTurnsRow.holds Tryz.pinned (OpenSpec.ofChange auditTurnsSpec)

/-- ITS FALSE NEIGHBOUR: 'it returns false'. Refute it at one input. -/
def auditTurnsWrong : ChangeSpec := { name := "auditTurns", fn := fun _ => fun
  | [d] => { results := [.lit (.bool false)], args := [d] }
  | _ => none }
def AuditTurnsWrongFalsely : Prop := auditTurnsRow.holds Tryz.pinned (OpenSpec.ofChange auditTurnsWrong)

/-- 'ropewaylaw12.FoldGrows': WHATEVER THE INPUT: true; the input reads as it did. -/
def foldGrowsSpec : ChangeSpec := { name := "foldGrows", fn := fun _ => fun
  | [d1, d2, d3] => { results := [.lit (.bool true)], args := [d1, d2, d3] }
  | _ => none }
def foldGrowsRow : OpenClaim := { program := "ytjbbfiagijjdoaagreat", sum := "97c86852e419f44b0923eca308ffe61218c7aaef95bd996b9b26e283b279e5d0", func := "ropeway/ropewaylaw12.FoldGrows", spec := "foldGrows", inPlace := ["slices.overlaps[ropeway/api.ViewBook]", "slices.overlaps[ropeway/api.ViewCells]", "slices.overlaps[ropeway/api.ViewIntent]", "math.Float64bits"], unfollowed := true, recurses := true, plainKeys := false, apart := false }
def FoldGrowsSaid : Prop := foldGrowsRow.holds Tryz.pinned (OpenSpec.ofChange foldGrowsSpec)

/-- ITS FALSE NEIGHBOUR: 'it returns false'. Refute it at one input. -/
def foldGrowsWrong : ChangeSpec := { name := "foldGrows", fn := fun _ => fun
  | [d1, d2, d3] => { results := [.lit (.bool false)], args := [d1, d2, d3] }
  | _ => none }
def FoldGrowsWrongFalsely : Prop := foldGrowsRow.holds Tryz.pinned (OpenSpec.ofChange foldGrowsWrong)

/-- 'ropewaylaw12.FoldNames': WHATEVER THE INPUT: true; the input reads as it did. -/
def foldNamesSpec : ChangeSpec := { name := "foldNames", fn := fun _ => fun
  | [] => { results := [.lit (.bool true)], args := [] }
  | _ => none }
def foldNamesRow : OpenClaim := { program := "ytjbbfiagijjdoaagreat", sum := "97c86852e419f44b0923eca308ffe61218c7aaef95bd996b9b26e283b279e5d0", func := "ropeway/ropewaylaw12.FoldNames", spec := "foldNames", inPlace := ["slices.overlaps[ropeway/api.ViewBook]", "slices.overlaps[ropeway/api.ViewCells]", "slices.overlaps[ropeway/api.ViewIntent]", "math.Float64bits"], unfollowed := true, recurses := true, plainKeys := false, apart := false }
def FoldNamesSaid : Prop := foldNamesRow.holds Tryz.pinned (OpenSpec.ofChange foldNamesSpec)

/-- ITS FALSE NEIGHBOUR: 'it returns false'. Refute it at one input. -/
def foldNamesWrong : ChangeSpec := { name := "foldNames", fn := fun _ => fun
  | [] => { results := [.lit (.bool false)], args := [] }
  | _ => none }
def FoldNamesWrongFalsely : Prop := foldNamesRow.holds Tryz.pinned (OpenSpec.ofChange foldNamesWrong)

/-- 'ropewaylaw12.FoldSteps': WHATEVER THE INPUT: true; the input reads as it did. -/
def foldStepsSpec : ChangeSpec := { name := "foldSteps", fn := fun _ => fun
  | [d1, d2, d3] => { results := [.lit (.bool true)], args := [d1, d2, d3] }
  | _ => none }
def foldStepsRow : OpenClaim := { program := "ytjbbfiagijjdoaagreat", sum := "97c86852e419f44b0923eca308ffe61218c7aaef95bd996b9b26e283b279e5d0", func := "ropeway/ropewaylaw12.FoldSteps", spec := "foldSteps", inPlace := ["slices.overlaps[ropeway/api.ViewBook]", "slices.overlaps[ropeway/api.ViewCells]", "slices.overlaps[ropeway/api.ViewIntent]", "math.Float64bits"], unfollowed := true, recurses := true, plainKeys := false, apart := false }
def FoldStepsSaid : Prop := foldStepsRow.holds Tryz.pinned (OpenSpec.ofChange foldStepsSpec)

/-- ITS FALSE NEIGHBOUR: 'it returns false'. Refute it at one input. -/
def foldStepsWrong : ChangeSpec := { name := "foldSteps", fn := fun _ => fun
  | [d1, d2, d3] => { results := [.lit (.bool false)], args := [d1, d2, d3] }
  | _ => none }
def FoldStepsWrongFalsely : Prop := foldStepsRow.holds Tryz.pinned (OpenSpec.ofChange foldStepsWrong)

/-- 'ropewaylaw12.FoldTwice': WHATEVER THE INPUT: true; the input reads as it did. -/
def foldTwiceSpec : ChangeSpec := { name := "foldTwice", fn := fun _ => fun
  | [d1, d2] => { results := [.lit (.bool true)], args := [d1, d2] }
  | _ => none }
def foldTwiceRow : OpenClaim := { program := "ytjbbfiagijjdoaagreat", sum := "97c86852e419f44b0923eca308ffe61218c7aaef95bd996b9b26e283b279e5d0", func := "ropeway/ropewaylaw12.FoldTwice", spec := "foldTwice", inPlace := ["slices.overlaps[ropeway/api.ViewBook]", "slices.overlaps[ropeway/api.ViewCells]", "slices.overlaps[ropeway/api.ViewIntent]", "math.Float64bits"], unfollowed := true, recurses := true, plainKeys := false, apart := false }
def FoldTwiceSaid : Prop := foldTwiceRow.holds Tryz.pinned (OpenSpec.ofChange foldTwiceSpec)

/-- ITS FALSE NEIGHBOUR: 'it returns false'. Refute it at one input. -/
def foldTwiceWrong : ChangeSpec := { name := "foldTwice", fn := fun _ => fun
  | [d1, d2] => { results := [.lit (.bool false)], args := [d1, d2] }
  | _ => none }
def FoldTwiceWrongFalsely : Prop := foldTwiceRow.holds Tryz.pinned (OpenSpec.ofChange foldTwiceWrong)

/-- 'ropewaylaw12.FoldTurns': WHATEVER THE INPUT: true; the input reads as it did. -/
def foldTurnsSpec : ChangeSpec := { name := "foldTurns", fn := fun _ => fun
  | [d1, d2, d3] => { results := [.lit (.bool true)], args := [d1, d2, d3] }
  | _ => none }
def foldTurnsRow : OpenClaim := { program := "ytjbbfiagijjdoaagreat", sum := "97c86852e419f44b0923eca308ffe61218c7aaef95bd996b9b26e283b279e5d0", func := "ropeway/ropewaylaw12.FoldTurns", spec := "foldTurns", inPlace := ["slices.overlaps[ropeway/api.ViewBook]", "slices.overlaps[ropeway/api.ViewCells]", "slices.overlaps[ropeway/api.ViewIntent]", "math.Float64bits"], unfollowed := true, recurses := true, plainKeys := false, apart := false }
def FoldTurnsSaid : Prop := foldTurnsRow.holds Tryz.pinned (OpenSpec.ofChange foldTurnsSpec)

/-- ITS FALSE NEIGHBOUR: 'it returns false'. Refute it at one input. -/
def foldTurnsWrong : ChangeSpec := { name := "foldTurns", fn := fun _ => fun
  | [d1, d2, d3] => { results := [.lit (.bool false)], args := [d1, d2, d3] }
  | _ => none }
def FoldTurnsWrongFalsely : Prop := foldTurnsRow.holds Tryz.pinned (OpenSpec.ofChange foldTurnsWrong)

/-- 'ropewaylaw12.FoldCopies': WHATEVER THE INPUT: true; the input reads as it did. -/
def foldCopiesSpec : ChangeSpec := { name := "foldCopies", fn := fun _ => fun
  | [d1, d2] => { results := [.lit (.bool true)], args := [d1, d2] }
  | _ => none }
def foldCopiesRow : OpenClaim := { program := "ytjbbfiagijjdoaagreat", sum := "97c86852e419f44b0923eca308ffe61218c7aaef95bd996b9b26e283b279e5d0", func := "ropeway/ropewaylaw12.FoldCopies", spec := "foldCopies", inPlace := ["slices.overlaps[ropeway/api.ViewBook]", "slices.overlaps[ropeway/api.ViewCells]", "slices.overlaps[ropeway/api.ViewIntent]", "math.Float64bits"], unfollowed := true, recurses := true, plainKeys := false, apart := false }
def FoldCopiesSaid : Prop := foldCopiesRow.holds Tryz.pinned (OpenSpec.ofChange foldCopiesSpec)

/-- ITS FALSE NEIGHBOUR: 'it returns false'. Refute it at one input. -/
def foldCopiesWrong : ChangeSpec := { name := "foldCopies", fn := fun _ => fun
  | [d1, d2] => { results := [.lit (.bool false)], args := [d1, d2] }
  | _ => none }
def FoldCopiesWrongFalsely : Prop := foldCopiesRow.holds Tryz.pinned (OpenSpec.ofChange foldCopiesWrong)

/-- 'ropewaylaw13.ReplicaKeeps': WHATEVER THE INPUT: true; the input reads as it did. -/
def replicaKeepsSpec : ChangeSpec := { name := "replicaKeeps", fn := fun _ => fun
  | [d1, d2, d3] => { results := [.lit (.bool true)], args := [d1, d2, d3] }
  | _ => none }
def replicaKeepsRow : OpenClaim := { program := "ytjbbfiagijjdoaagreat", sum := "97c86852e419f44b0923eca308ffe61218c7aaef95bd996b9b26e283b279e5d0", func := "ropeway/ropewaylaw13.ReplicaKeeps", spec := "replicaKeeps", inPlace := ["slices.overlaps[ropeway/api.ViewBook]", "slices.overlaps[ropeway/api.ViewCells]", "slices.overlaps[ropeway/api.ViewIntent]", "math.Float64bits"], unfollowed := true, recurses := true, plainKeys := false, apart := false }
def ReplicaKeepsSaid : Prop := replicaKeepsRow.holds Tryz.pinned (OpenSpec.ofChange replicaKeepsSpec)

/-- ITS FALSE NEIGHBOUR: 'it returns false'. Refute it at one input. -/
def replicaKeepsWrong : ChangeSpec := { name := "replicaKeeps", fn := fun _ => fun
  | [d1, d2, d3] => { results := [.lit (.bool false)], args := [d1, d2, d3] }
  | _ => none }
def ReplicaKeepsWrongFalsely : Prop := replicaKeepsRow.holds Tryz.pinned (OpenSpec.ofChange replicaKeepsWrong)

/- THE SECOND FORM. 'bulk': how many values and letters a reading holds, each counted each time it is reached (what is shared counts as often as it is met; a slice's spare places count too). A statement '..UptoSaid' is the law's where the arguments, and the package variables that the reading takes, are together of bulk at most 1048576: NARROWER than '..Said'. Prove '..Said' where nothing that the law and all that it calls make is longer than what came in: it says more and counts as full. Else prove '..UptoSaid'. A law counts once. -/
mutual
def uptoBulk {H : Type} : DataW H → Nat
  | .lit (.string bytes) => bytes.length + 1
  | .lit _ => 1
  | .nil => 1
  | .ptr d => uptoBulk d + 1
  | .slice elems spare => uptoBulkAll elems + uptoBulkAll spare + 1
  | .agg parts => uptoBulkAll parts + 1
  | .iface _ d => uptoBulk d + 1
  | .map entries => uptoBulkEntries entries + 1
  | .held _ => 1
def uptoBulkAll {H : Type} : List (DataW H) → Nat
  | [] => 0
  | d :: r => uptoBulk d + uptoBulkAll r
def uptoBulkEntries {H : Type} : List (Lit × DataW H) → Nat
  | [] => 0
  | x :: r => uptoBulkEntry x + uptoBulkEntries r
def uptoBulkEntry {H : Type} : Lit × DataW H → Nat
  | (.string bytes, d) => bytes.length + uptoBulk d + 1
  | (_, d) => uptoBulk d + 1
 end
def uptoSmall : (H : Type) → List (DataW H) → Bool := fun _ ds => decide (uptoBulkAll ds ≤ 1048576)
def OpenSpec.upto (s : _root_.Go.ChangeSpec) : _root_.Go.OpenSpec := { _root_.Go.OpenSpec.ofChange s with cond := some uptoSmall }

/-- 'ropewaylaw13.ReplicaServes', WHERE WHAT IT READS IS OF BULK AT MOST 1048576: true; the input reads as it did. -/
def replicaServesUptoRow : OpenClaim := { program := "ytjbbfiagijjdoaagreat", sum := "97c86852e419f44b0923eca308ffe61218c7aaef95bd996b9b26e283b279e5d0", func := "ropeway/ropewaylaw13.ReplicaServes", spec := "replicaServes", inPlace := ["slices.overlaps[ropeway/api.ViewBook]", "slices.overlaps[ropeway/api.ViewCells]", "slices.overlaps[ropeway/api.ViewIntent]", "math.Float64bits"], unfollowed := true, recurses := true, plainKeys := false, apart := false, narrowed := true }
def ReplicaServesUptoSaid : Prop := replicaServesUptoRow.holds Tryz.pinned (OpenSpec.upto replicaServesSpec)

/-- 'ropewaylaw13.ReplicaQuiet', WHERE WHAT IT READS IS OF BULK AT MOST 1048576: true; the input reads as it did. -/
def replicaQuietUptoRow : OpenClaim := { program := "ytjbbfiagijjdoaagreat", sum := "97c86852e419f44b0923eca308ffe61218c7aaef95bd996b9b26e283b279e5d0", func := "ropeway/ropewaylaw13.ReplicaQuiet", spec := "replicaQuiet", inPlace := ["slices.overlaps[ropeway/api.ViewBook]", "slices.overlaps[ropeway/api.ViewCells]", "slices.overlaps[ropeway/api.ViewIntent]", "math.Float64bits"], unfollowed := true, recurses := true, plainKeys := false, apart := false, narrowed := true }
def ReplicaQuietUptoSaid : Prop := replicaQuietUptoRow.holds Tryz.pinned (OpenSpec.upto replicaQuietSpec)

/-- 'ropewaylaw12.FoldTells', WHERE WHAT IT READS IS OF BULK AT MOST 1048576: true; the input reads as it did. -/
def foldTellsUptoRow : OpenClaim := { program := "ytjbbfiagijjdoaagreat", sum := "97c86852e419f44b0923eca308ffe61218c7aaef95bd996b9b26e283b279e5d0", func := "ropeway/ropewaylaw12.FoldTells", spec := "foldTells", inPlace := ["slices.overlaps[ropeway/api.ViewBook]", "slices.overlaps[ropeway/api.ViewCells]", "slices.overlaps[ropeway/api.ViewIntent]", "math.Float64bits"], unfollowed := true, recurses := true, plainKeys := false, apart := false, narrowed := true }
def FoldTellsUptoSaid : Prop := foldTellsUptoRow.holds Tryz.pinned (OpenSpec.upto foldTellsSpec)

/-- 'ropewaylaw12.FoldSeen', WHERE WHAT IT READS IS OF BULK AT MOST 1048576: true; the input reads as it did. -/
def foldSeenUptoRow : OpenClaim := { program := "ytjbbfiagijjdoaagreat", sum := "97c86852e419f44b0923eca308ffe61218c7aaef95bd996b9b26e283b279e5d0", func := "ropeway/ropewaylaw12.FoldSeen", spec := "foldSeen", inPlace := ["slices.overlaps[ropeway/api.ViewBook]", "slices.overlaps[ropeway/api.ViewCells]", "slices.overlaps[ropeway/api.ViewIntent]", "math.Float64bits"], unfollowed := true, recurses := true, plainKeys := false, apart := false, narrowed := true }
def FoldSeenUptoSaid : Prop := foldSeenUptoRow.holds Tryz.pinned (OpenSpec.upto foldSeenSpec)

/-- 'ropewaylaw13.ReplicaTells', WHERE WHAT IT READS IS OF BULK AT MOST 1048576: true; the input reads as it did. -/
def replicaTellsUptoRow : OpenClaim := { program := "ytjbbfiagijjdoaagreat", sum := "97c86852e419f44b0923eca308ffe61218c7aaef95bd996b9b26e283b279e5d0", func := "ropeway/ropewaylaw13.ReplicaTells", spec := "replicaTells", inPlace := ["slices.overlaps[ropeway/api.ViewBook]", "slices.overlaps[ropeway/api.ViewCells]", "slices.overlaps[ropeway/api.ViewIntent]", "math.Float64bits"], unfollowed := true, recurses := true, plainKeys := false, apart := false, narrowed := true }
def ReplicaTellsUptoSaid : Prop := replicaTellsUptoRow.holds Tryz.pinned (OpenSpec.upto replicaTellsSpec)

/-- 'ropewaylaw22.AuditTells', WHERE WHAT IT READS IS OF BULK AT MOST 1048576: true; the input reads as it did. -/
def auditTellsUptoRow : OpenClaim := { program := "ytjbbfiagijjdoaagreat", sum := "97c86852e419f44b0923eca308ffe61218c7aaef95bd996b9b26e283b279e5d0", func := "ropeway/ropewaylaw22.AuditTells", spec := "auditTells", inPlace := ["slices.overlaps[ropeway/api.ViewBook]", "slices.overlaps[ropeway/api.ViewCells]", "slices.overlaps[ropeway/api.ViewIntent]", "math.Float64bits"], unfollowed := true, recurses := true, plainKeys := false, apart := false, narrowed := true }
def AuditTellsUptoSaid : Prop := auditTellsUptoRow.holds Tryz.pinned (OpenSpec.upto auditTellsSpec)

/-- 'ropewaylaw22.AuditGrows', WHERE WHAT IT READS IS OF BULK AT MOST 1048576: true; the input reads as it did. -/
def auditGrowsUptoRow : OpenClaim := { program := "ytjbbfiagijjdoaagreat", sum := "97c86852e419f44b0923eca308ffe61218c7aaef95bd996b9b26e283b279e5d0", func := "ropeway/ropewaylaw22.AuditGrows", spec := "auditGrows", inPlace := ["slices.overlaps[ropeway/api.ViewBook]", "slices.overlaps[ropeway/api.ViewCells]", "slices.overlaps[ropeway/api.ViewIntent]", "math.Float64bits"], unfollowed := true, recurses := true, plainKeys := false, apart := false, narrowed := true }
def AuditGrowsUptoSaid : Prop := auditGrowsUptoRow.holds Tryz.pinned (OpenSpec.upto auditGrowsSpec)

/-- 'ropewaylaw22.AuditTurns', WHERE WHAT IT READS IS OF BULK AT MOST 1048576: true; the input reads as it did. -/
def auditTurnsUptoRow : OpenClaim := { program := "ytjbbfiagijjdoaagreat", sum := "97c86852e419f44b0923eca308ffe61218c7aaef95bd996b9b26e283b279e5d0", func := "ropeway/ropewaylaw22.AuditTurns", spec := "auditTurns", inPlace := ["slices.overlaps[ropeway/api.ViewBook]", "slices.overlaps[ropeway/api.ViewCells]", "slices.overlaps[ropeway/api.ViewIntent]", "math.Float64bits"], unfollowed := true, recurses := true, plainKeys := false, apart := false, narrowed := true }
def AuditTurnsUptoSaid : Prop := auditTurnsUptoRow.holds Tryz.pinned (OpenSpec.upto auditTurnsSpec)

/-- 'ropewaylaw12.FoldGrows', WHERE WHAT IT READS IS OF BULK AT MOST 1048576: true; the input reads as it did. -/
def foldGrowsUptoRow : OpenClaim := { program := "ytjbbfiagijjdoaagreat", sum := "97c86852e419f44b0923eca308ffe61218c7aaef95bd996b9b26e283b279e5d0", func := "ropeway/ropewaylaw12.FoldGrows", spec := "foldGrows", inPlace := ["slices.overlaps[ropeway/api.ViewBook]", "slices.overlaps[ropeway/api.ViewCells]", "slices.overlaps[ropeway/api.ViewIntent]", "math.Float64bits"], unfollowed := true, recurses := true, plainKeys := false, apart := false, narrowed := true }
def FoldGrowsUptoSaid : Prop := foldGrowsUptoRow.holds Tryz.pinned (OpenSpec.upto foldGrowsSpec)

/-- 'ropewaylaw12.FoldNames', WHERE WHAT IT READS IS OF BULK AT MOST 1048576: true; the input reads as it did. -/
def foldNamesUptoRow : OpenClaim := { program := "ytjbbfiagijjdoaagreat", sum := "97c86852e419f44b0923eca308ffe61218c7aaef95bd996b9b26e283b279e5d0", func := "ropeway/ropewaylaw12.FoldNames", spec := "foldNames", inPlace := ["slices.overlaps[ropeway/api.ViewBook]", "slices.overlaps[ropeway/api.ViewCells]", "slices.overlaps[ropeway/api.ViewIntent]", "math.Float64bits"], unfollowed := true, recurses := true, plainKeys := false, apart := false, narrowed := true }
def FoldNamesUptoSaid : Prop := foldNamesUptoRow.holds Tryz.pinned (OpenSpec.upto foldNamesSpec)

/-- 'ropewaylaw12.FoldSteps', WHERE WHAT IT READS IS OF BULK AT MOST 1048576: true; the input reads as it did. -/
def foldStepsUptoRow : OpenClaim := { program := "ytjbbfiagijjdoaagreat", sum := "97c86852e419f44b0923eca308ffe61218c7aaef95bd996b9b26e283b279e5d0", func := "ropeway/ropewaylaw12.FoldSteps", spec := "foldSteps", inPlace := ["slices.overlaps[ropeway/api.ViewBook]", "slices.overlaps[ropeway/api.ViewCells]", "slices.overlaps[ropeway/api.ViewIntent]", "math.Float64bits"], unfollowed := true, recurses := true, plainKeys := false, apart := false, narrowed := true }
def FoldStepsUptoSaid : Prop := foldStepsUptoRow.holds Tryz.pinned (OpenSpec.upto foldStepsSpec)

/-- 'ropewaylaw12.FoldTwice', WHERE WHAT IT READS IS OF BULK AT MOST 1048576: true; the input reads as it did. -/
def foldTwiceUptoRow : OpenClaim := { program := "ytjbbfiagijjdoaagreat", sum := "97c86852e419f44b0923eca308ffe61218c7aaef95bd996b9b26e283b279e5d0", func := "ropeway/ropewaylaw12.FoldTwice", spec := "foldTwice", inPlace := ["slices.overlaps[ropeway/api.ViewBook]", "slices.overlaps[ropeway/api.ViewCells]", "slices.overlaps[ropeway/api.ViewIntent]", "math.Float64bits"], unfollowed := true, recurses := true, plainKeys := false, apart := false, narrowed := true }
def FoldTwiceUptoSaid : Prop := foldTwiceUptoRow.holds Tryz.pinned (OpenSpec.upto foldTwiceSpec)

/-- 'ropewaylaw12.FoldTurns', WHERE WHAT IT READS IS OF BULK AT MOST 1048576: true; the input reads as it did. -/
def foldTurnsUptoRow : OpenClaim := { program := "ytjbbfiagijjdoaagreat", sum := "97c86852e419f44b0923eca308ffe61218c7aaef95bd996b9b26e283b279e5d0", func := "ropeway/ropewaylaw12.FoldTurns", spec := "foldTurns", inPlace := ["slices.overlaps[ropeway/api.ViewBook]", "slices.overlaps[ropeway/api.ViewCells]", "slices.overlaps[ropeway/api.ViewIntent]", "math.Float64bits"], unfollowed := true, recurses := true, plainKeys := false, apart := false, narrowed := true }
def FoldTurnsUptoSaid : Prop := foldTurnsUptoRow.holds Tryz.pinned (OpenSpec.upto foldTurnsSpec)

/-- 'ropewaylaw12.FoldCopies', WHERE WHAT IT READS IS OF BULK AT MOST 1048576: true; the input reads as it did. -/
def foldCopiesUptoRow : OpenClaim := { program := "ytjbbfiagijjdoaagreat", sum := "97c86852e419f44b0923eca308ffe61218c7aaef95bd996b9b26e283b279e5d0", func := "ropeway/ropewaylaw12.FoldCopies", spec := "foldCopies", inPlace := ["slices.overlaps[ropeway/api.ViewBook]", "slices.overlaps[ropeway/api.ViewCells]", "slices.overlaps[ropeway/api.ViewIntent]", "math.Float64bits"], unfollowed := true, recurses := true, plainKeys := false, apart := false, narrowed := true }
def FoldCopiesUptoSaid : Prop := foldCopiesUptoRow.holds Tryz.pinned (OpenSpec.upto foldCopiesSpec)

/-- 'ropewaylaw13.ReplicaKeeps', WHERE WHAT IT READS IS OF BULK AT MOST 1048576: true; the input reads as it did. -/
def replicaKeepsUptoRow : OpenClaim := { program := "ytjbbfiagijjdoaagreat", sum := "97c86852e419f44b0923eca308ffe61218c7aaef95bd996b9b26e283b279e5d0", func := "ropeway/ropewaylaw13.ReplicaKeeps", spec := "replicaKeeps", inPlace := ["slices.overlaps[ropeway/api.ViewBook]", "slices.overlaps[ropeway/api.ViewCells]", "slices.overlaps[ropeway/api.ViewIntent]", "math.Float64bits"], unfollowed := true, recurses := true, plainKeys := false, apart := false, narrowed := true }
def ReplicaKeepsUptoSaid : Prop := replicaKeepsUptoRow.holds Tryz.pinned (OpenSpec.upto replicaKeepsSpec)

end Rows
end Go.Proofs.YtjbbfiagijjdoaaGreat
