/-
  No cell of these rows narrows 'for every input' (looked for: loops, veiled, ifaces, maps, wideKeys, modest, calm, conditions, laid).
  DERIVED. THE GIVEN ROWS OF THIS SEAT. 8 by the template 'for every input the law returns true; each argument reads behind the call as it read before'; 0 by the template 'total and deterministic' (their statements: YtdkknhpdjcdmfaaGreatTotals.lean).
  GIVEN WITH THE SEED: the statements are not yours to turn. If you find one false, say at which input.
  Laid BY PROGRAM, IN A SANDBOX (cutbox-rows.mjs): the forced cells as the released guide's own fill.sh prints them over the translation fc76e2ceb92e2aa0… (all of the seat's roots in one cut). By AI agents, Wed Nov 11 2026. No macro, syntax, notation, axiom, sorry.
-/
import Derived.Test.YtdkknhpdjcdmfaaGreatChecked
import GoSem.Claim
import GoSem.ClaimJoined
import GoSem.ClaimMapViews
import Derived.JoinedTies
import Derived.KernelRfl
namespace Go.Proofs.YtdkknhpdjcdmfaaGreat
/- THE CELL 'sum', in the pinned program and in every row, IS THE sha256 OF THE DUMP (.gsa) THAT YtdkknhpdjcdmfaaGreatProg.lean LOADS. Nothing in Lean hashes anything: it is a label: what it is worth is what the hold of that sum in a sandbox is worth. -/
noncomputable def Tryz.pinned : Pinned := { name := "ytdkknhpdjcdmfaagreat", sum := "fc76e2ceb92e2aa072872dae3bc08b43e4ac2f9decce7df8449947a2ec6db212", checked := Tryz.checked }
namespace Rows
def none {H : Type} : Left H := { results := [], args := [] }

/-- 'turntablelaw31.MergeRuns': WHATEVER THE INPUT: true; the input reads as it did. -/
def mergeRunsSpec : ChangeSpec := { name := "mergeRuns", fn := fun _ => fun
  | [d1, d2, d3] => { results := [.lit (.bool true)], args := [d1, d2, d3] }
  | _ => none }
def mergeRunsRow : OpenClaim := { program := "ytdkknhpdjcdmfaagreat", sum := "fc76e2ceb92e2aa072872dae3bc08b43e4ac2f9decce7df8449947a2ec6db212", func := "turntable/turntablelaw31.MergeRuns", spec := "mergeRuns", recurses := true, apart := false }
def MergeRunsSaid : Prop := mergeRunsRow.holds Tryz.pinned (OpenSpec.ofChange mergeRunsSpec)

/-- ITS FALSE NEIGHBOUR: 'it returns false'. Refute it at one input. -/
def mergeRunsWrong : ChangeSpec := { name := "mergeRuns", fn := fun _ => fun
  | [d1, d2, d3] => { results := [.lit (.bool false)], args := [d1, d2, d3] }
  | _ => none }
def MergeRunsWrongFalsely : Prop := mergeRunsRow.holds Tryz.pinned (OpenSpec.ofChange mergeRunsWrong)

/-- 'turntablelaw31.MergeFolds': WHATEVER THE INPUT: true; the input reads as it did. -/
def mergeFoldsSpec : ChangeSpec := { name := "mergeFolds", fn := fun _ => fun
  | [d1, d2, d3] => { results := [.lit (.bool true)], args := [d1, d2, d3] }
  | _ => none }
def mergeFoldsRow : OpenClaim := { program := "ytdkknhpdjcdmfaagreat", sum := "fc76e2ceb92e2aa072872dae3bc08b43e4ac2f9decce7df8449947a2ec6db212", func := "turntable/turntablelaw31.MergeFolds", spec := "mergeFolds", recurses := true, apart := false }
def MergeFoldsSaid : Prop := mergeFoldsRow.holds Tryz.pinned (OpenSpec.ofChange mergeFoldsSpec)

/-- ITS FALSE NEIGHBOUR: 'it returns false'. Refute it at one input. -/
def mergeFoldsWrong : ChangeSpec := { name := "mergeFolds", fn := fun _ => fun
  | [d1, d2, d3] => { results := [.lit (.bool false)], args := [d1, d2, d3] }
  | _ => none }
def MergeFoldsWrongFalsely : Prop := mergeFoldsRow.holds Tryz.pinned (OpenSpec.ofChange mergeFoldsWrong)

/-- 'turntablelaw17.FreshTells': WHATEVER THE INPUT: true; the input reads as it did. -/
def freshTellsSpec : ChangeSpec := { name := "freshTells", fn := fun _ => fun
  | [d1, d2, d3] => { results := [.lit (.bool true)], args := [d1, d2, d3] }
  | _ => none }
def freshTellsRow : OpenClaim := { program := "ytdkknhpdjcdmfaagreat", sum := "fc76e2ceb92e2aa072872dae3bc08b43e4ac2f9decce7df8449947a2ec6db212", func := "turntable/turntablelaw17.FreshTells", spec := "freshTells", unfollowed := true, recurses := true, apart := false }
def FreshTellsSaid : Prop := freshTellsRow.holds Tryz.pinned (OpenSpec.ofChange freshTellsSpec)

/-- ITS FALSE NEIGHBOUR: 'it returns false'. Refute it at one input. -/
def freshTellsWrong : ChangeSpec := { name := "freshTells", fn := fun _ => fun
  | [d1, d2, d3] => { results := [.lit (.bool false)], args := [d1, d2, d3] }
  | _ => none }
def FreshTellsWrongFalsely : Prop := freshTellsRow.holds Tryz.pinned (OpenSpec.ofChange freshTellsWrong)

/-- 'turntablelaw17.FreshHolds': WHATEVER THE INPUT: true; the input reads as it did. -/
def freshHoldsSpec : ChangeSpec := { name := "freshHolds", fn := fun _ => fun
  | [d1, d2, d3] => { results := [.lit (.bool true)], args := [d1, d2, d3] }
  | _ => none }
def freshHoldsRow : OpenClaim := { program := "ytdkknhpdjcdmfaagreat", sum := "fc76e2ceb92e2aa072872dae3bc08b43e4ac2f9decce7df8449947a2ec6db212", func := "turntable/turntablelaw17.FreshHolds", spec := "freshHolds", unfollowed := true, recurses := true, apart := false }
def FreshHoldsSaid : Prop := freshHoldsRow.holds Tryz.pinned (OpenSpec.ofChange freshHoldsSpec)

/-- ITS FALSE NEIGHBOUR: 'it returns false'. Refute it at one input. -/
def freshHoldsWrong : ChangeSpec := { name := "freshHolds", fn := fun _ => fun
  | [d1, d2, d3] => { results := [.lit (.bool false)], args := [d1, d2, d3] }
  | _ => none }
def FreshHoldsWrongFalsely : Prop := freshHoldsRow.holds Tryz.pinned (OpenSpec.ofChange freshHoldsWrong)

/-- 'turntablelaw17.FreshEnds': WHATEVER THE INPUT: true; the input reads as it did. -/
def freshEndsSpec : ChangeSpec := { name := "freshEnds", fn := fun _ => fun
  | [d1, d2] => { results := [.lit (.bool true)], args := [d1, d2] }
  | _ => none }
def freshEndsRow : OpenClaim := { program := "ytdkknhpdjcdmfaagreat", sum := "fc76e2ceb92e2aa072872dae3bc08b43e4ac2f9decce7df8449947a2ec6db212", func := "turntable/turntablelaw17.FreshEnds", spec := "freshEnds", unfollowed := true, recurses := true, apart := false }
def FreshEndsSaid : Prop := freshEndsRow.holds Tryz.pinned (OpenSpec.ofChange freshEndsSpec)

/-- ITS FALSE NEIGHBOUR: 'it returns false'. Refute it at one input. -/
def freshEndsWrong : ChangeSpec := { name := "freshEnds", fn := fun _ => fun
  | [d1, d2] => { results := [.lit (.bool false)], args := [d1, d2] }
  | _ => none }
def FreshEndsWrongFalsely : Prop := freshEndsRow.holds Tryz.pinned (OpenSpec.ofChange freshEndsWrong)

/-- 'turntablelaw10.LoopsTells': WHATEVER THE INPUT: true; the input reads as it did. -/
def loopsTellsSpec : ChangeSpec := { name := "loopsTells", fn := fun _ => fun
  | [d1, d2] => { results := [.lit (.bool true)], args := [d1, d2] }
  | _ => none }
def loopsTellsRow : OpenClaim := { program := "ytdkknhpdjcdmfaagreat", sum := "fc76e2ceb92e2aa072872dae3bc08b43e4ac2f9decce7df8449947a2ec6db212", func := "turntable/turntablelaw10.LoopsTells", spec := "loopsTells", unfollowed := true, recurses := true, apart := false }
def LoopsTellsSaid : Prop := loopsTellsRow.holds Tryz.pinned (OpenSpec.ofChange loopsTellsSpec)

/-- ITS FALSE NEIGHBOUR: 'it returns false'. Refute it at one input. -/
def loopsTellsWrong : ChangeSpec := { name := "loopsTells", fn := fun _ => fun
  | [d1, d2] => { results := [.lit (.bool false)], args := [d1, d2] }
  | _ => none }
def LoopsTellsWrongFalsely : Prop := loopsTellsRow.holds Tryz.pinned (OpenSpec.ofChange loopsTellsWrong)

/-- 'turntablelaw10.LoopsClosed': WHATEVER THE INPUT: true; the input reads as it did. -/
def loopsClosedSpec : ChangeSpec := { name := "loopsClosed", fn := fun _ => fun
  | [d] => { results := [.lit (.bool true)], args := [d] }
  | _ => none }
def loopsClosedRow : OpenClaim := { program := "ytdkknhpdjcdmfaagreat", sum := "fc76e2ceb92e2aa072872dae3bc08b43e4ac2f9decce7df8449947a2ec6db212", func := "turntable/turntablelaw10.LoopsClosed", spec := "loopsClosed", unfollowed := true, recurses := true, apart := false }
def LoopsClosedSaid : Prop := loopsClosedRow.holds Tryz.pinned (OpenSpec.ofChange loopsClosedSpec)

/-- ITS FALSE NEIGHBOUR: 'it returns false'. Refute it at one input. -/
def loopsClosedWrong : ChangeSpec := { name := "loopsClosed", fn := fun _ => fun
  | [d] => { results := [.lit (.bool false)], args := [d] }
  | _ => none }
def LoopsClosedWrongFalsely : Prop := loopsClosedRow.holds Tryz.pinned (OpenSpec.ofChange loopsClosedWrong)

/-- 'turntablelaw10.LoopsNested': WHATEVER THE INPUT: true; the input reads as it did. -/
def loopsNestedSpec : ChangeSpec := { name := "loopsNested", fn := fun _ => fun
  | [d] => { results := [.lit (.bool true)], args := [d] }
  | _ => none }
def loopsNestedRow : OpenClaim := { program := "ytdkknhpdjcdmfaagreat", sum := "fc76e2ceb92e2aa072872dae3bc08b43e4ac2f9decce7df8449947a2ec6db212", func := "turntable/turntablelaw10.LoopsNested", spec := "loopsNested", unfollowed := true, recurses := true, apart := false }
def LoopsNestedSaid : Prop := loopsNestedRow.holds Tryz.pinned (OpenSpec.ofChange loopsNestedSpec)

/-- ITS FALSE NEIGHBOUR: 'it returns false'. Refute it at one input. -/
def loopsNestedWrong : ChangeSpec := { name := "loopsNested", fn := fun _ => fun
  | [d] => { results := [.lit (.bool false)], args := [d] }
  | _ => none }
def LoopsNestedWrongFalsely : Prop := loopsNestedRow.holds Tryz.pinned (OpenSpec.ofChange loopsNestedWrong)

/- THE SECOND FORM. 'bulk': how many values and letters a reading holds, each counted each time it is reached (what is shared counts as often as it is met; a slice's spare places count too). A statement '..UptoSaid' is the law's where the arguments, and the package variables that the reading takes, are together of bulk at most 1048576: NARROWER than '..Said'. Prove '..Said' where nothing that the law and all that it calls make is longer than what came in: it says more and counts as full. Else prove '..UptoSaid'. A law counts once. -/
mutual
def uptoBulk {H : Type} : DataW H → Nat
  | .lit (.string bytes) => bytes.length + 1
  | .lit _ => 1
  | .nil => 1
  | .ptr d => uptoBulk d + 1
  | .slice elems spare => uptoBulkAll elems + uptoBulkAll spare + 1
  | .agg parts => uptoBulkAll parts + 1
  | .iface _ d => uptoBulk d + 1
  | .map entries => uptoBulkEntries entries + 1
  | .held _ => 1
def uptoBulkAll {H : Type} : List (DataW H) → Nat
  | [] => 0
  | d :: r => uptoBulk d + uptoBulkAll r
def uptoBulkEntries {H : Type} : List (Lit × DataW H) → Nat
  | [] => 0
  | x :: r => uptoBulkEntry x + uptoBulkEntries r
def uptoBulkEntry {H : Type} : Lit × DataW H → Nat
  | (.string bytes, d) => bytes.length + uptoBulk d + 1
  | (_, d) => uptoBulk d + 1
 end
def uptoSmall : (H : Type) → List (DataW H) → Bool := fun _ ds => decide (uptoBulkAll ds ≤ 1048576)
def OpenSpec.upto (s : _root_.Go.ChangeSpec) : _root_.Go.OpenSpec := { _root_.Go.OpenSpec.ofChange s with cond := some uptoSmall }

/-- 'turntablelaw31.MergeRuns', WHERE WHAT IT READS IS OF BULK AT MOST 1048576: true; the input reads as it did. -/
def mergeRunsUptoRow : OpenClaim := { program := "ytdkknhpdjcdmfaagreat", sum := "fc76e2ceb92e2aa072872dae3bc08b43e4ac2f9decce7df8449947a2ec6db212", func := "turntable/turntablelaw31.MergeRuns", spec := "mergeRuns", recurses := true, apart := false, narrowed := true }
def MergeRunsUptoSaid : Prop := mergeRunsUptoRow.holds Tryz.pinned (OpenSpec.upto mergeRunsSpec)

/-- 'turntablelaw31.MergeFolds', WHERE WHAT IT READS IS OF BULK AT MOST 1048576: true; the input reads as it did. -/
def mergeFoldsUptoRow : OpenClaim := { program := "ytdkknhpdjcdmfaagreat", sum := "fc76e2ceb92e2aa072872dae3bc08b43e4ac2f9decce7df8449947a2ec6db212", func := "turntable/turntablelaw31.MergeFolds", spec := "mergeFolds", recurses := true, apart := false, narrowed := true }
def MergeFoldsUptoSaid : Prop := mergeFoldsUptoRow.holds Tryz.pinned (OpenSpec.upto mergeFoldsSpec)

/-- 'turntablelaw17.FreshTells', WHERE WHAT IT READS IS OF BULK AT MOST 1048576: true; the input reads as it did. -/
def freshTellsUptoRow : OpenClaim := { program := "ytdkknhpdjcdmfaagreat", sum := "fc76e2ceb92e2aa072872dae3bc08b43e4ac2f9decce7df8449947a2ec6db212", func := "turntable/turntablelaw17.FreshTells", spec := "freshTells", unfollowed := true, recurses := true, apart := false, narrowed := true }
def FreshTellsUptoSaid : Prop := freshTellsUptoRow.holds Tryz.pinned (OpenSpec.upto freshTellsSpec)

/-- 'turntablelaw17.FreshHolds', WHERE WHAT IT READS IS OF BULK AT MOST 1048576: true; the input reads as it did. -/
def freshHoldsUptoRow : OpenClaim := { program := "ytdkknhpdjcdmfaagreat", sum := "fc76e2ceb92e2aa072872dae3bc08b43e4ac2f9decce7df8449947a2ec6db212", func := "turntable/turntablelaw17.FreshHolds", spec := "freshHolds", unfollowed := true, recurses := true, apart := false, narrowed := true }
def FreshHoldsUptoSaid : Prop := freshHoldsUptoRow.holds Tryz.pinned (OpenSpec.upto freshHoldsSpec)

/-- 'turntablelaw17.FreshEnds', WHERE WHAT IT READS IS OF BULK AT MOST 1048576: true; the input reads as it did. -/
def freshEndsUptoRow : OpenClaim := { program := "ytdkknhpdjcdmfaagreat", sum := "fc76e2ceb92e2aa072872dae3bc08b43e4ac2f9decce7df8449947a2ec6db212", func := "turntable/turntablelaw17.FreshEnds", spec := "freshEnds", unfollowed := true, recurses := true, apart := false, narrowed := true }
def FreshEndsUptoSaid : Prop := freshEndsUptoRow.holds Tryz.pinned (OpenSpec.upto freshEndsSpec)

/-- 'turntablelaw10.LoopsTells', WHERE WHAT IT READS IS OF BULK AT MOST 1048576: true; the input reads as it did. -/
def loopsTellsUptoRow : OpenClaim := { program := "ytdkknhpdjcdmfaagreat", sum := "fc76e2ceb92e2aa072872dae3bc08b43e4ac2f9decce7df8449947a2ec6db212", func := "turntable/turntablelaw10.LoopsTells", spec := "loopsTells", unfollowed := true, recurses := true, apart := false, narrowed := true }
def LoopsTellsUptoSaid : Prop := loopsTellsUptoRow.holds Tryz.pinned (OpenSpec.upto loopsTellsSpec)

/-- 'turntablelaw10.LoopsClosed', WHERE WHAT IT READS IS OF BULK AT MOST 1048576: true; the input reads as it did. -/
def loopsClosedUptoRow : OpenClaim := { program := "ytdkknhpdjcdmfaagreat", sum := "fc76e2ceb92e2aa072872dae3bc08b43e4ac2f9decce7df8449947a2ec6db212", func := "turntable/turntablelaw10.LoopsClosed", spec := "loopsClosed", unfollowed := true, recurses := true, apart := false, narrowed := true }
def LoopsClosedUptoSaid : Prop := loopsClosedUptoRow.holds Tryz.pinned (OpenSpec.upto loopsClosedSpec)

/-- 'turntablelaw10.LoopsNested', WHERE WHAT IT READS IS OF BULK AT MOST 1048576: true; the input reads as it did. -/
def loopsNestedUptoRow : OpenClaim := { program := "ytdkknhpdjcdmfaagreat", sum := "fc76e2ceb92e2aa072872dae3bc08b43e4ac2f9decce7df8449947a2ec6db212", func := "turntable/turntablelaw10.LoopsNested", spec := "loopsNested", unfollowed := true, recurses := true, apart := false, narrowed := true }
def LoopsNestedUptoSaid : Prop := loopsNestedUptoRow.holds Tryz.pinned (OpenSpec.upto loopsNestedSpec)

end Rows
end Go.Proofs.YtdkknhpdjcdmfaaGreat
