/-
  No cell of these rows narrows 'for every input' (looked for: loops, veiled, ifaces, maps, wideKeys, modest, calm, conditions, laid).
  DERIVED. THE GIVEN ROWS OF THIS SEAT. 7 by the template 'for every input the law returns true; each argument reads behind the call as it read before'; 0 by the template 'total and deterministic' (their statements: YtdkknhpdjcdmfaaTotals.lean).
  GIVEN WITH THE SEED: the statements are not yours to turn. If you find one false, say at which input.
  Laid BY PROGRAM, IN A SANDBOX (cutbox-rows.mjs): the forced cells as the released guide's own fill.sh prints them over the translation addd1f244f72e14f… (all of the seat's roots in one cut). By AI agents, Wed Nov 11 2026. No macro, syntax, notation, axiom, sorry.
-/
import Derived.Test.YtdkknhpdjcdmfaaChecked
import GoSem.Claim
import GoSem.ClaimJoined
import GoSem.ClaimMapViews
import Derived.JoinedTies
import Derived.KernelRfl
namespace Go.Proofs.Ytdkknhpdjcdmfaa
/- THE CELL 'sum', in the pinned program and in every row, IS THE sha256 OF THE DUMP (.gsa) THAT YtdkknhpdjcdmfaaProg.lean LOADS. Nothing in Lean hashes anything: it is a label: what it is worth is what the hold of that sum in a sandbox is worth. -/
noncomputable def Try.pinned : Pinned := { name := "ytdkknhpdjcdmfaa", sum := "addd1f244f72e14f779a487a2156b1433ddfa75f6d895d994d82cdd4ad2180fd", checked := Try.checked }
namespace Rows
def none {H : Type} : Left H := { results := [], args := [] }

/-- 'turntablelaw31.MergeTells': WHATEVER THE INPUT: true; the input reads as it did. -/
def mergeTellsSpec : ChangeSpec := { name := "mergeTells", fn := fun _ => fun
  | [d] => { results := [.lit (.bool true)], args := [d] }
  | _ => none }
def mergeTellsRow : OpenClaim := { program := "ytdkknhpdjcdmfaa", sum := "addd1f244f72e14f779a487a2156b1433ddfa75f6d895d994d82cdd4ad2180fd", func := "turntable/turntablelaw31.MergeTells", spec := "mergeTells", recurses := true, apart := false }
def MergeTellsSaid : Prop := mergeTellsRow.holds Try.pinned (OpenSpec.ofChange mergeTellsSpec)

/-- ITS FALSE NEIGHBOUR: 'it returns false'. Refute it at one input. -/
def mergeTellsWrong : ChangeSpec := { name := "mergeTells", fn := fun _ => fun
  | [d] => { results := [.lit (.bool false)], args := [d] }
  | _ => none }
def MergeTellsWrongFalsely : Prop := mergeTellsRow.holds Try.pinned (OpenSpec.ofChange mergeTellsWrong)

/-- 'turntablelaw31.MergeLeaves': WHATEVER THE INPUT: true; the input reads as it did. -/
def mergeLeavesSpec : ChangeSpec := { name := "mergeLeaves", fn := fun _ => fun
  | [d] => { results := [.lit (.bool true)], args := [d] }
  | _ => none }
def mergeLeavesRow : OpenClaim := { program := "ytdkknhpdjcdmfaa", sum := "addd1f244f72e14f779a487a2156b1433ddfa75f6d895d994d82cdd4ad2180fd", func := "turntable/turntablelaw31.MergeLeaves", spec := "mergeLeaves", recurses := true, apart := false }
def MergeLeavesSaid : Prop := mergeLeavesRow.holds Try.pinned (OpenSpec.ofChange mergeLeavesSpec)

/-- ITS FALSE NEIGHBOUR: 'it returns false'. Refute it at one input. -/
def mergeLeavesWrong : ChangeSpec := { name := "mergeLeaves", fn := fun _ => fun
  | [d] => { results := [.lit (.bool false)], args := [d] }
  | _ => none }
def MergeLeavesWrongFalsely : Prop := mergeLeavesRow.holds Try.pinned (OpenSpec.ofChange mergeLeavesWrong)

/-- 'turntablelaw25.MapsChecks': WHATEVER THE INPUT: true; the input reads as it did. -/
def mapsChecksSpec : ChangeSpec := { name := "mapsChecks", fn := fun _ => fun
  | [d1, d2] => { results := [.lit (.bool true)], args := [d1, d2] }
  | _ => none }
def mapsChecksRow : OpenClaim := { program := "ytdkknhpdjcdmfaa", sum := "addd1f244f72e14f779a487a2156b1433ddfa75f6d895d994d82cdd4ad2180fd", func := "turntable/turntablelaw25.MapsChecks", spec := "mapsChecks", unfollowed := true, recurses := true, apart := false }
def MapsChecksSaid : Prop := mapsChecksRow.holds Try.pinned (OpenSpec.ofChange mapsChecksSpec)

/-- ITS FALSE NEIGHBOUR: 'it returns false'. Refute it at one input. -/
def mapsChecksWrong : ChangeSpec := { name := "mapsChecks", fn := fun _ => fun
  | [d1, d2] => { results := [.lit (.bool false)], args := [d1, d2] }
  | _ => none }
def MapsChecksWrongFalsely : Prop := mapsChecksRow.holds Try.pinned (OpenSpec.ofChange mapsChecksWrong)

/-- 'turntablelaw25.MapsBack': WHATEVER THE INPUT: true; the input reads as it did. -/
def mapsBackSpec : ChangeSpec := { name := "mapsBack", fn := fun _ => fun
  | [d1, d2] => { results := [.lit (.bool true)], args := [d1, d2] }
  | _ => none }
def mapsBackRow : OpenClaim := { program := "ytdkknhpdjcdmfaa", sum := "addd1f244f72e14f779a487a2156b1433ddfa75f6d895d994d82cdd4ad2180fd", func := "turntable/turntablelaw25.MapsBack", spec := "mapsBack", unfollowed := true, recurses := true, apart := false }
def MapsBackSaid : Prop := mapsBackRow.holds Try.pinned (OpenSpec.ofChange mapsBackSpec)

/-- ITS FALSE NEIGHBOUR: 'it returns false'. Refute it at one input. -/
def mapsBackWrong : ChangeSpec := { name := "mapsBack", fn := fun _ => fun
  | [d1, d2] => { results := [.lit (.bool false)], args := [d1, d2] }
  | _ => none }
def MapsBackWrongFalsely : Prop := mapsBackRow.holds Try.pinned (OpenSpec.ofChange mapsBackWrong)

/-- 'turntablelaw09.DomTells': WHATEVER THE INPUT: true; the input reads as it did. -/
def domTellsSpec : ChangeSpec := { name := "domTells", fn := fun _ => fun
  | [d1, d2, d3] => { results := [.lit (.bool true)], args := [d1, d2, d3] }
  | _ => none }
def domTellsRow : OpenClaim := { program := "ytdkknhpdjcdmfaa", sum := "addd1f244f72e14f779a487a2156b1433ddfa75f6d895d994d82cdd4ad2180fd", func := "turntable/turntablelaw09.DomTells", spec := "domTells", unfollowed := true, recurses := true, apart := false }
def DomTellsSaid : Prop := domTellsRow.holds Try.pinned (OpenSpec.ofChange domTellsSpec)

/-- ITS FALSE NEIGHBOUR: 'it returns false'. Refute it at one input. -/
def domTellsWrong : ChangeSpec := { name := "domTells", fn := fun _ => fun
  | [d1, d2, d3] => { results := [.lit (.bool false)], args := [d1, d2, d3] }
  | _ => none }
def DomTellsWrongFalsely : Prop := domTellsRow.holds Try.pinned (OpenSpec.ofChange domTellsWrong)

/-- 'turntablelaw09.DomWays': WHATEVER THE INPUT: true; the input reads as it did. -/
def domWaysSpec : ChangeSpec := { name := "domWays", fn := fun _ => fun
  | [d1, d2] => { results := [.lit (.bool true)], args := [d1, d2] }
  | _ => none }
def domWaysRow : OpenClaim := { program := "ytdkknhpdjcdmfaa", sum := "addd1f244f72e14f779a487a2156b1433ddfa75f6d895d994d82cdd4ad2180fd", func := "turntable/turntablelaw09.DomWays", spec := "domWays", unfollowed := true, recurses := true, apart := false }
def DomWaysSaid : Prop := domWaysRow.holds Try.pinned (OpenSpec.ofChange domWaysSpec)

/-- ITS FALSE NEIGHBOUR: 'it returns false'. Refute it at one input. -/
def domWaysWrong : ChangeSpec := { name := "domWays", fn := fun _ => fun
  | [d1, d2] => { results := [.lit (.bool false)], args := [d1, d2] }
  | _ => none }
def DomWaysWrongFalsely : Prop := domWaysRow.holds Try.pinned (OpenSpec.ofChange domWaysWrong)

/-- 'turntablelaw09.DomOrders': WHATEVER THE INPUT: true; the input reads as it did. -/
def domOrdersSpec : ChangeSpec := { name := "domOrders", fn := fun _ => fun
  | [d1, d2, d3, d4] => { results := [.lit (.bool true)], args := [d1, d2, d3, d4] }
  | _ => none }
def domOrdersRow : OpenClaim := { program := "ytdkknhpdjcdmfaa", sum := "addd1f244f72e14f779a487a2156b1433ddfa75f6d895d994d82cdd4ad2180fd", func := "turntable/turntablelaw09.DomOrders", spec := "domOrders", unfollowed := true, recurses := true, apart := false }
def DomOrdersSaid : Prop := domOrdersRow.holds Try.pinned (OpenSpec.ofChange domOrdersSpec)

/-- ITS FALSE NEIGHBOUR: 'it returns false'. Refute it at one input. -/
def domOrdersWrong : ChangeSpec := { name := "domOrders", fn := fun _ => fun
  | [d1, d2, d3, d4] => { results := [.lit (.bool false)], args := [d1, d2, d3, d4] }
  | _ => none }
def DomOrdersWrongFalsely : Prop := domOrdersRow.holds Try.pinned (OpenSpec.ofChange domOrdersWrong)

/- THE SECOND FORM. 'bulk': how many values and letters a reading holds, each counted each time it is reached (what is shared counts as often as it is met; a slice's spare places count too). A statement '..UptoSaid' is the law's where the arguments, and the package variables that the reading takes, are together of bulk at most 1048576: NARROWER than '..Said'. Prove '..Said' where nothing that the law and all that it calls make is longer than what came in: it says more and counts as full. Else prove '..UptoSaid'. A law counts once. -/
mutual
def uptoBulk {H : Type} : DataW H → Nat
  | .lit (.string bytes) => bytes.length + 1
  | .lit _ => 1
  | .nil => 1
  | .ptr d => uptoBulk d + 1
  | .slice elems spare => uptoBulkAll elems + uptoBulkAll spare + 1
  | .agg parts => uptoBulkAll parts + 1
  | .iface _ d => uptoBulk d + 1
  | .map entries => uptoBulkEntries entries + 1
  | .held _ => 1
def uptoBulkAll {H : Type} : List (DataW H) → Nat
  | [] => 0
  | d :: r => uptoBulk d + uptoBulkAll r
def uptoBulkEntries {H : Type} : List (Lit × DataW H) → Nat
  | [] => 0
  | x :: r => uptoBulkEntry x + uptoBulkEntries r
def uptoBulkEntry {H : Type} : Lit × DataW H → Nat
  | (.string bytes, d) => bytes.length + uptoBulk d + 1
  | (_, d) => uptoBulk d + 1
 end
def uptoSmall : (H : Type) → List (DataW H) → Bool := fun _ ds => decide (uptoBulkAll ds ≤ 1048576)
def OpenSpec.upto (s : _root_.Go.ChangeSpec) : _root_.Go.OpenSpec := { _root_.Go.OpenSpec.ofChange s with cond := some uptoSmall }

/-- 'turntablelaw31.MergeTells', WHERE WHAT IT READS IS OF BULK AT MOST 1048576: true; the input reads as it did. -/
def mergeTellsUptoRow : OpenClaim := { program := "ytdkknhpdjcdmfaa", sum := "addd1f244f72e14f779a487a2156b1433ddfa75f6d895d994d82cdd4ad2180fd", func := "turntable/turntablelaw31.MergeTells", spec := "mergeTells", recurses := true, apart := false, narrowed := true }
def MergeTellsUptoSaid : Prop := mergeTellsUptoRow.holds Try.pinned (OpenSpec.upto mergeTellsSpec)

/-- 'turntablelaw31.MergeLeaves', WHERE WHAT IT READS IS OF BULK AT MOST 1048576: true; the input reads as it did. -/
def mergeLeavesUptoRow : OpenClaim := { program := "ytdkknhpdjcdmfaa", sum := "addd1f244f72e14f779a487a2156b1433ddfa75f6d895d994d82cdd4ad2180fd", func := "turntable/turntablelaw31.MergeLeaves", spec := "mergeLeaves", recurses := true, apart := false, narrowed := true }
def MergeLeavesUptoSaid : Prop := mergeLeavesUptoRow.holds Try.pinned (OpenSpec.upto mergeLeavesSpec)

/-- 'turntablelaw25.MapsChecks', WHERE WHAT IT READS IS OF BULK AT MOST 1048576: true; the input reads as it did. -/
def mapsChecksUptoRow : OpenClaim := { program := "ytdkknhpdjcdmfaa", sum := "addd1f244f72e14f779a487a2156b1433ddfa75f6d895d994d82cdd4ad2180fd", func := "turntable/turntablelaw25.MapsChecks", spec := "mapsChecks", unfollowed := true, recurses := true, apart := false, narrowed := true }
def MapsChecksUptoSaid : Prop := mapsChecksUptoRow.holds Try.pinned (OpenSpec.upto mapsChecksSpec)

/-- 'turntablelaw25.MapsBack', WHERE WHAT IT READS IS OF BULK AT MOST 1048576: true; the input reads as it did. -/
def mapsBackUptoRow : OpenClaim := { program := "ytdkknhpdjcdmfaa", sum := "addd1f244f72e14f779a487a2156b1433ddfa75f6d895d994d82cdd4ad2180fd", func := "turntable/turntablelaw25.MapsBack", spec := "mapsBack", unfollowed := true, recurses := true, apart := false, narrowed := true }
def MapsBackUptoSaid : Prop := mapsBackUptoRow.holds Try.pinned (OpenSpec.upto mapsBackSpec)

/-- 'turntablelaw09.DomTells', WHERE WHAT IT READS IS OF BULK AT MOST 1048576: true; the input reads as it did. -/
def domTellsUptoRow : OpenClaim := { program := "ytdkknhpdjcdmfaa", sum := "addd1f244f72e14f779a487a2156b1433ddfa75f6d895d994d82cdd4ad2180fd", func := "turntable/turntablelaw09.DomTells", spec := "domTells", unfollowed := true, recurses := true, apart := false, narrowed := true }
def DomTellsUptoSaid : Prop := domTellsUptoRow.holds Try.pinned (OpenSpec.upto domTellsSpec)

/-- 'turntablelaw09.DomWays', WHERE WHAT IT READS IS OF BULK AT MOST 1048576: true; the input reads as it did. -/
def domWaysUptoRow : OpenClaim := { program := "ytdkknhpdjcdmfaa", sum := "addd1f244f72e14f779a487a2156b1433ddfa75f6d895d994d82cdd4ad2180fd", func := "turntable/turntablelaw09.DomWays", spec := "domWays", unfollowed := true, recurses := true, apart := false, narrowed := true }
def DomWaysUptoSaid : Prop := domWaysUptoRow.holds Try.pinned (OpenSpec.upto domWaysSpec)

/-- 'turntablelaw09.DomOrders', WHERE WHAT IT READS IS OF BULK AT MOST 1048576: true; the input reads as it did. -/
def domOrdersUptoRow : OpenClaim := { program := "ytdkknhpdjcdmfaa", sum := "addd1f244f72e14f779a487a2156b1433ddfa75f6d895d994d82cdd4ad2180fd", func := "turntable/turntablelaw09.DomOrders", spec := "domOrders", unfollowed := true, recurses := true, apart := false, narrowed := true }
def DomOrdersUptoSaid : Prop := domOrdersUptoRow.holds Try.pinned (OpenSpec.upto domOrdersSpec)

end Rows
end Go.Proofs.Ytdkknhpdjcdmfaa
