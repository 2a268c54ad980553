/-
  No cell of these rows narrows 'for every input' (looked for: loops, veiled, ifaces, maps, wideKeys, modest, calm, conditions, laid).
  DERIVED. THE GIVEN ROWS OF THIS SEAT. 4 by the template 'for every input the law returns true; each argument reads behind the call as it read before'; 0 by the template 'total and deterministic' (their statements: YtkbdhjfjbkmkcaaGreatTotals.lean).
  GIVEN WITH THE SEED: the statements are not yours to turn. If you find one false, say at which input.
  Laid BY PROGRAM, IN A SANDBOX (cutbox-rows.mjs): the forced cells as the released guide's own fill.sh prints them over the translation 2d47763c6e4d8cb0… (all of the seat's roots in one cut). By AI agents, Wed Nov 11 2026. No macro, syntax, notation, axiom, sorry.
-/
import Derived.Test.YtkbdhjfjbkmkcaaGreatChecked
import GoSem.Claim
import GoSem.ClaimJoined
import GoSem.ClaimMapViews
import Derived.JoinedTies
import Derived.KernelRfl
namespace Go.Proofs.YtkbdhjfjbkmkcaaGreat
/- THE CELL 'sum', in the pinned program and in every row, IS THE sha256 OF THE DUMP (.gsa) THAT YtkbdhjfjbkmkcaaGreatProg.lean LOADS. Nothing in Lean hashes anything: it is a label: what it is worth is what the hold of that sum in a sandbox is worth. -/
noncomputable def Tryz.pinned : Pinned := { name := "ytkbdhjfjbkmkcaagreat", sum := "2d47763c6e4d8cb0f095292c46eb4a0e3c119976227c0e631a7eca999623cdda", checked := Tryz.checked }
namespace Rows
def none {H : Type} : Left H := { results := [], args := [] }

/-- 'turntablelaw11.WellChecks': WHATEVER THE INPUT: true; the input reads as it did. -/
def wellChecksSpec : ChangeSpec := { name := "wellChecks", fn := fun _ => fun
  | [d] => { results := [.lit (.bool true)], args := [d] }
  | _ => none }
def wellChecksRow : OpenClaim := { program := "ytkbdhjfjbkmkcaagreat", sum := "2d47763c6e4d8cb0f095292c46eb4a0e3c119976227c0e631a7eca999623cdda", func := "turntable/turntablelaw11.WellChecks", spec := "wellChecks", unfollowed := true, recurses := true, apart := false }
def WellChecksSaid : Prop := wellChecksRow.holds Tryz.pinned (OpenSpec.ofChange wellChecksSpec)

/-- ITS FALSE NEIGHBOUR: 'it returns false'. Refute it at one input. -/
def wellChecksWrong : ChangeSpec := { name := "wellChecks", fn := fun _ => fun
  | [d] => { results := [.lit (.bool false)], args := [d] }
  | _ => none }
def WellChecksWrongFalsely : Prop := wellChecksRow.holds Tryz.pinned (OpenSpec.ofChange wellChecksWrong)

/-- 'turntablelaw11.WellTypes': WHATEVER THE INPUT: true; the input reads as it did. -/
def wellTypesSpec : ChangeSpec := { name := "wellTypes", fn := fun _ => fun
  | [d1, d2, d3] => { results := [.lit (.bool true)], args := [d1, d2, d3] }
  | _ => none }
def wellTypesRow : OpenClaim := { program := "ytkbdhjfjbkmkcaagreat", sum := "2d47763c6e4d8cb0f095292c46eb4a0e3c119976227c0e631a7eca999623cdda", func := "turntable/turntablelaw11.WellTypes", spec := "wellTypes", unfollowed := true, recurses := true, apart := false }
def WellTypesSaid : Prop := wellTypesRow.holds Tryz.pinned (OpenSpec.ofChange wellTypesSpec)

/-- ITS FALSE NEIGHBOUR: 'it returns false'. Refute it at one input. -/
def wellTypesWrong : ChangeSpec := { name := "wellTypes", fn := fun _ => fun
  | [d1, d2, d3] => { results := [.lit (.bool false)], args := [d1, d2, d3] }
  | _ => none }
def WellTypesWrongFalsely : Prop := wellTypesRow.holds Tryz.pinned (OpenSpec.ofChange wellTypesWrong)

/-- 'turntablelaw11.WellWays': WHATEVER THE INPUT: true; the input reads as it did. -/
def wellWaysSpec : ChangeSpec := { name := "wellWays", fn := fun _ => fun
  | [d1, d2, d3] => { results := [.lit (.bool true)], args := [d1, d2, d3] }
  | _ => none }
def wellWaysRow : OpenClaim := { program := "ytkbdhjfjbkmkcaagreat", sum := "2d47763c6e4d8cb0f095292c46eb4a0e3c119976227c0e631a7eca999623cdda", func := "turntable/turntablelaw11.WellWays", spec := "wellWays", unfollowed := true, recurses := true, apart := false }
def WellWaysSaid : Prop := wellWaysRow.holds Tryz.pinned (OpenSpec.ofChange wellWaysSpec)

/-- ITS FALSE NEIGHBOUR: 'it returns false'. Refute it at one input. -/
def wellWaysWrong : ChangeSpec := { name := "wellWays", fn := fun _ => fun
  | [d1, d2, d3] => { results := [.lit (.bool false)], args := [d1, d2, d3] }
  | _ => none }
def WellWaysWrongFalsely : Prop := wellWaysRow.holds Tryz.pinned (OpenSpec.ofChange wellWaysWrong)

/-- 'turntablelaw11.WellOnce': WHATEVER THE INPUT: true; the input reads as it did. -/
def wellOnceSpec : ChangeSpec := { name := "wellOnce", fn := fun _ => fun
  | [d] => { results := [.lit (.bool true)], args := [d] }
  | _ => none }
def wellOnceRow : OpenClaim := { program := "ytkbdhjfjbkmkcaagreat", sum := "2d47763c6e4d8cb0f095292c46eb4a0e3c119976227c0e631a7eca999623cdda", func := "turntable/turntablelaw11.WellOnce", spec := "wellOnce", unfollowed := true, recurses := true, apart := false }
def WellOnceSaid : Prop := wellOnceRow.holds Tryz.pinned (OpenSpec.ofChange wellOnceSpec)

/-- ITS FALSE NEIGHBOUR: 'it returns false'. Refute it at one input. -/
def wellOnceWrong : ChangeSpec := { name := "wellOnce", fn := fun _ => fun
  | [d] => { results := [.lit (.bool false)], args := [d] }
  | _ => none }
def WellOnceWrongFalsely : Prop := wellOnceRow.holds Tryz.pinned (OpenSpec.ofChange wellOnceWrong)

/- THE SECOND FORM. 'bulk': how many values and letters a reading holds, each counted each time it is reached (what is shared counts as often as it is met; a slice's spare places count too). A statement '..UptoSaid' is the law's where the arguments, and the package variables that the reading takes, are together of bulk at most 1048576: NARROWER than '..Said'. Prove '..Said' where nothing that the law and all that it calls make is longer than what came in: it says more and counts as full. Else prove '..UptoSaid'. A law counts once. -/
mutual
def uptoBulk {H : Type} : DataW H → Nat
  | .lit (.string bytes) => bytes.length + 1
  | .lit _ => 1
  | .nil => 1
  | .ptr d => uptoBulk d + 1
  | .slice elems spare => uptoBulkAll elems + uptoBulkAll spare + 1
  | .agg parts => uptoBulkAll parts + 1
  | .iface _ d => uptoBulk d + 1
  | .map entries => uptoBulkEntries entries + 1
  | .held _ => 1
def uptoBulkAll {H : Type} : List (DataW H) → Nat
  | [] => 0
  | d :: r => uptoBulk d + uptoBulkAll r
def uptoBulkEntries {H : Type} : List (Lit × DataW H) → Nat
  | [] => 0
  | x :: r => uptoBulkEntry x + uptoBulkEntries r
def uptoBulkEntry {H : Type} : Lit × DataW H → Nat
  | (.string bytes, d) => bytes.length + uptoBulk d + 1
  | (_, d) => uptoBulk d + 1
 end
def uptoSmall : (H : Type) → List (DataW H) → Bool := fun _ ds => decide (uptoBulkAll ds ≤ 1048576)
def OpenSpec.upto (s : _root_.Go.ChangeSpec) : _root_.Go.OpenSpec := { _root_.Go.OpenSpec.ofChange s with cond := some uptoSmall }

/-- 'turntablelaw11.WellChecks', WHERE WHAT IT READS IS OF BULK AT MOST 1048576: true; the input reads as it did. -/
def wellChecksUptoRow : OpenClaim := { program := "ytkbdhjfjbkmkcaagreat", sum := "2d47763c6e4d8cb0f095292c46eb4a0e3c119976227c0e631a7eca999623cdda", func := "turntable/turntablelaw11.WellChecks", spec := "wellChecks", unfollowed := true, recurses := true, apart := false, narrowed := true }
def WellChecksUptoSaid : Prop := wellChecksUptoRow.holds Tryz.pinned (OpenSpec.upto wellChecksSpec)

/-- 'turntablelaw11.WellTypes', WHERE WHAT IT READS IS OF BULK AT MOST 1048576: true; the input reads as it did. -/
def wellTypesUptoRow : OpenClaim := { program := "ytkbdhjfjbkmkcaagreat", sum := "2d47763c6e4d8cb0f095292c46eb4a0e3c119976227c0e631a7eca999623cdda", func := "turntable/turntablelaw11.WellTypes", spec := "wellTypes", unfollowed := true, recurses := true, apart := false, narrowed := true }
def WellTypesUptoSaid : Prop := wellTypesUptoRow.holds Tryz.pinned (OpenSpec.upto wellTypesSpec)

/-- 'turntablelaw11.WellWays', WHERE WHAT IT READS IS OF BULK AT MOST 1048576: true; the input reads as it did. -/
def wellWaysUptoRow : OpenClaim := { program := "ytkbdhjfjbkmkcaagreat", sum := "2d47763c6e4d8cb0f095292c46eb4a0e3c119976227c0e631a7eca999623cdda", func := "turntable/turntablelaw11.WellWays", spec := "wellWays", unfollowed := true, recurses := true, apart := false, narrowed := true }
def WellWaysUptoSaid : Prop := wellWaysUptoRow.holds Tryz.pinned (OpenSpec.upto wellWaysSpec)

/-- 'turntablelaw11.WellOnce', WHERE WHAT IT READS IS OF BULK AT MOST 1048576: true; the input reads as it did. -/
def wellOnceUptoRow : OpenClaim := { program := "ytkbdhjfjbkmkcaagreat", sum := "2d47763c6e4d8cb0f095292c46eb4a0e3c119976227c0e631a7eca999623cdda", func := "turntable/turntablelaw11.WellOnce", spec := "wellOnce", unfollowed := true, recurses := true, apart := false, narrowed := true }
def WellOnceUptoSaid : Prop := wellOnceUptoRow.holds Tryz.pinned (OpenSpec.upto wellOnceSpec)

end Rows
end Go.Proofs.YtkbdhjfjbkmkcaaGreat
