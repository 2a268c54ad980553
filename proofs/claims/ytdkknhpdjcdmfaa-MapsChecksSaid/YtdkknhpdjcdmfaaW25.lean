/- The example of the law of maps, as the machine runs it. -/
import Derived.Test.YtdkknhpdjcdmfaaCfg
import Derived.Test.YtdkknhpdjcdmfaaAbs25
namespace Go.Proofs.Ytdkknhpdjcdmfaa.Abs
open Go Go.RowKit Go.Proofs

def yes : Option (V × Heap × List Nat) → Bool
  | some (.one (.bool true), [], []) => true
  | _ => false
theorem yes_eq {r : Option (V × Heap × List Nat)} (h : yes r = true) : r = some (.one (.bool true), [], []) := by
  unfold yes at h
  split at h
  · rfl
  · cases h

theorem works25 : CI Try.prog cfg 21 [] [] = some (.one (.bool true), [], []) :=
  CI_run 300 (yes_eq (by decide +kernel))
end Go.Proofs.Ytdkknhpdjcdmfaa.Abs
