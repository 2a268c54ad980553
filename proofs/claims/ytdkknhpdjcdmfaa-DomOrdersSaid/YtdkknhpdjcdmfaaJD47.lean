/- The iterators that the tables name are such. -/
import Derived.Test.YtdkknhpdjcdmfaaJD32
import Derived.Test.YtdkknhpdjcdmfaaJD46
import Derived.WalkKit
import Derived.ProofKit
set_option linter.unusedSimpArgs false
set_option linter.unusedVariables false
namespace Go.Proofs.Ytdkknhpdjcdmfaa.Abs
open Go Go.RowKit Go.Proofs

theorem bwd_ok : ∀ b, b ∈ bwdTab → BwdOK Try.prog b := by
  intro b hb
  obtain rfl := List.mem_singleton.1 hb
  exact ⟨⟨Try.f103, Try.func103, rfl, rfl, rfl⟩, by kernel_rfl, by kernel_rfl, by kernel_rfl, by kernel_rfl⟩
theorem it_ok (f : Nat) : ItOK Try.prog (cfg.live f) := it_all (tab := liveTab) (bs := bwdTab) (by decide +kernel) bwd_ok f
end Go.Proofs.Ytdkknhpdjcdmfaa.Abs
