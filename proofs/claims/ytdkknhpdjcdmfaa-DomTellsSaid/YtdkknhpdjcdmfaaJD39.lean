/- Regions that draw their order: those that write nothing. Printed by qt.py. -/
import Derived.Test.YtdkknhpdjcdmfaaJD29
import Derived.Test.YtdkknhpdjcdmfaaProg
namespace Go.Proofs.Ytdkknhpdjcdmfaa.Abs
open Go Go.Proofs

theorem qt9 : quietFn Try.f9 106 [] = true := by decide +kernel
theorem qt18 : quietFn Try.f18 85 [] = true := by decide +kernel
theorem qt32 : quietFn Try.f32 182 [2, 30, 31] = true := by decide +kernel
theorem qt34 : quietFn Try.f34 76 [] = true := by decide +kernel
theorem qt40 : quietFn Try.f40 26 [] = true := by decide +kernel
theorem qt45 : quietFn Try.f45 44 [] = true := by decide +kernel
theorem qt76 : quietFn Try.f76 36 [] = true := by decide +kernel
theorem qt77 : quietFn Try.f77 26 [] = true := by decide +kernel
theorem qt121 : quietFn Try.f121 49 [6] = true := by decide +kernel
end Go.Proofs.Ytdkknhpdjcdmfaa.Abs
