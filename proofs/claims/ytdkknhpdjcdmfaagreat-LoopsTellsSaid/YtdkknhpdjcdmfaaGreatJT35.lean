/- Regions that draw their order: those that write nothing. Printed by qt.py. -/
import Derived.Test.YtdkknhpdjcdmfaaGreatJT27
import Derived.Test.YtdkknhpdjcdmfaaGreatProg
namespace Go.Proofs.YtdkknhpdjcdmfaaGreat.Abs
open Go Go.Proofs

theorem qt8 : quietFn Tryz.f8 57 [] = true := by decide +kernel
theorem qt27 : quietFn Tryz.f27 26 [] = true := by decide +kernel
theorem qt41 : quietFn Tryz.f41 69 [] = true := by decide +kernel
theorem qt45 : quietFn Tryz.f45 52 [] = true := by decide +kernel
theorem qt46 : quietFn Tryz.f46 41 [] = true := by decide +kernel
theorem qt47 : quietFn Tryz.f47 46 [] = true := by decide +kernel
theorem qt49 : quietFn Tryz.f49 44 [] = true := by decide +kernel
theorem qt61 : quietFn Tryz.f61 182 [2, 30, 31] = true := by decide +kernel
theorem qt67 : quietFn Tryz.f67 26 [] = true := by decide +kernel
theorem qt71 : quietFn Tryz.f71 76 [] = true := by decide +kernel
theorem qt89 : quietFn Tryz.f89 58 [] = true := by decide +kernel
theorem qt91 : quietFn Tryz.f91 64 [] = true := by decide +kernel
theorem qt94 : quietFn Tryz.f94 19 [] = true := by decide +kernel
theorem qt104 : quietFn Tryz.f104 85 [] = true := by decide +kernel
theorem qt114 : quietFn Tryz.f114 36 [] = true := by decide +kernel
theorem qt180 : quietFn Tryz.f180 53 [6] = true := by decide +kernel
theorem qt187 : quietFn Tryz.f187 49 [6] = true := by decide +kernel
end Go.Proofs.YtdkknhpdjcdmfaaGreat.Abs
