/- Regions that draw their order: those that write nothing. Printed by qt.py. -/
import Derived.Test.YtkbdhjfjbkmkcaaGreatJT29
import Derived.Test.YtkbdhjfjbkmkcaaGreatProg
namespace Go.Proofs.YtkbdhjfjbkmkcaaGreat.Abs
open Go Go.Proofs

theorem qt4 : quietFn Tryz.f4 72 [] = true := by decide +kernel
theorem qt14 : quietFn Tryz.f14 84 [] = true := by decide +kernel
theorem qt19 : quietFn Tryz.f19 44 [] = true := by decide +kernel
theorem qt25 : quietFn Tryz.f25 54 [] = true := by decide +kernel
theorem qt26 : quietFn Tryz.f26 136 [] = true := by decide +kernel
theorem qt29 : quietFn Tryz.f29 26 [] = true := by decide +kernel
theorem qt44 : quietFn Tryz.f44 85 [] = true := by decide +kernel
theorem qt45 : quietFn Tryz.f45 18 [] = true := by decide +kernel
theorem qt49 : quietFn Tryz.f49 84 [2] = true := by decide +kernel
theorem qt80 : quietFn Tryz.f80 58 [] = true := by decide +kernel
theorem qt106 : quietFn Tryz.f106 62 [] = true := by decide +kernel
end Go.Proofs.YtkbdhjfjbkmkcaaGreat.Abs
