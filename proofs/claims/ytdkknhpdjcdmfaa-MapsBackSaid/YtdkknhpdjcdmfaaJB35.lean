/- Regions that draw their order: those that write nothing. Printed by qt.py. -/
import Derived.Test.YtdkknhpdjcdmfaaJB27
import Derived.Test.YtdkknhpdjcdmfaaProg
namespace Go.Proofs.Ytdkknhpdjcdmfaa.Abs
open Go Go.Proofs

theorem qt3 : quietFn Try.f3 37 [] = true := by decide +kernel
theorem qt4 : quietFn Try.f4 97 [16] = true := by decide +kernel
theorem qt5 : quietFn Try.f5 46 [] = true := by decide +kernel
theorem qt6 : quietFn Try.f6 73 [] = true := by decide +kernel
theorem qt9 : quietFn Try.f9 106 [] = true := by decide +kernel
theorem qt12 : quietFn Try.f12 27 [] = true := by decide +kernel
theorem qt15 : quietFn Try.f15 32 [] = true := by decide +kernel
theorem qt18 : quietFn Try.f18 85 [] = true := by decide +kernel
theorem qt27 : quietFn Try.f27 197 [6, 33, 39] = true := by decide +kernel
theorem qt28 : quietFn Try.f28 90 [] = true := by decide +kernel
theorem qt29 : quietFn Try.f29 40 [] = true := by decide +kernel
theorem qt32 : quietFn Try.f32 182 [2, 30, 31] = true := by decide +kernel
theorem qt34 : quietFn Try.f34 76 [] = true := by decide +kernel
theorem qt40 : quietFn Try.f40 26 [] = true := by decide +kernel
theorem qt45 : quietFn Try.f45 44 [] = true := by decide +kernel
theorem qt51 : quietFn Try.f51 84 [] = true := by decide +kernel
theorem qt57 : quietFn Try.f57 41 [] = true := by decide +kernel
theorem qt58 : quietFn Try.f58 66 [] = true := by decide +kernel
theorem qt59 : quietFn Try.f59 68 [] = true := by decide +kernel
theorem qt63 : quietFn Try.f63 26 [] = true := by decide +kernel
theorem qt64 : quietFn Try.f64 86 [] = true := by decide +kernel
theorem qt76 : quietFn Try.f76 36 [] = true := by decide +kernel
theorem qt77 : quietFn Try.f77 26 [] = true := by decide +kernel
theorem qt85 : quietFn Try.f85 54 [] = true := by decide +kernel
theorem qt86 : quietFn Try.f86 136 [] = true := by decide +kernel
theorem qt88 : quietFn Try.f88 42 [] = true := by decide +kernel
theorem qt93 : quietFn Try.f93 119 [16, 20] = true := by decide +kernel
theorem qt95 : quietFn Try.f95 41 [] = true := by decide +kernel
theorem qt101 : quietFn Try.f101 134 [] = true := by decide +kernel
theorem qt107 : quietFn Try.f107 18 [] = true := by decide +kernel
theorem qt110 : quietFn Try.f110 84 [2] = true := by decide +kernel
theorem qt115 : quietFn Try.f115 38 [] = true := by decide +kernel
theorem qt119 : quietFn Try.f119 54 [] = true := by decide +kernel
theorem qt121 : quietFn Try.f121 49 [6] = true := by decide +kernel
theorem qt126 : quietFn Try.f126 133 [11, 17, 23] = true := by decide +kernel
theorem qt128 : quietFn Try.f128 84 [1, 8] = true := by decide +kernel
theorem qt129 : quietFn Try.f129 168 [1, 8, 10, 18, 21] = true := by decide +kernel
theorem qt140 : quietFn Try.f140 58 [] = true := by decide +kernel
theorem qt144 : quietFn Try.f144 77 [3] = true := by decide +kernel
theorem qt145 : quietFn Try.f145 76 [6] = true := by decide +kernel
theorem qt154 : quietFn Try.f154 62 [] = true := by decide +kernel
theorem qt158 : quietFn Try.f158 28 [] = true := by decide +kernel
theorem qt160 : quietFn Try.f160 17 [] = true := by decide +kernel
theorem qt175 : quietFn Try.f175 26 [] = true := by decide +kernel
end Go.Proofs.Ytdkknhpdjcdmfaa.Abs
