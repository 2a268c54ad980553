/- Regions that draw their order: those that write nothing. Printed by qt.py. -/
import Derived.Test.YtdkknhpdjcdmfaaGreatJC27
import Derived.Test.YtdkknhpdjcdmfaaGreatProg
namespace Go.Proofs.YtdkknhpdjcdmfaaGreat.Abs
open Go Go.Proofs

theorem qt3 : quietFn Tryz.f3 48 [6] = true := by decide +kernel
theorem qt4 : quietFn Tryz.f4 42 [6] = true := by decide +kernel
theorem qt5 : quietFn Tryz.f5 102 [] = true := by decide +kernel
theorem qt6 : quietFn Tryz.f6 166 [16, 26] = true := by decide +kernel
theorem qt8 : quietFn Tryz.f8 57 [] = true := by decide +kernel
theorem qt9 : quietFn Tryz.f9 118 [] = true := by decide +kernel
theorem qt10 : quietFn Tryz.f10 98 [] = true := by decide +kernel
theorem qt24 : quietFn Tryz.f24 80 [] = true := by decide +kernel
theorem qt25 : quietFn Tryz.f25 91 [] = true := by decide +kernel
theorem qt27 : quietFn Tryz.f27 26 [] = true := by decide +kernel
theorem qt29 : quietFn Tryz.f29 36 [] = true := by decide +kernel
theorem qt41 : quietFn Tryz.f41 69 [] = true := by decide +kernel
theorem qt45 : quietFn Tryz.f45 52 [] = true := by decide +kernel
theorem qt46 : quietFn Tryz.f46 41 [] = true := by decide +kernel
theorem qt47 : quietFn Tryz.f47 46 [] = true := by decide +kernel
theorem qt49 : quietFn Tryz.f49 44 [] = true := by decide +kernel
theorem qt55 : quietFn Tryz.f55 84 [] = true := by decide +kernel
theorem qt57 : quietFn Tryz.f57 54 [] = true := by decide +kernel
theorem qt58 : quietFn Tryz.f58 136 [] = true := by decide +kernel
theorem qt60 : quietFn Tryz.f60 64 [12] = true := by decide +kernel
theorem qt61 : quietFn Tryz.f61 182 [2, 30, 31] = true := by decide +kernel
theorem qt67 : quietFn Tryz.f67 26 [] = true := by decide +kernel
theorem qt71 : quietFn Tryz.f71 76 [] = true := by decide +kernel
theorem qt80 : quietFn Tryz.f80 73 [10, 11] = true := by decide +kernel
theorem qt89 : quietFn Tryz.f89 58 [] = true := by decide +kernel
theorem qt91 : quietFn Tryz.f91 64 [] = true := by decide +kernel
theorem qt94 : quietFn Tryz.f94 19 [] = true := by decide +kernel
theorem qt96 : quietFn Tryz.f96 42 [] = true := by decide +kernel
theorem qt104 : quietFn Tryz.f104 85 [] = true := by decide +kernel
theorem qt105 : quietFn Tryz.f105 18 [] = true := by decide +kernel
theorem qt108 : quietFn Tryz.f108 84 [2] = true := by decide +kernel
theorem qt109 : quietFn Tryz.f109 26 [] = true := by decide +kernel
theorem qt112 : quietFn Tryz.f112 125 [10, 11, 16, 22] = true := by decide +kernel
theorem qt114 : quietFn Tryz.f114 36 [] = true := by decide +kernel
theorem qt121 : quietFn Tryz.f121 61 [] = true := by decide +kernel
theorem qt125 : quietFn Tryz.f125 66 [1] = true := by decide +kernel
theorem qt126 : quietFn Tryz.f126 18 [] = true := by decide +kernel
theorem qt146 : quietFn Tryz.f146 38 [] = true := by decide +kernel
theorem qt158 : quietFn Tryz.f158 58 [] = true := by decide +kernel
theorem qt161 : quietFn Tryz.f161 77 [12, 14] = true := by decide +kernel
theorem qt162 : quietFn Tryz.f162 49 [] = true := by decide +kernel
theorem qt167 : quietFn Tryz.f167 134 [] = true := by decide +kernel
theorem qt180 : quietFn Tryz.f180 53 [6] = true := by decide +kernel
theorem qt181 : quietFn Tryz.f181 220 [11, 23] = true := by decide +kernel
theorem qt183 : quietFn Tryz.f183 77 [3] = true := by decide +kernel
theorem qt185 : quietFn Tryz.f185 62 [] = true := by decide +kernel
theorem qt187 : quietFn Tryz.f187 49 [6] = true := by decide +kernel
theorem qt192 : quietFn Tryz.f192 133 [11, 17, 23] = true := by decide +kernel
theorem qt193 : quietFn Tryz.f193 84 [1, 8] = true := by decide +kernel
theorem qt194 : quietFn Tryz.f194 168 [1, 8, 10, 18, 21] = true := by decide +kernel
theorem qt203 : quietFn Tryz.f203 105 [9, 13, 14] = true := by decide +kernel
theorem qt204 : quietFn Tryz.f204 76 [6] = true := by decide +kernel
theorem qt209 : quietFn Tryz.f209 20 [] = true := by decide +kernel
theorem qt212 : quietFn Tryz.f212 17 [] = true := by decide +kernel
theorem qt219 : quietFn Tryz.f219 28 [] = true := by decide +kernel
theorem qt228 : quietFn Tryz.f228 26 [] = true := by decide +kernel
end Go.Proofs.YtdkknhpdjcdmfaaGreat.Abs
