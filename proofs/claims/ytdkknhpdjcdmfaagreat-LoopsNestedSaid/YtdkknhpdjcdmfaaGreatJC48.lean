/- YtdkknhpdjcdmfaaGreatJC48: texts that follow each other, as one. -/
import Derived.Test.YtdkknhpdjcdmfaaGreatJC47
import Derived.Test.YtdkknhpdjcdmfaaGreatJC30
import Derived.Test.YtdkknhpdjcdmfaaGreatJC46
/- The calls behind the example of a function that forks, as the machine runs them, one by one. -/
set_option maxRecDepth 100000
namespace Go.Proofs.YtdkknhpdjcdmfaaGreat.Abs
open Go Go.RowKit Go.Proofs

def fk0 : Tab := []
theorem fk0_ok : TabOK Tryz.prog cfg 0 fk0 := TabOK.nil _ _
def fa1 : List V := [.one (.str [102, 117, 110, 99, 32, 102, 40, 105, 41, 32, 110, 32, 123, 32, 98, 48, 58, 32, 98, 114, 32, 98, 49, 32, 98, 49, 58, 32, 105, 102, 32, 37, 48, 32, 98, 50, 32, 98, 51, 32, 98, 50, 58, 32, 98, 114, 32, 98, 52, 32, 98,
  51, 58, 32, 98, 114, 32, 98, 52, 32, 98, 52, 58, 32, 105, 102, 32, 37, 48, 32, 98, 49, 32, 98, 53, 32, 98, 53, 58, 32, 114, 101, 116, 32, 98, 54, 58, 32, 114, 101, 116, 32, 125])]
def fh1 : Heap := [some ((.row 5 [[(.str []), .nils, (.int .i64 0), .nils, (.int .i64 0)]]))]
def fr1 : V × Heap × List Nat := ((.tup [(.one (.isl [[(.str [102, 117, 110, 99]), (.int .i64 0)], [(.str [102]), (.int .i64 5)], [(.str [40]), (.int .i64 6)], [(.str [105]), (.int .i64 7)], [(.str [41]), (.int .i64 8)], [(.str [110]), (.int .i64 10)], [(.str
  [123]), (.int .i64 12)], [(.str [98, 48]), (.int .i64 14)], [(.str [58]), (.int .i64 16)], [(.str [98, 114]), (.int .i64 18)], [(.str [98, 49]), (.int .i64 21)], [(.str [98, 49]), (.int .i64 24)], [(.str [58]), (.int .i64 26)],
  [(.str [105, 102]), (.int .i64 28)], [(.str [37, 48]), (.int .i64 31)], [(.str [98, 50]), (.int .i64 34)], [(.str [98, 51]), (.int .i64 37)], [(.str [98, 50]), (.int .i64 40)], [(.str [58]), (.int .i64 42)], [(.str [98, 114]),
  (.int .i64 44)], [(.str [98, 52]), (.int .i64 47)], [(.str [98, 51]), (.int .i64 50)], [(.str [58]), (.int .i64 52)], [(.str [98, 114]), (.int .i64 54)], [(.str [98, 52]), (.int .i64 57)], [(.str [98, 52]), (.int .i64 60)], [(.str
  [58]), (.int .i64 62)], [(.str [105, 102]), (.int .i64 64)], [(.str [37, 48]), (.int .i64 67)], [(.str [98, 49]), (.int .i64 70)], [(.str [98, 53]), (.int .i64 73)], [(.str [98, 53]), (.int .i64 76)], [(.str [58]), (.int .i64
  78)], [(.str [114, 101, 116]), (.int .i64 80)], [(.str [98, 54]), (.int .i64 84)], [(.str [58]), (.int .i64 86)], [(.str [114, 101, 116]), (.int .i64 88)], [(.str [125]), (.int .i64 92)]])), (.agg [(.int .i64 0), (.int .i64
  0)])]), [some ((.row 5 [[(.str []), .nils, (.int .i64 0), .nils, (.int .i64 0)]]))], [])
def fk1 : Tab := (95, fa1, fh1, fr1) :: fk0
theorem fk1_ok : TabOK Tryz.prog cfg 120 fk1 := TabOK.add (n := 120) fk0_ok (by decide +kernel)
def fa2 : List V := [(.one (.ptr 3 1 0 0)), (.one (.int .i64 0))]
def fh2 : Heap := [some ((.row 5 [[(.str []), .nils, (.int .i64 0), .nils, (.int .i64 0)]])), some ((.row 1 [[.nils]])), some ((.row 2 [[(.int .i64 0), (.int .i64 0)]])), some ((.row 6 [[(.isl [[(.str [102, 117, 110, 99]), (.int .i64 0)], [(.str
  [102]), (.int .i64 5)], [(.str [40]), (.int .i64 6)], [(.str [105]), (.int .i64 7)], [(.str [41]), (.int .i64 8)], [(.str [110]), (.int .i64 10)], [(.str [123]), (.int .i64 12)], [(.str [98, 48]), (.int .i64 14)], [(.str [58]),
  (.int .i64 16)], [(.str [98, 114]), (.int .i64 18)], [(.str [98, 49]), (.int .i64 21)], [(.str [98, 49]), (.int .i64 24)], [(.str [58]), (.int .i64 26)], [(.str [105, 102]), (.int .i64 28)], [(.str [37, 48]), (.int .i64 31)],
  [(.str [98, 50]), (.int .i64 34)], [(.str [98, 51]), (.int .i64 37)], [(.str [98, 50]), (.int .i64 40)], [(.str [58]), (.int .i64 42)], [(.str [98, 114]), (.int .i64 44)], [(.str [98, 52]), (.int .i64 47)], [(.str [98, 51]), (.int
  .i64 50)], [(.str [58]), (.int .i64 52)], [(.str [98, 114]), (.int .i64 54)], [(.str [98, 52]), (.int .i64 57)], [(.str [98, 52]), (.int .i64 60)], [(.str [58]), (.int .i64 62)], [(.str [105, 102]), (.int .i64 64)], [(.str [37,
  48]), (.int .i64 67)], [(.str [98, 49]), (.int .i64 70)], [(.str [98, 53]), (.int .i64 73)], [(.str [98, 53]), (.int .i64 76)], [(.str [58]), (.int .i64 78)], [(.str [114, 101, 116]), (.int .i64 80)], [(.str [98, 54]), (.int .i64
  84)], [(.str [58]), (.int .i64 86)], [(.str [114, 101, 116]), (.int .i64 88)], [(.str [125]), (.int .i64 92)]]), (.int .i64 7), (.int .i64 93), (.int .i64 0), (.int .i64 0), (.int .i64 0)]])), some ((.row 1 [[(.sl 5 5 0 0 0)]])),
  some ((.row 5 [])), some ((.row 5 [[(.str [102]), (.sl 7 1 1 0 1), (.int .i64 0), (.sl 8 1 0 0 0), (.int .i64 0)]])), some ((.row 1 [[(.int .i64 1)]])), some ((.row 1 [])), some ((.row 5 [[(.str []), .nils, (.int .i64 0), .nils,
  (.int .i64 0)]]))]
def fr2 : V × Heap × List Nat := ((.one (.isl [[(.int .i64 26), (.int .i64 (-(0 + 1))), (.int .i64 0), (.int .i64 0), (.isl []), (.isl [[(.int .i64 1)]]), (.str []), (.int .i64 18)]])), [some ((.row 5 [[(.str []), .nils, (.int .i64 0), .nils, (.int .i64 0)]])),
  some ((.row 1 [[.nils]])), some ((.row 2 [[(.int .i64 0), (.int .i64 0)]])), some ((.row 6 [[(.isl [[(.str [102, 117, 110, 99]), (.int .i64 0)], [(.str [102]), (.int .i64 5)], [(.str [40]), (.int .i64 6)], [(.str [105]), (.int
  .i64 7)], [(.str [41]), (.int .i64 8)], [(.str [110]), (.int .i64 10)], [(.str [123]), (.int .i64 12)], [(.str [98, 48]), (.int .i64 14)], [(.str [58]), (.int .i64 16)], [(.str [98, 114]), (.int .i64 18)], [(.str [98, 49]), (.int
  .i64 21)], [(.str [98, 49]), (.int .i64 24)], [(.str [58]), (.int .i64 26)], [(.str [105, 102]), (.int .i64 28)], [(.str [37, 48]), (.int .i64 31)], [(.str [98, 50]), (.int .i64 34)], [(.str [98, 51]), (.int .i64 37)], [(.str [98,
  50]), (.int .i64 40)], [(.str [58]), (.int .i64 42)], [(.str [98, 114]), (.int .i64 44)], [(.str [98, 52]), (.int .i64 47)], [(.str [98, 51]), (.int .i64 50)], [(.str [58]), (.int .i64 52)], [(.str [98, 114]), (.int .i64 54)],
  [(.str [98, 52]), (.int .i64 57)], [(.str [98, 52]), (.int .i64 60)], [(.str [58]), (.int .i64 62)], [(.str [105, 102]), (.int .i64 64)], [(.str [37, 48]), (.int .i64 67)], [(.str [98, 49]), (.int .i64 70)], [(.str [98, 53]),
  (.int .i64 73)], [(.str [98, 53]), (.int .i64 76)], [(.str [58]), (.int .i64 78)], [(.str [114, 101, 116]), (.int .i64 80)], [(.str [98, 54]), (.int .i64 84)], [(.str [58]), (.int .i64 86)], [(.str [114, 101, 116]), (.int .i64
  88)], [(.str [125]), (.int .i64 92)]]), (.int .i64 11), (.int .i64 93), (.int .i64 1), (.int .i64 0), (.int .i64 0)]])), some ((.row 1 [[(.sl 5 5 0 0 0)]])), some ((.row 5 [])), some ((.row 5 [[(.str [102]), (.sl 7 1 1 0 1), (.int
  .i64 0), (.sl 8 1 0 0 0), (.int .i64 0)]])), some ((.row 1 [[(.int .i64 1)]])), some ((.row 1 [])), some ((.row 5 [[(.str []), .nils, (.int .i64 0), .nils, (.int .i64 0)]]))], [3])
def fk2 : Tab := (148, fa2, fh2, fr2) :: fk1
theorem fk2_ok : TabOK Tryz.prog cfg 240 fk2 := TabOK.add (n := 120) fk1_ok (by decide +kernel)
def fa3 : List V := [(.one (.ptr 3 1 0 0)), (.one (.int .i64 1))]
def fh3 : Heap := [some ((.row 5 [[(.str []), .nils, (.int .i64 0), .nils, (.int .i64 0)]])), some ((.row 1 [[.nils]])), some ((.row 2 [[(.int .i64 0), (.int .i64 0)]])), some ((.row 6 [[(.isl [[(.str [102, 117, 110, 99]), (.int .i64 0)], [(.str
  [102]), (.int .i64 5)], [(.str [40]), (.int .i64 6)], [(.str [105]), (.int .i64 7)], [(.str [41]), (.int .i64 8)], [(.str [110]), (.int .i64 10)], [(.str [123]), (.int .i64 12)], [(.str [98, 48]), (.int .i64 14)], [(.str [58]),
  (.int .i64 16)], [(.str [98, 114]), (.int .i64 18)], [(.str [98, 49]), (.int .i64 21)], [(.str [98, 49]), (.int .i64 24)], [(.str [58]), (.int .i64 26)], [(.str [105, 102]), (.int .i64 28)], [(.str [37, 48]), (.int .i64 31)],
  [(.str [98, 50]), (.int .i64 34)], [(.str [98, 51]), (.int .i64 37)], [(.str [98, 50]), (.int .i64 40)], [(.str [58]), (.int .i64 42)], [(.str [98, 114]), (.int .i64 44)], [(.str [98, 52]), (.int .i64 47)], [(.str [98, 51]), (.int
  .i64 50)], [(.str [58]), (.int .i64 52)], [(.str [98, 114]), (.int .i64 54)], [(.str [98, 52]), (.int .i64 57)], [(.str [98, 52]), (.int .i64 60)], [(.str [58]), (.int .i64 62)], [(.str [105, 102]), (.int .i64 64)], [(.str [37,
  48]), (.int .i64 67)], [(.str [98, 49]), (.int .i64 70)], [(.str [98, 53]), (.int .i64 73)], [(.str [98, 53]), (.int .i64 76)], [(.str [58]), (.int .i64 78)], [(.str [114, 101, 116]), (.int .i64 80)], [(.str [98, 54]), (.int .i64
  84)], [(.str [58]), (.int .i64 86)], [(.str [114, 101, 116]), (.int .i64 88)], [(.str [125]), (.int .i64 92)]]), (.int .i64 11), (.int .i64 93), (.int .i64 1), (.int .i64 0), (.int .i64 0)]])), some ((.row 1 [[(.sl 5 5 0 0 0)]])),
  some ((.row 5 [])), some ((.row 5 [[(.str [102]), (.sl 7 1 1 0 1), (.int .i64 0), (.sl 8 1 1 0 1), (.int .i64 0)]])), some ((.row 1 [[(.int .i64 1)]])), some ((.row 1 [[(.isl [[(.int .i64 26), (.int .i64 (-(0 + 1))), (.int .i64
  0), (.int .i64 0), (.isl []), (.isl [[(.int .i64 1)]]), (.str []), (.int .i64 18)]])]])), some ((.row 5 [[(.str []), .nils, (.int .i64 0), .nils, (.int .i64 0)]]))]
def fr3 : V × Heap × List Nat := ((.one (.isl [[(.int .i64 27), (.int .i64 (-(0 + 1))), (.int .i64 0), (.int .i64 0), (.isl [[(.int .i64 0)]]), (.isl [[(.int .i64 2)], [(.int .i64 3)]]), (.str []), (.int .i64 28)]])), [some ((.row 5 [[(.str []), .nils, (.int .i64
  0), .nils, (.int .i64 0)]])), some ((.row 1 [[.nils]])), some ((.row 2 [[(.int .i64 0), (.int .i64 0)]])), some ((.row 6 [[(.isl [[(.str [102, 117, 110, 99]), (.int .i64 0)], [(.str [102]), (.int .i64 5)], [(.str [40]), (.int .i64
  6)], [(.str [105]), (.int .i64 7)], [(.str [41]), (.int .i64 8)], [(.str [110]), (.int .i64 10)], [(.str [123]), (.int .i64 12)], [(.str [98, 48]), (.int .i64 14)], [(.str [58]), (.int .i64 16)], [(.str [98, 114]), (.int .i64
  18)], [(.str [98, 49]), (.int .i64 21)], [(.str [98, 49]), (.int .i64 24)], [(.str [58]), (.int .i64 26)], [(.str [105, 102]), (.int .i64 28)], [(.str [37, 48]), (.int .i64 31)], [(.str [98, 50]), (.int .i64 34)], [(.str [98,
  51]), (.int .i64 37)], [(.str [98, 50]), (.int .i64 40)], [(.str [58]), (.int .i64 42)], [(.str [98, 114]), (.int .i64 44)], [(.str [98, 52]), (.int .i64 47)], [(.str [98, 51]), (.int .i64 50)], [(.str [58]), (.int .i64 52)],
  [(.str [98, 114]), (.int .i64 54)], [(.str [98, 52]), (.int .i64 57)], [(.str [98, 52]), (.int .i64 60)], [(.str [58]), (.int .i64 62)], [(.str [105, 102]), (.int .i64 64)], [(.str [37, 48]), (.int .i64 67)], [(.str [98, 49]),
  (.int .i64 70)], [(.str [98, 53]), (.int .i64 73)], [(.str [98, 53]), (.int .i64 76)], [(.str [58]), (.int .i64 78)], [(.str [114, 101, 116]), (.int .i64 80)], [(.str [98, 54]), (.int .i64 84)], [(.str [58]), (.int .i64 86)],
  [(.str [114, 101, 116]), (.int .i64 88)], [(.str [125]), (.int .i64 92)]]), (.int .i64 17), (.int .i64 93), (.int .i64 2), (.int .i64 0), (.int .i64 0)]])), some ((.row 1 [[(.sl 5 5 0 0 0)]])), some ((.row 5 [])), some ((.row 5
  [[(.str [102]), (.sl 7 1 1 0 1), (.int .i64 0), (.sl 8 1 1 0 1), (.int .i64 0)]])), some ((.row 1 [[(.int .i64 1)]])), some ((.row 1 [[(.isl [[(.int .i64 26), (.int .i64 (-(0 + 1))), (.int .i64 0), (.int .i64 0), (.isl []), (.isl
  [[(.int .i64 1)]]), (.str []), (.int .i64 18)]])]])), some ((.row 5 [[(.str []), .nils, (.int .i64 0), .nils, (.int .i64 0)]]))], [3])
def fk3 : Tab := (148, fa3, fh3, fr3) :: fk2
theorem fk3_ok : TabOK Tryz.prog cfg 360 fk3 := TabOK.add (n := 120) fk2_ok (by decide +kernel)
def fa4 : List V := [(.one (.ptr 3 1 0 0)), (.one (.int .i64 2))]
def fh4 : Heap := [some ((.row 5 [[(.str []), .nils, (.int .i64 0), .nils, (.int .i64 0)]])), some ((.row 1 [[.nils]])), some ((.row 2 [[(.int .i64 0), (.int .i64 0)]])), some ((.row 6 [[(.isl [[(.str [102, 117, 110, 99]), (.int .i64 0)], [(.str
  [102]), (.int .i64 5)], [(.str [40]), (.int .i64 6)], [(.str [105]), (.int .i64 7)], [(.str [41]), (.int .i64 8)], [(.str [110]), (.int .i64 10)], [(.str [123]), (.int .i64 12)], [(.str [98, 48]), (.int .i64 14)], [(.str [58]),
  (.int .i64 16)], [(.str [98, 114]), (.int .i64 18)], [(.str [98, 49]), (.int .i64 21)], [(.str [98, 49]), (.int .i64 24)], [(.str [58]), (.int .i64 26)], [(.str [105, 102]), (.int .i64 28)], [(.str [37, 48]), (.int .i64 31)],
  [(.str [98, 50]), (.int .i64 34)], [(.str [98, 51]), (.int .i64 37)], [(.str [98, 50]), (.int .i64 40)], [(.str [58]), (.int .i64 42)], [(.str [98, 114]), (.int .i64 44)], [(.str [98, 52]), (.int .i64 47)], [(.str [98, 51]), (.int
  .i64 50)], [(.str [58]), (.int .i64 52)], [(.str [98, 114]), (.int .i64 54)], [(.str [98, 52]), (.int .i64 57)], [(.str [98, 52]), (.int .i64 60)], [(.str [58]), (.int .i64 62)], [(.str [105, 102]), (.int .i64 64)], [(.str [37,
  48]), (.int .i64 67)], [(.str [98, 49]), (.int .i64 70)], [(.str [98, 53]), (.int .i64 73)], [(.str [98, 53]), (.int .i64 76)], [(.str [58]), (.int .i64 78)], [(.str [114, 101, 116]), (.int .i64 80)], [(.str [98, 54]), (.int .i64
  84)], [(.str [58]), (.int .i64 86)], [(.str [114, 101, 116]), (.int .i64 88)], [(.str [125]), (.int .i64 92)]]), (.int .i64 17), (.int .i64 93), (.int .i64 2), (.int .i64 0), (.int .i64 0)]])), some ((.row 1 [[(.sl 5 5 0 0 0)]])),
  some ((.row 5 [])), some ((.row 5 [[(.str [102]), (.sl 7 1 1 0 1), (.int .i64 0), (.sl 8 1 2 0 2), (.int .i64 0)]])), some ((.row 1 [[(.int .i64 1)]])), some ((.row 1 [[(.isl [[(.int .i64 26), (.int .i64 (-(0 + 1))), (.int .i64
  0), (.int .i64 0), (.isl []), (.isl [[(.int .i64 1)]]), (.str []), (.int .i64 18)]])], [(.isl [[(.int .i64 27), (.int .i64 (-(0 + 1))), (.int .i64 0), (.int .i64 0), (.isl [[(.int .i64 0)]]), (.isl [[(.int .i64 2)], [(.int .i64
  3)]]), (.str []), (.int .i64 28)]])]])), some ((.row 5 [[(.str []), .nils, (.int .i64 0), .nils, (.int .i64 0)]]))]
def fr4 : V × Heap × List Nat := ((.one (.isl [[(.int .i64 26), (.int .i64 (-(0 + 1))), (.int .i64 0), (.int .i64 0), (.isl []), (.isl [[(.int .i64 4)]]), (.str []), (.int .i64 44)]])), [some ((.row 5 [[(.str []), .nils, (.int .i64 0), .nils, (.int .i64 0)]])),
  some ((.row 1 [[.nils]])), some ((.row 2 [[(.int .i64 0), (.int .i64 0)]])), some ((.row 6 [[(.isl [[(.str [102, 117, 110, 99]), (.int .i64 0)], [(.str [102]), (.int .i64 5)], [(.str [40]), (.int .i64 6)], [(.str [105]), (.int
  .i64 7)], [(.str [41]), (.int .i64 8)], [(.str [110]), (.int .i64 10)], [(.str [123]), (.int .i64 12)], [(.str [98, 48]), (.int .i64 14)], [(.str [58]), (.int .i64 16)], [(.str [98, 114]), (.int .i64 18)], [(.str [98, 49]), (.int
  .i64 21)], [(.str [98, 49]), (.int .i64 24)], [(.str [58]), (.int .i64 26)], [(.str [105, 102]), (.int .i64 28)], [(.str [37, 48]), (.int .i64 31)], [(.str [98, 50]), (.int .i64 34)], [(.str [98, 51]), (.int .i64 37)], [(.str [98,
  50]), (.int .i64 40)], [(.str [58]), (.int .i64 42)], [(.str [98, 114]), (.int .i64 44)], [(.str [98, 52]), (.int .i64 47)], [(.str [98, 51]), (.int .i64 50)], [(.str [58]), (.int .i64 52)], [(.str [98, 114]), (.int .i64 54)],
  [(.str [98, 52]), (.int .i64 57)], [(.str [98, 52]), (.int .i64 60)], [(.str [58]), (.int .i64 62)], [(.str [105, 102]), (.int .i64 64)], [(.str [37, 48]), (.int .i64 67)], [(.str [98, 49]), (.int .i64 70)], [(.str [98, 53]),
  (.int .i64 73)], [(.str [98, 53]), (.int .i64 76)], [(.str [58]), (.int .i64 78)], [(.str [114, 101, 116]), (.int .i64 80)], [(.str [98, 54]), (.int .i64 84)], [(.str [58]), (.int .i64 86)], [(.str [114, 101, 116]), (.int .i64
  88)], [(.str [125]), (.int .i64 92)]]), (.int .i64 21), (.int .i64 93), (.int .i64 3), (.int .i64 0), (.int .i64 0)]])), some ((.row 1 [[(.sl 5 5 0 0 0)]])), some ((.row 5 [])), some ((.row 5 [[(.str [102]), (.sl 7 1 1 0 1), (.int
  .i64 0), (.sl 8 1 2 0 2), (.int .i64 0)]])), some ((.row 1 [[(.int .i64 1)]])), some ((.row 1 [[(.isl [[(.int .i64 26), (.int .i64 (-(0 + 1))), (.int .i64 0), (.int .i64 0), (.isl []), (.isl [[(.int .i64 1)]]), (.str []), (.int
  .i64 18)]])], [(.isl [[(.int .i64 27), (.int .i64 (-(0 + 1))), (.int .i64 0), (.int .i64 0), (.isl [[(.int .i64 0)]]), (.isl [[(.int .i64 2)], [(.int .i64 3)]]), (.str []), (.int .i64 28)]])]])), some ((.row 5 [[(.str []), .nils,
  (.int .i64 0), .nils, (.int .i64 0)]]))], [3])
def fk4 : Tab := (148, fa4, fh4, fr4) :: fk3
theorem fk4_ok : TabOK Tryz.prog cfg 480 fk4 := TabOK.add (n := 120) fk3_ok (by decide +kernel)
def fa5 : List V := [(.one (.ptr 3 1 0 0)), (.one (.int .i64 3))]
def fh5 : Heap := [some ((.row 5 [[(.str []), .nils, (.int .i64 0), .nils, (.int .i64 0)]])), some ((.row 1 [[.nils]])), some ((.row 2 [[(.int .i64 0), (.int .i64 0)]])), some ((.row 6 [[(.isl [[(.str [102, 117, 110, 99]), (.int .i64 0)], [(.str
  [102]), (.int .i64 5)], [(.str [40]), (.int .i64 6)], [(.str [105]), (.int .i64 7)], [(.str [41]), (.int .i64 8)], [(.str [110]), (.int .i64 10)], [(.str [123]), (.int .i64 12)], [(.str [98, 48]), (.int .i64 14)], [(.str [58]),
  (.int .i64 16)], [(.str [98, 114]), (.int .i64 18)], [(.str [98, 49]), (.int .i64 21)], [(.str [98, 49]), (.int .i64 24)], [(.str [58]), (.int .i64 26)], [(.str [105, 102]), (.int .i64 28)], [(.str [37, 48]), (.int .i64 31)],
  [(.str [98, 50]), (.int .i64 34)], [(.str [98, 51]), (.int .i64 37)], [(.str [98, 50]), (.int .i64 40)], [(.str [58]), (.int .i64 42)], [(.str [98, 114]), (.int .i64 44)], [(.str [98, 52]), (.int .i64 47)], [(.str [98, 51]), (.int
  .i64 50)], [(.str [58]), (.int .i64 52)], [(.str [98, 114]), (.int .i64 54)], [(.str [98, 52]), (.int .i64 57)], [(.str [98, 52]), (.int .i64 60)], [(.str [58]), (.int .i64 62)], [(.str [105, 102]), (.int .i64 64)], [(.str [37,
  48]), (.int .i64 67)], [(.str [98, 49]), (.int .i64 70)], [(.str [98, 53]), (.int .i64 73)], [(.str [98, 53]), (.int .i64 76)], [(.str [58]), (.int .i64 78)], [(.str [114, 101, 116]), (.int .i64 80)], [(.str [98, 54]), (.int .i64
  84)], [(.str [58]), (.int .i64 86)], [(.str [114, 101, 116]), (.int .i64 88)], [(.str [125]), (.int .i64 92)]]), (.int .i64 21), (.int .i64 93), (.int .i64 3), (.int .i64 0), (.int .i64 0)]])), some ((.row 1 [[(.sl 5 5 0 0 0)]])),
  some ((.row 5 [])), some ((.row 5 [[(.str [102]), (.sl 7 1 1 0 1), (.int .i64 0), (.sl 8 1 3 0 3), (.int .i64 0)]])), some ((.row 1 [[(.int .i64 1)]])), some ((.row 1 [[(.isl [[(.int .i64 26), (.int .i64 (-(0 + 1))), (.int .i64
  0), (.int .i64 0), (.isl []), (.isl [[(.int .i64 1)]]), (.str []), (.int .i64 18)]])], [(.isl [[(.int .i64 27), (.int .i64 (-(0 + 1))), (.int .i64 0), (.int .i64 0), (.isl [[(.int .i64 0)]]), (.isl [[(.int .i64 2)], [(.int .i64
  3)]]), (.str []), (.int .i64 28)]])], [(.isl [[(.int .i64 26), (.int .i64 (-(0 + 1))), (.int .i64 0), (.int .i64 0), (.isl []), (.isl [[(.int .i64 4)]]), (.str []), (.int .i64 44)]])]])), some ((.row 5 [[(.str []), .nils, (.int
  .i64 0), .nils, (.int .i64 0)]]))]
def fr5 : V × Heap × List Nat := ((.one (.isl [[(.int .i64 26), (.int .i64 (-(0 + 1))), (.int .i64 0), (.int .i64 0), (.isl []), (.isl [[(.int .i64 4)]]), (.str []), (.int .i64 54)]])), [some ((.row 5 [[(.str []), .nils, (.int .i64 0), .nils, (.int .i64 0)]])),
  some ((.row 1 [[.nils]])), some ((.row 2 [[(.int .i64 0), (.int .i64 0)]])), some ((.row 6 [[(.isl [[(.str [102, 117, 110, 99]), (.int .i64 0)], [(.str [102]), (.int .i64 5)], [(.str [40]), (.int .i64 6)], [(.str [105]), (.int
  .i64 7)], [(.str [41]), (.int .i64 8)], [(.str [110]), (.int .i64 10)], [(.str [123]), (.int .i64 12)], [(.str [98, 48]), (.int .i64 14)], [(.str [58]), (.int .i64 16)], [(.str [98, 114]), (.int .i64 18)], [(.str [98, 49]), (.int
  .i64 21)], [(.str [98, 49]), (.int .i64 24)], [(.str [58]), (.int .i64 26)], [(.str [105, 102]), (.int .i64 28)], [(.str [37, 48]), (.int .i64 31)], [(.str [98, 50]), (.int .i64 34)], [(.str [98, 51]), (.int .i64 37)], [(.str [98,
  50]), (.int .i64 40)], [(.str [58]), (.int .i64 42)], [(.str [98, 114]), (.int .i64 44)], [(.str [98, 52]), (.int .i64 47)], [(.str [98, 51]), (.int .i64 50)], [(.str [58]), (.int .i64 52)], [(.str [98, 114]), (.int .i64 54)],
  [(.str [98, 52]), (.int .i64 57)], [(.str [98, 52]), (.int .i64 60)], [(.str [58]), (.int .i64 62)], [(.str [105, 102]), (.int .i64 64)], [(.str [37, 48]), (.int .i64 67)], [(.str [98, 49]), (.int .i64 70)], [(.str [98, 53]),
  (.int .i64 73)], [(.str [98, 53]), (.int .i64 76)], [(.str [58]), (.int .i64 78)], [(.str [114, 101, 116]), (.int .i64 80)], [(.str [98, 54]), (.int .i64 84)], [(.str [58]), (.int .i64 86)], [(.str [114, 101, 116]), (.int .i64
  88)], [(.str [125]), (.int .i64 92)]]), (.int .i64 25), (.int .i64 93), (.int .i64 4), (.int .i64 0), (.int .i64 0)]])), some ((.row 1 [[(.sl 5 5 0 0 0)]])), some ((.row 5 [])), some ((.row 5 [[(.str [102]), (.sl 7 1 1 0 1), (.int
  .i64 0), (.sl 8 1 3 0 3), (.int .i64 0)]])), some ((.row 1 [[(.int .i64 1)]])), some ((.row 1 [[(.isl [[(.int .i64 26), (.int .i64 (-(0 + 1))), (.int .i64 0), (.int .i64 0), (.isl []), (.isl [[(.int .i64 1)]]), (.str []), (.int
  .i64 18)]])], [(.isl [[(.int .i64 27), (.int .i64 (-(0 + 1))), (.int .i64 0), (.int .i64 0), (.isl [[(.int .i64 0)]]), (.isl [[(.int .i64 2)], [(.int .i64 3)]]), (.str []), (.int .i64 28)]])], [(.isl [[(.int .i64 26), (.int .i64
  (-(0 + 1))), (.int .i64 0), (.int .i64 0), (.isl []), (.isl [[(.int .i64 4)]]), (.str []), (.int .i64 44)]])]])), some ((.row 5 [[(.str []), .nils, (.int .i64 0), .nils, (.int .i64 0)]]))], [3])
def fk5 : Tab := (148, fa5, fh5, fr5) :: fk4
theorem fk5_ok : TabOK Tryz.prog cfg 600 fk5 := TabOK.add (n := 120) fk4_ok (by decide +kernel)
def fa6 : List V := [(.one (.ptr 3 1 0 0)), (.one (.int .i64 4))]
def fh6 : Heap := [some ((.row 5 [[(.str []), .nils, (.int .i64 0), .nils, (.int .i64 0)]])), some ((.row 1 [[.nils]])), some ((.row 2 [[(.int .i64 0), (.int .i64 0)]])), some ((.row 6 [[(.isl [[(.str [102, 117, 110, 99]), (.int .i64 0)], [(.str
  [102]), (.int .i64 5)], [(.str [40]), (.int .i64 6)], [(.str [105]), (.int .i64 7)], [(.str [41]), (.int .i64 8)], [(.str [110]), (.int .i64 10)], [(.str [123]), (.int .i64 12)], [(.str [98, 48]), (.int .i64 14)], [(.str [58]),
  (.int .i64 16)], [(.str [98, 114]), (.int .i64 18)], [(.str [98, 49]), (.int .i64 21)], [(.str [98, 49]), (.int .i64 24)], [(.str [58]), (.int .i64 26)], [(.str [105, 102]), (.int .i64 28)], [(.str [37, 48]), (.int .i64 31)],
  [(.str [98, 50]), (.int .i64 34)], [(.str [98, 51]), (.int .i64 37)], [(.str [98, 50]), (.int .i64 40)], [(.str [58]), (.int .i64 42)], [(.str [98, 114]), (.int .i64 44)], [(.str [98, 52]), (.int .i64 47)], [(.str [98, 51]), (.int
  .i64 50)], [(.str [58]), (.int .i64 52)], [(.str [98, 114]), (.int .i64 54)], [(.str [98, 52]), (.int .i64 57)], [(.str [98, 52]), (.int .i64 60)], [(.str [58]), (.int .i64 62)], [(.str [105, 102]), (.int .i64 64)], [(.str [37,
  48]), (.int .i64 67)], [(.str [98, 49]), (.int .i64 70)], [(.str [98, 53]), (.int .i64 73)], [(.str [98, 53]), (.int .i64 76)], [(.str [58]), (.int .i64 78)], [(.str [114, 101, 116]), (.int .i64 80)], [(.str [98, 54]), (.int .i64
  84)], [(.str [58]), (.int .i64 86)], [(.str [114, 101, 116]), (.int .i64 88)], [(.str [125]), (.int .i64 92)]]), (.int .i64 25), (.int .i64 93), (.int .i64 4), (.int .i64 0), (.int .i64 0)]])), some ((.row 1 [[(.sl 5 5 0 0 0)]])),
  some ((.row 5 [])), some ((.row 5 [[(.str [102]), (.sl 7 1 1 0 1), (.int .i64 0), (.sl 8 1 4 0 4), (.int .i64 0)]])), some ((.row 1 [[(.int .i64 1)]])), some ((.row 1 [[(.isl [[(.int .i64 26), (.int .i64 (-(0 + 1))), (.int .i64
  0), (.int .i64 0), (.isl []), (.isl [[(.int .i64 1)]]), (.str []), (.int .i64 18)]])], [(.isl [[(.int .i64 27), (.int .i64 (-(0 + 1))), (.int .i64 0), (.int .i64 0), (.isl [[(.int .i64 0)]]), (.isl [[(.int .i64 2)], [(.int .i64
  3)]]), (.str []), (.int .i64 28)]])], [(.isl [[(.int .i64 26), (.int .i64 (-(0 + 1))), (.int .i64 0), (.int .i64 0), (.isl []), (.isl [[(.int .i64 4)]]), (.str []), (.int .i64 44)]])], [(.isl [[(.int .i64 26), (.int .i64 (-(0 +
  1))), (.int .i64 0), (.int .i64 0), (.isl []), (.isl [[(.int .i64 4)]]), (.str []), (.int .i64 54)]])]])), some ((.row 5 [[(.str []), .nils, (.int .i64 0), .nils, (.int .i64 0)]]))]
def fr6 : V × Heap × List Nat := ((.one (.isl [[(.int .i64 27), (.int .i64 (-(0 + 1))), (.int .i64 0), (.int .i64 0), (.isl [[(.int .i64 0)]]), (.isl [[(.int .i64 1)], [(.int .i64 5)]]), (.str []), (.int .i64 64)]])), [some ((.row 5 [[(.str []), .nils, (.int .i64
  0), .nils, (.int .i64 0)]])), some ((.row 1 [[.nils]])), some ((.row 2 [[(.int .i64 0), (.int .i64 0)]])), some ((.row 6 [[(.isl [[(.str [102, 117, 110, 99]), (.int .i64 0)], [(.str [102]), (.int .i64 5)], [(.str [40]), (.int .i64
  6)], [(.str [105]), (.int .i64 7)], [(.str [41]), (.int .i64 8)], [(.str [110]), (.int .i64 10)], [(.str [123]), (.int .i64 12)], [(.str [98, 48]), (.int .i64 14)], [(.str [58]), (.int .i64 16)], [(.str [98, 114]), (.int .i64
  18)], [(.str [98, 49]), (.int .i64 21)], [(.str [98, 49]), (.int .i64 24)], [(.str [58]), (.int .i64 26)], [(.str [105, 102]), (.int .i64 28)], [(.str [37, 48]), (.int .i64 31)], [(.str [98, 50]), (.int .i64 34)], [(.str [98,
  51]), (.int .i64 37)], [(.str [98, 50]), (.int .i64 40)], [(.str [58]), (.int .i64 42)], [(.str [98, 114]), (.int .i64 44)], [(.str [98, 52]), (.int .i64 47)], [(.str [98, 51]), (.int .i64 50)], [(.str [58]), (.int .i64 52)],
  [(.str [98, 114]), (.int .i64 54)], [(.str [98, 52]), (.int .i64 57)], [(.str [98, 52]), (.int .i64 60)], [(.str [58]), (.int .i64 62)], [(.str [105, 102]), (.int .i64 64)], [(.str [37, 48]), (.int .i64 67)], [(.str [98, 49]),
  (.int .i64 70)], [(.str [98, 53]), (.int .i64 73)], [(.str [98, 53]), (.int .i64 76)], [(.str [58]), (.int .i64 78)], [(.str [114, 101, 116]), (.int .i64 80)], [(.str [98, 54]), (.int .i64 84)], [(.str [58]), (.int .i64 86)],
  [(.str [114, 101, 116]), (.int .i64 88)], [(.str [125]), (.int .i64 92)]]), (.int .i64 31), (.int .i64 93), (.int .i64 5), (.int .i64 0), (.int .i64 0)]])), some ((.row 1 [[(.sl 5 5 0 0 0)]])), some ((.row 5 [])), some ((.row 5
  [[(.str [102]), (.sl 7 1 1 0 1), (.int .i64 0), (.sl 8 1 4 0 4), (.int .i64 0)]])), some ((.row 1 [[(.int .i64 1)]])), some ((.row 1 [[(.isl [[(.int .i64 26), (.int .i64 (-(0 + 1))), (.int .i64 0), (.int .i64 0), (.isl []), (.isl
  [[(.int .i64 1)]]), (.str []), (.int .i64 18)]])], [(.isl [[(.int .i64 27), (.int .i64 (-(0 + 1))), (.int .i64 0), (.int .i64 0), (.isl [[(.int .i64 0)]]), (.isl [[(.int .i64 2)], [(.int .i64 3)]]), (.str []), (.int .i64 28)]])],
  [(.isl [[(.int .i64 26), (.int .i64 (-(0 + 1))), (.int .i64 0), (.int .i64 0), (.isl []), (.isl [[(.int .i64 4)]]), (.str []), (.int .i64 44)]])], [(.isl [[(.int .i64 26), (.int .i64 (-(0 + 1))), (.int .i64 0), (.int .i64 0),
  (.isl []), (.isl [[(.int .i64 4)]]), (.str []), (.int .i64 54)]])]])), some ((.row 5 [[(.str []), .nils, (.int .i64 0), .nils, (.int .i64 0)]]))], [3])
def fk6 : Tab := (148, fa6, fh6, fr6) :: fk5
theorem fk6_ok : TabOK Tryz.prog cfg 720 fk6 := TabOK.add (n := 120) fk5_ok (by decide +kernel)
def fa7 : List V := [(.one (.ptr 3 1 0 0)), (.one (.int .i64 5))]
def fh7 : Heap := [some ((.row 5 [[(.str []), .nils, (.int .i64 0), .nils, (.int .i64 0)]])), some ((.row 1 [[.nils]])), some ((.row 2 [[(.int .i64 0), (.int .i64 0)]])), some ((.row 6 [[(.isl [[(.str [102, 117, 110, 99]), (.int .i64 0)], [(.str
  [102]), (.int .i64 5)], [(.str [40]), (.int .i64 6)], [(.str [105]), (.int .i64 7)], [(.str [41]), (.int .i64 8)], [(.str [110]), (.int .i64 10)], [(.str [123]), (.int .i64 12)], [(.str [98, 48]), (.int .i64 14)], [(.str [58]),
  (.int .i64 16)], [(.str [98, 114]), (.int .i64 18)], [(.str [98, 49]), (.int .i64 21)], [(.str [98, 49]), (.int .i64 24)], [(.str [58]), (.int .i64 26)], [(.str [105, 102]), (.int .i64 28)], [(.str [37, 48]), (.int .i64 31)],
  [(.str [98, 50]), (.int .i64 34)], [(.str [98, 51]), (.int .i64 37)], [(.str [98, 50]), (.int .i64 40)], [(.str [58]), (.int .i64 42)], [(.str [98, 114]), (.int .i64 44)], [(.str [98, 52]), (.int .i64 47)], [(.str [98, 51]), (.int
  .i64 50)], [(.str [58]), (.int .i64 52)], [(.str [98, 114]), (.int .i64 54)], [(.str [98, 52]), (.int .i64 57)], [(.str [98, 52]), (.int .i64 60)], [(.str [58]), (.int .i64 62)], [(.str [105, 102]), (.int .i64 64)], [(.str [37,
  48]), (.int .i64 67)], [(.str [98, 49]), (.int .i64 70)], [(.str [98, 53]), (.int .i64 73)], [(.str [98, 53]), (.int .i64 76)], [(.str [58]), (.int .i64 78)], [(.str [114, 101, 116]), (.int .i64 80)], [(.str [98, 54]), (.int .i64
  84)], [(.str [58]), (.int .i64 86)], [(.str [114, 101, 116]), (.int .i64 88)], [(.str [125]), (.int .i64 92)]]), (.int .i64 31), (.int .i64 93), (.int .i64 5), (.int .i64 0), (.int .i64 0)]])), some ((.row 1 [[(.sl 5 5 0 0 0)]])),
  some ((.row 5 [])), some ((.row 5 [[(.str [102]), (.sl 7 1 1 0 1), (.int .i64 0), (.sl 8 1 5 0 5), (.int .i64 0)]])), some ((.row 1 [[(.int .i64 1)]])), some ((.row 1 [[(.isl [[(.int .i64 26), (.int .i64 (-(0 + 1))), (.int .i64
  0), (.int .i64 0), (.isl []), (.isl [[(.int .i64 1)]]), (.str []), (.int .i64 18)]])], [(.isl [[(.int .i64 27), (.int .i64 (-(0 + 1))), (.int .i64 0), (.int .i64 0), (.isl [[(.int .i64 0)]]), (.isl [[(.int .i64 2)], [(.int .i64
  3)]]), (.str []), (.int .i64 28)]])], [(.isl [[(.int .i64 26), (.int .i64 (-(0 + 1))), (.int .i64 0), (.int .i64 0), (.isl []), (.isl [[(.int .i64 4)]]), (.str []), (.int .i64 44)]])], [(.isl [[(.int .i64 26), (.int .i64 (-(0 +
  1))), (.int .i64 0), (.int .i64 0), (.isl []), (.isl [[(.int .i64 4)]]), (.str []), (.int .i64 54)]])], [(.isl [[(.int .i64 27), (.int .i64 (-(0 + 1))), (.int .i64 0), (.int .i64 0), (.isl [[(.int .i64 0)]]), (.isl [[(.int .i64
  1)], [(.int .i64 5)]]), (.str []), (.int .i64 64)]])]])), some ((.row 5 [[(.str []), .nils, (.int .i64 0), .nils, (.int .i64 0)]]))]
def fr7 : V × Heap × List Nat := ((.one (.isl [[(.int .i64 28), (.int .i64 (-(0 + 1))), (.int .i64 0), (.int .i64 0), (.isl []), (.isl []), (.str []), (.int .i64 80)]])), [some ((.row 5 [[(.str []), .nils, (.int .i64 0), .nils, (.int .i64 0)]])), some ((.row 1
  [[.nils]])), some ((.row 2 [[(.int .i64 0), (.int .i64 0)]])), some ((.row 6 [[(.isl [[(.str [102, 117, 110, 99]), (.int .i64 0)], [(.str [102]), (.int .i64 5)], [(.str [40]), (.int .i64 6)], [(.str [105]), (.int .i64 7)], [(.str
  [41]), (.int .i64 8)], [(.str [110]), (.int .i64 10)], [(.str [123]), (.int .i64 12)], [(.str [98, 48]), (.int .i64 14)], [(.str [58]), (.int .i64 16)], [(.str [98, 114]), (.int .i64 18)], [(.str [98, 49]), (.int .i64 21)], [(.str
  [98, 49]), (.int .i64 24)], [(.str [58]), (.int .i64 26)], [(.str [105, 102]), (.int .i64 28)], [(.str [37, 48]), (.int .i64 31)], [(.str [98, 50]), (.int .i64 34)], [(.str [98, 51]), (.int .i64 37)], [(.str [98, 50]), (.int .i64
  40)], [(.str [58]), (.int .i64 42)], [(.str [98, 114]), (.int .i64 44)], [(.str [98, 52]), (.int .i64 47)], [(.str [98, 51]), (.int .i64 50)], [(.str [58]), (.int .i64 52)], [(.str [98, 114]), (.int .i64 54)], [(.str [98, 52]),
  (.int .i64 57)], [(.str [98, 52]), (.int .i64 60)], [(.str [58]), (.int .i64 62)], [(.str [105, 102]), (.int .i64 64)], [(.str [37, 48]), (.int .i64 67)], [(.str [98, 49]), (.int .i64 70)], [(.str [98, 53]), (.int .i64 73)],
  [(.str [98, 53]), (.int .i64 76)], [(.str [58]), (.int .i64 78)], [(.str [114, 101, 116]), (.int .i64 80)], [(.str [98, 54]), (.int .i64 84)], [(.str [58]), (.int .i64 86)], [(.str [114, 101, 116]), (.int .i64 88)], [(.str [125]),
  (.int .i64 92)]]), (.int .i64 34), (.int .i64 93), (.int .i64 6), (.int .i64 0), (.int .i64 0)]])), some ((.row 1 [[(.sl 5 5 0 0 0)]])), some ((.row 5 [])), some ((.row 5 [[(.str [102]), (.sl 7 1 1 0 1), (.int .i64 0), (.sl 8 1 5
  0 5), (.int .i64 0)]])), some ((.row 1 [[(.int .i64 1)]])), some ((.row 1 [[(.isl [[(.int .i64 26), (.int .i64 (-(0 + 1))), (.int .i64 0), (.int .i64 0), (.isl []), (.isl [[(.int .i64 1)]]), (.str []), (.int .i64 18)]])], [(.isl
  [[(.int .i64 27), (.int .i64 (-(0 + 1))), (.int .i64 0), (.int .i64 0), (.isl [[(.int .i64 0)]]), (.isl [[(.int .i64 2)], [(.int .i64 3)]]), (.str []), (.int .i64 28)]])], [(.isl [[(.int .i64 26), (.int .i64 (-(0 + 1))), (.int
  .i64 0), (.int .i64 0), (.isl []), (.isl [[(.int .i64 4)]]), (.str []), (.int .i64 44)]])], [(.isl [[(.int .i64 26), (.int .i64 (-(0 + 1))), (.int .i64 0), (.int .i64 0), (.isl []), (.isl [[(.int .i64 4)]]), (.str []), (.int .i64
  54)]])], [(.isl [[(.int .i64 27), (.int .i64 (-(0 + 1))), (.int .i64 0), (.int .i64 0), (.isl [[(.int .i64 0)]]), (.isl [[(.int .i64 1)], [(.int .i64 5)]]), (.str []), (.int .i64 64)]])]])), some ((.row 5 [[(.str []), .nils, (.int
  .i64 0), .nils, (.int .i64 0)]]))], [3])
def fk7 : Tab := (148, fa7, fh7, fr7) :: fk6
theorem fk7_ok : TabOK Tryz.prog cfg 840 fk7 := TabOK.add (n := 120) fk6_ok (by decide +kernel)
def fa8 : List V := [(.one (.ptr 3 1 0 0)), (.one (.int .i64 6))]
def fh8 : Heap := [some ((.row 5 [[(.str []), .nils, (.int .i64 0), .nils, (.int .i64 0)]])), some ((.row 1 [[.nils]])), some ((.row 2 [[(.int .i64 0), (.int .i64 0)]])), some ((.row 6 [[(.isl [[(.str [102, 117, 110, 99]), (.int .i64 0)], [(.str
  [102]), (.int .i64 5)], [(.str [40]), (.int .i64 6)], [(.str [105]), (.int .i64 7)], [(.str [41]), (.int .i64 8)], [(.str [110]), (.int .i64 10)], [(.str [123]), (.int .i64 12)], [(.str [98, 48]), (.int .i64 14)], [(.str [58]),
  (.int .i64 16)], [(.str [98, 114]), (.int .i64 18)], [(.str [98, 49]), (.int .i64 21)], [(.str [98, 49]), (.int .i64 24)], [(.str [58]), (.int .i64 26)], [(.str [105, 102]), (.int .i64 28)], [(.str [37, 48]), (.int .i64 31)],
  [(.str [98, 50]), (.int .i64 34)], [(.str [98, 51]), (.int .i64 37)], [(.str [98, 50]), (.int .i64 40)], [(.str [58]), (.int .i64 42)], [(.str [98, 114]), (.int .i64 44)], [(.str [98, 52]), (.int .i64 47)], [(.str [98, 51]), (.int
  .i64 50)], [(.str [58]), (.int .i64 52)], [(.str [98, 114]), (.int .i64 54)], [(.str [98, 52]), (.int .i64 57)], [(.str [98, 52]), (.int .i64 60)], [(.str [58]), (.int .i64 62)], [(.str [105, 102]), (.int .i64 64)], [(.str [37,
  48]), (.int .i64 67)], [(.str [98, 49]), (.int .i64 70)], [(.str [98, 53]), (.int .i64 73)], [(.str [98, 53]), (.int .i64 76)], [(.str [58]), (.int .i64 78)], [(.str [114, 101, 116]), (.int .i64 80)], [(.str [98, 54]), (.int .i64
  84)], [(.str [58]), (.int .i64 86)], [(.str [114, 101, 116]), (.int .i64 88)], [(.str [125]), (.int .i64 92)]]), (.int .i64 34), (.int .i64 93), (.int .i64 6), (.int .i64 0), (.int .i64 0)]])), some ((.row 1 [[(.sl 5 5 0 0 0)]])),
  some ((.row 5 [])), some ((.row 5 [[(.str [102]), (.sl 7 1 1 0 1), (.int .i64 0), (.sl 8 1 6 0 6), (.int .i64 0)]])), some ((.row 1 [[(.int .i64 1)]])), some ((.row 1 [[(.isl [[(.int .i64 26), (.int .i64 (-(0 + 1))), (.int .i64
  0), (.int .i64 0), (.isl []), (.isl [[(.int .i64 1)]]), (.str []), (.int .i64 18)]])], [(.isl [[(.int .i64 27), (.int .i64 (-(0 + 1))), (.int .i64 0), (.int .i64 0), (.isl [[(.int .i64 0)]]), (.isl [[(.int .i64 2)], [(.int .i64
  3)]]), (.str []), (.int .i64 28)]])], [(.isl [[(.int .i64 26), (.int .i64 (-(0 + 1))), (.int .i64 0), (.int .i64 0), (.isl []), (.isl [[(.int .i64 4)]]), (.str []), (.int .i64 44)]])], [(.isl [[(.int .i64 26), (.int .i64 (-(0 +
  1))), (.int .i64 0), (.int .i64 0), (.isl []), (.isl [[(.int .i64 4)]]), (.str []), (.int .i64 54)]])], [(.isl [[(.int .i64 27), (.int .i64 (-(0 + 1))), (.int .i64 0), (.int .i64 0), (.isl [[(.int .i64 0)]]), (.isl [[(.int .i64
  1)], [(.int .i64 5)]]), (.str []), (.int .i64 64)]])], [(.isl [[(.int .i64 28), (.int .i64 (-(0 + 1))), (.int .i64 0), (.int .i64 0), (.isl []), (.isl []), (.str []), (.int .i64 80)]])]])), some ((.row 5 [[(.str []), .nils, (.int
  .i64 0), .nils, (.int .i64 0)]]))]
def fr8 : V × Heap × List Nat := ((.one (.isl [[(.int .i64 28), (.int .i64 (-(0 + 1))), (.int .i64 0), (.int .i64 0), (.isl []), (.isl []), (.str []), (.int .i64 88)]])), [some ((.row 5 [[(.str []), .nils, (.int .i64 0), .nils, (.int .i64 0)]])), some ((.row 1
  [[.nils]])), some ((.row 2 [[(.int .i64 0), (.int .i64 0)]])), some ((.row 6 [[(.isl [[(.str [102, 117, 110, 99]), (.int .i64 0)], [(.str [102]), (.int .i64 5)], [(.str [40]), (.int .i64 6)], [(.str [105]), (.int .i64 7)], [(.str
  [41]), (.int .i64 8)], [(.str [110]), (.int .i64 10)], [(.str [123]), (.int .i64 12)], [(.str [98, 48]), (.int .i64 14)], [(.str [58]), (.int .i64 16)], [(.str [98, 114]), (.int .i64 18)], [(.str [98, 49]), (.int .i64 21)], [(.str
  [98, 49]), (.int .i64 24)], [(.str [58]), (.int .i64 26)], [(.str [105, 102]), (.int .i64 28)], [(.str [37, 48]), (.int .i64 31)], [(.str [98, 50]), (.int .i64 34)], [(.str [98, 51]), (.int .i64 37)], [(.str [98, 50]), (.int .i64
  40)], [(.str [58]), (.int .i64 42)], [(.str [98, 114]), (.int .i64 44)], [(.str [98, 52]), (.int .i64 47)], [(.str [98, 51]), (.int .i64 50)], [(.str [58]), (.int .i64 52)], [(.str [98, 114]), (.int .i64 54)], [(.str [98, 52]),
  (.int .i64 57)], [(.str [98, 52]), (.int .i64 60)], [(.str [58]), (.int .i64 62)], [(.str [105, 102]), (.int .i64 64)], [(.str [37, 48]), (.int .i64 67)], [(.str [98, 49]), (.int .i64 70)], [(.str [98, 53]), (.int .i64 73)],
  [(.str [98, 53]), (.int .i64 76)], [(.str [58]), (.int .i64 78)], [(.str [114, 101, 116]), (.int .i64 80)], [(.str [98, 54]), (.int .i64 84)], [(.str [58]), (.int .i64 86)], [(.str [114, 101, 116]), (.int .i64 88)], [(.str [125]),
  (.int .i64 92)]]), (.int .i64 37), (.int .i64 93), (.int .i64 7), (.int .i64 0), (.int .i64 0)]])), some ((.row 1 [[(.sl 5 5 0 0 0)]])), some ((.row 5 [])), some ((.row 5 [[(.str [102]), (.sl 7 1 1 0 1), (.int .i64 0), (.sl 8 1 6
  0 6), (.int .i64 0)]])), some ((.row 1 [[(.int .i64 1)]])), some ((.row 1 [[(.isl [[(.int .i64 26), (.int .i64 (-(0 + 1))), (.int .i64 0), (.int .i64 0), (.isl []), (.isl [[(.int .i64 1)]]), (.str []), (.int .i64 18)]])], [(.isl
  [[(.int .i64 27), (.int .i64 (-(0 + 1))), (.int .i64 0), (.int .i64 0), (.isl [[(.int .i64 0)]]), (.isl [[(.int .i64 2)], [(.int .i64 3)]]), (.str []), (.int .i64 28)]])], [(.isl [[(.int .i64 26), (.int .i64 (-(0 + 1))), (.int
  .i64 0), (.int .i64 0), (.isl []), (.isl [[(.int .i64 4)]]), (.str []), (.int .i64 44)]])], [(.isl [[(.int .i64 26), (.int .i64 (-(0 + 1))), (.int .i64 0), (.int .i64 0), (.isl []), (.isl [[(.int .i64 4)]]), (.str []), (.int .i64
  54)]])], [(.isl [[(.int .i64 27), (.int .i64 (-(0 + 1))), (.int .i64 0), (.int .i64 0), (.isl [[(.int .i64 0)]]), (.isl [[(.int .i64 1)], [(.int .i64 5)]]), (.str []), (.int .i64 64)]])], [(.isl [[(.int .i64 28), (.int .i64 (-(0 +
  1))), (.int .i64 0), (.int .i64 0), (.isl []), (.isl []), (.str []), (.int .i64 80)]])]])), some ((.row 5 [[(.str []), .nils, (.int .i64 0), .nils, (.int .i64 0)]]))], [3])
def fk8 : Tab := (148, fa8, fh8, fr8) :: fk7
theorem fk8_ok : TabOK Tryz.prog cfg 960 fk8 := TabOK.add (n := 120) fk7_ok (by decide +kernel)
def fa9 : List V := [.one (.str [102, 117, 110, 99, 32, 102, 40, 105, 41, 32, 110, 32, 123, 32, 98, 48, 58, 32, 98, 114, 32, 98, 49, 32, 98, 49, 58, 32, 105, 102, 32, 37, 48, 32, 98, 50, 32, 98, 51, 32, 98, 50, 58, 32, 98, 114, 32, 98, 52, 32, 98,
  51, 58, 32, 98, 114, 32, 98, 52, 32, 98, 52, 58, 32, 105, 102, 32, 37, 48, 32, 98, 49, 32, 98, 53, 32, 98, 53, 58, 32, 114, 101, 116, 32, 98, 54, 58, 32, 114, 101, 116, 32, 125])]
def fh9 : Heap := [some ((.row 5 [[(.str []), .nils, (.int .i64 0), .nils, (.int .i64 0)]]))]
def fr9 : V × Heap × List Nat := ((.tup [(.agg [(.isl [[(.str [102]), (.isl [[(.int .i64 1)]]), (.int .i64 0), (.isl [[(.isl [[(.int .i64 26), (.int .i64 (-(0 + 1))), (.int .i64 0), (.int .i64 0), (.isl []), (.isl [[(.int .i64 1)]]), (.str []), (.int .i64
  18)]])], [(.isl [[(.int .i64 27), (.int .i64 (-(0 + 1))), (.int .i64 0), (.int .i64 0), (.isl [[(.int .i64 0)]]), (.isl [[(.int .i64 2)], [(.int .i64 3)]]), (.str []), (.int .i64 28)]])], [(.isl [[(.int .i64 26), (.int .i64 (-(0 +
  1))), (.int .i64 0), (.int .i64 0), (.isl []), (.isl [[(.int .i64 4)]]), (.str []), (.int .i64 44)]])], [(.isl [[(.int .i64 26), (.int .i64 (-(0 + 1))), (.int .i64 0), (.int .i64 0), (.isl []), (.isl [[(.int .i64 4)]]), (.str []),
  (.int .i64 54)]])], [(.isl [[(.int .i64 27), (.int .i64 (-(0 + 1))), (.int .i64 0), (.int .i64 0), (.isl [[(.int .i64 0)]]), (.isl [[(.int .i64 1)], [(.int .i64 5)]]), (.str []), (.int .i64 64)]])], [(.isl [[(.int .i64 28), (.int
  .i64 (-(0 + 1))), (.int .i64 0), (.int .i64 0), (.isl []), (.isl []), (.str []), (.int .i64 80)]])], [(.isl [[(.int .i64 28), (.int .i64 (-(0 + 1))), (.int .i64 0), (.int .i64 0), (.isl []), (.isl []), (.str []), (.int .i64
  88)]])]]), (.int .i64 0)]])]), (.agg [(.int .i64 0), (.int .i64 0)])]), [some ((.row 5 [[(.str []), .nils, (.int .i64 0), .nils, (.int .i64 0)]]))], [])
def fk9 : Tab := (52, fa9, fh9, fr9) :: fk8
theorem fk9_ok : TabOK Tryz.prog cfg 1160 fk9 := TabOK.add (n := 200) fk8_ok (by decide +kernel)
end Go.Proofs.YtdkknhpdjcdmfaaGreat.Abs

/- The example of a function that forks, as the machine gives it. -/
set_option maxRecDepth 100000
namespace Go.Proofs.YtdkknhpdjcdmfaaGreat.Abs
open Go Go.RowKit Go.Proofs

def fa10 : List V := []
def fh10 : Heap := []
def fr10 : V × Heap × List Nat := (.agg [(.str [102]), (.isl [[(.int .i64 1)]]), (.int .i64 0), (.isl [[(.isl [[(.int .i64 26), (.int .i64 (-(0 + 1))), (.int .i64 0), (.int .i64 0), (.isl []), (.isl [[(.int .i64 1)]]), (.str []), (.int .i64 18)]])], [(.isl [[(.int
  .i64 27), (.int .i64 (-(0 + 1))), (.int .i64 0), (.int .i64 0), (.isl [[(.int .i64 0)]]), (.isl [[(.int .i64 2)], [(.int .i64 3)]]), (.str []), (.int .i64 28)]])], [(.isl [[(.int .i64 26), (.int .i64 (-(0 + 1))), (.int .i64 0),
  (.int .i64 0), (.isl []), (.isl [[(.int .i64 4)]]), (.str []), (.int .i64 44)]])], [(.isl [[(.int .i64 26), (.int .i64 (-(0 + 1))), (.int .i64 0), (.int .i64 0), (.isl []), (.isl [[(.int .i64 4)]]), (.str []), (.int .i64 54)]])],
  [(.isl [[(.int .i64 27), (.int .i64 (-(0 + 1))), (.int .i64 0), (.int .i64 0), (.isl [[(.int .i64 0)]]), (.isl [[(.int .i64 1)], [(.int .i64 5)]]), (.str []), (.int .i64 64)]])], [(.isl [[(.int .i64 28), (.int .i64 (-(0 + 1))),
  (.int .i64 0), (.int .i64 0), (.isl []), (.isl []), (.str []), (.int .i64 80)]])], [(.isl [[(.int .i64 28), (.int .i64 (-(0 + 1))), (.int .i64 0), (.int .i64 0), (.isl []), (.isl []), (.str []), (.int .i64 88)]])]]), (.int .i64
  0)], [], [])
def fk10 : Tab := (85, fa10, fh10, fr10) :: fk9
theorem fk10_ok : TabOK Tryz.prog cfg 1280 fk10 := TabOK.add (n := 120) fk9_ok (by decide +kernel)
/-- The function that forks. -/
theorem fork_is : CI Tryz.prog cfg 85 [] [] = some fr10 := TabOK.get fk10_ok (sameR_eq (by decide +kernel))
end Go.Proofs.YtdkknhpdjcdmfaaGreat.Abs

/- The example of the law of loops, as the machine runs it. -/
set_option maxRecDepth 100000
namespace Go.Proofs.YtdkknhpdjcdmfaaGreat.Abs
open Go Go.RowKit Go.Proofs

theorem works10_tab : TabOK Tryz.prog cfg 1580 ((38, [], [], (.one (.bool true), [], [])) :: fk10) := TabOK.add (n := 300) fk10_ok (by decide +kernel)
theorem works10 : CI Tryz.prog cfg 38 [] [] = some (.one (.bool true), [], []) := TabOK.get works10_tab (sameR_eq (by decide +kernel))
end Go.Proofs.YtdkknhpdjcdmfaaGreat.Abs

/- Into a loop by its head alone: the law answers yes. -/
set_option linter.unusedSimpArgs false
set_option linter.unusedVariables false
namespace Go.Proofs.YtdkknhpdjcdmfaaGreat.Abs
open Go Go.RowKit Go.Proofs

/-- A table's answer. -/
theorem tab_get {n : Nat} {ss : List (List Int)} {rows : List (List Bool)} (G : TabG n ss rows) (hn : n ≤ 1000) {a b : Nat} (ha : a < n) (hb : b < n) :
    ∃ x : Bool, (∀ h, CX 50 [Sl (tabOf rows), I (a : Nat), I (b : Nat)] h = some (Bo x, h, [])) ∧ (x = true ↔ Rch ss [0] (-1) a ∧ Rch ss [0] (-1) b ∧ (a = b ∨ ¬ Rch ss [0] (a : Int) b)) := by
  obtain ⟨r, hr, hl, hx⟩ := G.2 a ha
  obtain ⟨x, h1, h2⟩ := hx b hb
  exact ⟨x, fun h => ahead9 h rows (by rw [G.1]; exact hn) a b r x hr h1 (by rw [hl, G.1]), h2⟩

def lcS (h : Heap) (f : Fn) (ls : List Lp) (rows : List (List Bool)) (i : Nat) (v6 v8 v7 : V) : St :=
  ⟨[(1, .one (.ptr h.length 1 0 0)), (5, I (i : Nat)), (3, Sl (lpsOf ls)), (6, v6), (8, v8), (7, v7), (4, Sl (tabOf rows)), (2, Bo false), (1007, .junk), (1008, .junk), (1006, .junk)], h ++ [some (.row 5 [encFn f])], []⟩

section
variable (h : Heap) (f : Fn) (hf : f.Fine) (hn : f.blocks.length ≤ 12) {ls : List Lp} {rows : List (List Bool)} (hls : LsOK (f.blocks.map nextB) (f.blocks.map nextB).length ls) (G : TabG f.blocks.length (f.blocks.map nextB) rows)
include hf hn hls G

theorem lc_2 (i : Nat) (x : Lp) (hx : ls[i]? = some x) (k : Nat) (l : List Ins) (hl : f.blocks[k]? = some l) :
    lpK 9 Tryz.f9 118 2 h (lcS h f ls rows i (I (k : Nat)) (I (0 : Nat)) (Sl (intsOf (nextB l)))) = some (.exit 4, lcS h f ls rows i (I (k : Nat)) (I ((nextB l).length : Nat)) (Sl (intsOf (nextB l)))) := by
  have q := qt9
  simp [Tryz.f9, quietFn, quietRegs] at q
  have hil := (List.getElem?_eq_some_iff.1 hx).1
  have hkl := (List.getElem?_eq_some_iff.1 hl).1
  obtain ⟨L, hxb, _⟩ := hls.each x (List.mem_of_getElem? hx)
  have hfit : Fit x.blocks := by show x.blocks.length ≤ _; omega
  have hsl : (f.blocks.map nextB).length = f.blocks.length := by simp
  have hgd : (f.blocks.map nextB).getD k [] = nextB l := by rw [List.getD, List.getElem?_map, hl]; rfl
  have hnl := (hf.edges.each (nextB l) (List.mem_map.2 ⟨l, List.mem_of_getElem? hl, rfl⟩)).1
  have hll := hls.len
  obtain ⟨xk, e1, _⟩ := tab_get G (by omega) hkl hkl
  have key := loop_fun (P := Tryz.prog) (C := cfg) (sc := runScope Tryz.prog cfg 118 h.length (cfg.live 9) 0) (N := 118) (n0 := h.length) (K := cfg.live 9) (c := loopAt Tryz.f9 2)
    (fun j : Nat => lcS h f ls rows i (I (k : Nat)) (I (j : Nat)) (Sl (intsOf (nextB l)))) (fun j => j ≤ (nextB l).length) (fun j => (nextB l).length - j)
    (fun _ => (.exit 4, lcS h f ls rows i (I (k : Nat)) (I ((nextB l).length : Nat)) (Sl (intsOf (nextB l))))) ?_ 0 (Nat.zero_le _)
  · exact key
  have hinto : ∀ b, b ∈ nextB l → b ∈ x.blocks → b ≠ x.head → (k : Int) ∈ x.blocks := fun b hb hm hne => by
    have hb0 := ((hf.edges.each (nextB l) (List.mem_map.2 ⟨l, List.mem_of_getElem? hl, rfl⟩)).2 b hb).1
    have hbe : ((b.toNat : Nat) : Int) = b := Int.toNat_of_nonneg hb0
    exact L.into hf.edges (k := k) (b := b.toNat) (by rw [hgd, hbe]; exact hb) (by rw [hbe]; exact hm) (by rw [hbe]; exact hne)
  generalize nextB l = xs at *
  intro j hj
  rcases Nat.lt_or_ge j xs.length with hlt | hge
  · have hltI : ((j : Nat) : Int) < ((xs.length : Nat) : Int) := by omega
    obtain ⟨b, hb⟩ : ∃ b, xs[j]? = some b := ⟨_, List.getElem?_eq_getElem hlt⟩
    refine .inl ⟨j + 1, ?_, hlt, by omega, rfl⟩
    cases xk with
    | false =>
      cases c1 : x.blocks.contains (k : Int) <;> cases c2 : x.blocks.contains b <;> simp (disch := omega) [round_eq, lcS, encLp, encFn, Tryz.f9, lv9, q, hx, hil, hb, hlt, hltI, has _ x.blocks hfit, c1, c2, e1, wrap_i64, -getElem?_pos, -List.contains_eq_mem]
    | true =>
      cases c1 : x.blocks.contains (k : Int) with
      | true => cases c2 : x.blocks.contains b <;> simp (disch := omega) [round_eq, lcS, encLp, encFn, Tryz.f9, lv9, q, hx, hil, hb, hlt, hltI, has _ x.blocks hfit, c1, c2, e1, wrap_i64, -getElem?_pos, -List.contains_eq_mem]
      | false =>
        cases c2 : x.blocks.contains b with
        | false => simp (disch := omega) [round_eq, lcS, encLp, encFn, Tryz.f9, lv9, q, hx, hil, hb, hlt, hltI, has _ x.blocks hfit, c1, c2, e1, wrap_i64, -getElem?_pos, -List.contains_eq_mem]
        | true =>
          have hbh : b = x.head := by
            apply Classical.byContradiction
            intro hne
            have := hinto b (List.mem_of_getElem? hb) (by simpa using c2) hne
            have h2 : x.blocks.contains (k : Int) = true := by simpa using this
            rw [c1] at h2; cases h2
          have hbB : (b != x.head) = false := by simp [hbh]
          simp (disch := omega) [round_eq, lcS, encLp, encFn, Tryz.f9, lv9, q, hx, hil, hb, hlt, hltI, has _ x.blocks hfit, c1, c2, e1, hbB, wrap_i64, -getElem?_pos, -List.contains_eq_mem]
  · have : j = xs.length := by omega
    subst this
    refine .inr ⟨?_, nofun⟩
    simp (disch := omega) [round_eq, lcS, encFn, Tryz.f9, lv9, q, -getElem?_pos]

theorem lc_1 (i : Nat) (x : Lp) (hx : ls[i]? = some x) :
    lpK 9 Tryz.f9 118 1 h (lcS h f ls rows i (I (0 : Nat)) .junk .junk) = some (.exit 2, lcS h f ls rows i (I (f.blocks.length : Nat)) .junk .junk) := by
  have q := qt9
  simp [Tryz.f9, quietFn, quietRegs] at q
  have hil := (List.getElem?_eq_some_iff.1 hx).1
  obtain ⟨L, hxb, _⟩ := hls.each x (List.mem_of_getElem? hx)
  have hfit : Fit x.blocks := by show x.blocks.length ≤ _; omega
  have hsl : (f.blocks.map nextB).length = f.blocks.length := by simp
  have hll := hls.len
  obtain ⟨hh0, hh1⟩ := L.head
  obtain ⟨hd, hhd⟩ : ∃ hd : Nat, x.head = (hd : Int) := ⟨x.head.toNat, by omega⟩
  have hdn : hd < f.blocks.length := by omega
  have key := loop_fun (P := Tryz.prog) (C := cfg) (sc := runScope Tryz.prog cfg 118 h.length (cfg.live 9) 0) (N := 118) (n0 := h.length) (K := cfg.live 9) (c := loopAt Tryz.f9 1)
    (fun k : Nat => lcS h f ls rows i (I (k : Nat)) .junk .junk) (fun k => k ≤ f.blocks.length) (fun k => f.blocks.length - k)
    (fun _ => (.exit 2, lcS h f ls rows i (I (f.blocks.length : Nat)) .junk .junk)) ?_ 0 (Nat.zero_le _)
  · exact key
  intro k hk
  rcases Nat.lt_or_ge k f.blocks.length with hlt | hge
  · have hltI : ((k : Nat) : Int) < ((f.blocks.length : Nat) : Int) := by omega
    obtain ⟨l, hl⟩ : ∃ l, f.blocks[k]? = some l := ⟨_, List.getElem?_eq_getElem hlt⟩
    have e2 := fun h => next h f hf.ok hf.ended k l hl
    have e3 := lc_2 h f hf hn hls G i x hx k l hl
    obtain ⟨xk, e1, g1⟩ := tab_get G (by omega) hlt hlt
    obtain ⟨xh, e4, g4⟩ := tab_get G (by omega) hdn hlt
    refine .inl ⟨k + 1, ?_, hlt, by omega, rfl⟩
    simp [encFn] at e2
    simp [lcS, encFn, lpK, lv9, Tryz.f9] at e3
    cases c1 : x.blocks.contains (k : Int) with
    | false => simp (disch := omega) [round_eq, lcS, encLp, encFn, Tryz.f9, lv9, q, hx, hil, hlt, hltI, has _ x.blocks hfit, c1, e2, e3, wrap_i64, -getElem?_pos, -List.contains_eq_mem]
    | true =>
      cases xk with
      | false => simp (disch := omega) [round_eq, lcS, encLp, encFn, Tryz.f9, lv9, q, hx, hil, hlt, hltI, has _ x.blocks hfit, c1, e1, e2, e3, wrap_i64, -getElem?_pos, -List.contains_eq_mem]
      | true =>
        have hm : (k : Int) ∈ x.blocks := by simpa using c1
        have hr := (g1.1 rfl).1
        have hrh := L.head_met hf.edges hm hr
        rw [hhd, Int.toNat_natCast] at hrh
        have hxh : xh = true := g4.2 ⟨hrh, hr, by
          by_cases e : hd = k
          · exact .inl e
          · refine .inr fun h' => L.ahead hf.edges hm (by omega) (by rw [hhd]; exact h')⟩
        subst hxh
        simp (disch := omega) [round_eq, lcS, encLp, encFn, Tryz.f9, lv9, q, hx, hil, hlt, hltI, has _ x.blocks hfit, c1, e1, e2, e3, hhd, e4, wrap_i64, -getElem?_pos, -List.contains_eq_mem]
  · have : k = f.blocks.length := by omega
    subst this
    refine .inr ⟨?_, nofun⟩
    simp (disch := omega) [round_eq, lcS, encFn, Tryz.f9, lv9, q, -getElem?_pos]

theorem lc_0 : lpK 9 Tryz.f9 118 0 h (lcS h f ls rows 0 .junk .junk .junk) = some (.exit 0, lcS h f ls rows ls.length .junk .junk .junk) := by
  have q := qt9
  simp [Tryz.f9, quietFn, quietRegs] at q
  have hsl : (f.blocks.map nextB).length = f.blocks.length := by simp
  have hll := hls.len
  have key := loop_fun (P := Tryz.prog) (C := cfg) (sc := runScope Tryz.prog cfg 118 h.length (cfg.live 9) 0) (N := 118) (n0 := h.length) (K := cfg.live 9) (c := loopAt Tryz.f9 0)
    (fun i : Nat => lcS h f ls rows i .junk .junk .junk) (fun i => i ≤ ls.length) (fun i => ls.length - i) (fun _ => (.exit 0, lcS h f ls rows ls.length .junk .junk .junk)) ?_ 0 (Nat.zero_le _)
  · exact key
  intro i hi
  rcases Nat.lt_or_ge i ls.length with hlt | hge
  · have hltI : ((i : Nat) : Int) < ((ls.length : Nat) : Int) := by omega
    obtain ⟨x, hx⟩ : ∃ x, ls[i]? = some x := ⟨_, List.getElem?_eq_getElem hlt⟩
    obtain ⟨L, hxb, _⟩ := hls.each x (List.mem_of_getElem? hx)
    have hfit : Fit x.blocks := by show x.blocks.length ≤ _; omega
    have e := lc_1 h f hf hn hls G i x hx
    have c1 : x.blocks.contains x.head = true := by simpa using L.head_in hf.edges
    refine .inl ⟨i + 1, ?_, hlt, by omega, rfl⟩
    simp [lcS, encFn, lpK, lv9, Tryz.f9] at e
    simp (disch := omega) [round_eq, lcS, encLp, encFn, Tryz.f9, lv9, q, hx, hlt, hltI, has _ x.blocks hfit, c1, e, wrap_i64, -getElem?_pos, -List.contains_eq_mem]
  · have : i = ls.length := by omega
    subst this
    refine .inr ⟨?_, nofun⟩
    simp (disch := omega) [round_eq, lcS, encFn, Tryz.f9, lv9, q, -getElem?_pos]
end

theorem loopsClosed (h : Heap) (f : Fn) (hf : f.Ok) : CX 9 [.agg (encFn f)] h = some (Bo true, h, []) := by
  have hk : cfg.keep 9 = 0 := rfl
  have q := qt9
  simp [Tryz.f9, quietFn, quietRegs] at q
  obtain ⟨b, e1, hb⟩ := light10 [] f hf
  refine CI_of Tryz.func9 rfl 0 ?_
  simp [encFn] at e1
  cases b with
  | false => simp (disch := omega) [Tryz.f9, lv9, hk, encFn, e1, works10, -getElem?_pos]
  | true =>
    obtain ⟨g1, g2, g3⟩ := hb rfl
    obtain ⟨ls, l1, e2⟩ := loopsOf (h ++ [some (.row 5 [encFn f])]) f g1 g2 (by omega)
    obtain ⟨rows, r1, e3⟩ := table (h ++ [some (.row 5 [encFn f])]) f g1 g2
    have e4 := lc_0 h f g1 (by omega) l1 r1
    simp [encFn] at e2 e3
    simp [lcS, encFn, lpK, lv9, Tryz.f9] at e4
    simp (disch := omega) [Tryz.f9, lv9, hk, encFn, e1, e2, e3, e4, works10, -getElem?_pos]
end Go.Proofs.YtdkknhpdjcdmfaaGreat.Abs
