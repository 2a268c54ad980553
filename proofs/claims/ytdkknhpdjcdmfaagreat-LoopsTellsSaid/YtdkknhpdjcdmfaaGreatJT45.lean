/- YtdkknhpdjcdmfaaGreatJT45: texts that follow each other, as one. -/
import Derived.Test.YtdkknhpdjcdmfaaGreatJT44
import Derived.Test.YtdkknhpdjcdmfaaGreatJT30
import Derived.Test.YtdkknhpdjcdmfaaGreatJT43
/- The calls behind the example of a function that forks, as the machine runs them, one by one. -/
set_option maxRecDepth 100000
namespace Go.Proofs.YtdkknhpdjcdmfaaGreat.Abs
open Go Go.RowKit Go.Proofs

def fk0 : Tab := []
theorem fk0_ok : TabOK Tryz.prog cfg 0 fk0 := TabOK.nil _ _
def fa1 : List V := [.one (.str [102, 117, 110, 99, 32, 102, 40, 105, 41, 32, 110, 32, 123, 32, 98, 48, 58, 32, 98, 114, 32, 98, 49, 32, 98, 49, 58, 32, 105, 102, 32, 37, 48, 32, 98, 50, 32, 98, 51, 32, 98, 50, 58, 32, 98, 114, 32, 98, 52, 32, 98,
  51, 58, 32, 98, 114, 32, 98, 52, 32, 98, 52, 58, 32, 105, 102, 32, 37, 48, 32, 98, 49, 32, 98, 53, 32, 98, 53, 58, 32, 114, 101, 116, 32, 98, 54, 58, 32, 114, 101, 116, 32, 125])]
def fh1 : Heap := [some ((.row 5 [[(.str []), .nils, (.int .i64 0), .nils, (.int .i64 0)]]))]
def fr1 : V × Heap × List Nat := ((.tup [(.one (.isl [[(.str [102, 117, 110, 99]), (.int .i64 0)], [(.str [102]), (.int .i64 5)], [(.str [40]), (.int .i64 6)], [(.str [105]), (.int .i64 7)], [(.str [41]), (.int .i64 8)], [(.str [110]), (.int .i64 10)], [(.str
  [123]), (.int .i64 12)], [(.str [98, 48]), (.int .i64 14)], [(.str [58]), (.int .i64 16)], [(.str [98, 114]), (.int .i64 18)], [(.str [98, 49]), (.int .i64 21)], [(.str [98, 49]), (.int .i64 24)], [(.str [58]), (.int .i64 26)],
  [(.str [105, 102]), (.int .i64 28)], [(.str [37, 48]), (.int .i64 31)], [(.str [98, 50]), (.int .i64 34)], [(.str [98, 51]), (.int .i64 37)], [(.str [98, 50]), (.int .i64 40)], [(.str [58]), (.int .i64 42)], [(.str [98, 114]),
  (.int .i64 44)], [(.str [98, 52]), (.int .i64 47)], [(.str [98, 51]), (.int .i64 50)], [(.str [58]), (.int .i64 52)], [(.str [98, 114]), (.int .i64 54)], [(.str [98, 52]), (.int .i64 57)], [(.str [98, 52]), (.int .i64 60)], [(.str
  [58]), (.int .i64 62)], [(.str [105, 102]), (.int .i64 64)], [(.str [37, 48]), (.int .i64 67)], [(.str [98, 49]), (.int .i64 70)], [(.str [98, 53]), (.int .i64 73)], [(.str [98, 53]), (.int .i64 76)], [(.str [58]), (.int .i64
  78)], [(.str [114, 101, 116]), (.int .i64 80)], [(.str [98, 54]), (.int .i64 84)], [(.str [58]), (.int .i64 86)], [(.str [114, 101, 116]), (.int .i64 88)], [(.str [125]), (.int .i64 92)]])), (.agg [(.int .i64 0), (.int .i64
  0)])]), [some ((.row 5 [[(.str []), .nils, (.int .i64 0), .nils, (.int .i64 0)]]))], [])
def fk1 : Tab := (95, fa1, fh1, fr1) :: fk0
theorem fk1_ok : TabOK Tryz.prog cfg 120 fk1 := TabOK.add (n := 120) fk0_ok (by decide +kernel)
def fa2 : List V := [(.one (.ptr 3 1 0 0)), (.one (.int .i64 0))]
def fh2 : Heap := [some ((.row 5 [[(.str []), .nils, (.int .i64 0), .nils, (.int .i64 0)]])), some ((.row 1 [[.nils]])), some ((.row 2 [[(.int .i64 0), (.int .i64 0)]])), some ((.row 6 [[(.isl [[(.str [102, 117, 110, 99]), (.int .i64 0)], [(.str
  [102]), (.int .i64 5)], [(.str [40]), (.int .i64 6)], [(.str [105]), (.int .i64 7)], [(.str [41]), (.int .i64 8)], [(.str [110]), (.int .i64 10)], [(.str [123]), (.int .i64 12)], [(.str [98, 48]), (.int .i64 14)], [(.str [58]),
  (.int .i64 16)], [(.str [98, 114]), (.int .i64 18)], [(.str [98, 49]), (.int .i64 21)], [(.str [98, 49]), (.int .i64 24)], [(.str [58]), (.int .i64 26)], [(.str [105, 102]), (.int .i64 28)], [(.str [37, 48]), (.int .i64 31)],
  [(.str [98, 50]), (.int .i64 34)], [(.str [98, 51]), (.int .i64 37)], [(.str [98, 50]), (.int .i64 40)], [(.str [58]), (.int .i64 42)], [(.str [98, 114]), (.int .i64 44)], [(.str [98, 52]), (.int .i64 47)], [(.str [98, 51]), (.int
  .i64 50)], [(.str [58]), (.int .i64 52)], [(.str [98, 114]), (.int .i64 54)], [(.str [98, 52]), (.int .i64 57)], [(.str [98, 52]), (.int .i64 60)], [(.str [58]), (.int .i64 62)], [(.str [105, 102]), (.int .i64 64)], [(.str [37,
  48]), (.int .i64 67)], [(.str [98, 49]), (.int .i64 70)], [(.str [98, 53]), (.int .i64 73)], [(.str [98, 53]), (.int .i64 76)], [(.str [58]), (.int .i64 78)], [(.str [114, 101, 116]), (.int .i64 80)], [(.str [98, 54]), (.int .i64
  84)], [(.str [58]), (.int .i64 86)], [(.str [114, 101, 116]), (.int .i64 88)], [(.str [125]), (.int .i64 92)]]), (.int .i64 7), (.int .i64 93), (.int .i64 0), (.int .i64 0), (.int .i64 0)]])), some ((.row 1 [[(.sl 5 5 0 0 0)]])),
  some ((.row 5 [])), some ((.row 5 [[(.str [102]), (.sl 7 1 1 0 1), (.int .i64 0), (.sl 8 1 0 0 0), (.int .i64 0)]])), some ((.row 1 [[(.int .i64 1)]])), some ((.row 1 [])), some ((.row 5 [[(.str []), .nils, (.int .i64 0), .nils,
  (.int .i64 0)]]))]
def fr2 : V × Heap × List Nat := ((.one (.isl [[(.int .i64 26), (.int .i64 (-(0 + 1))), (.int .i64 0), (.int .i64 0), (.isl []), (.isl [[(.int .i64 1)]]), (.str []), (.int .i64 18)]])), [some ((.row 5 [[(.str []), .nils, (.int .i64 0), .nils, (.int .i64 0)]])),
  some ((.row 1 [[.nils]])), some ((.row 2 [[(.int .i64 0), (.int .i64 0)]])), some ((.row 6 [[(.isl [[(.str [102, 117, 110, 99]), (.int .i64 0)], [(.str [102]), (.int .i64 5)], [(.str [40]), (.int .i64 6)], [(.str [105]), (.int
  .i64 7)], [(.str [41]), (.int .i64 8)], [(.str [110]), (.int .i64 10)], [(.str [123]), (.int .i64 12)], [(.str [98, 48]), (.int .i64 14)], [(.str [58]), (.int .i64 16)], [(.str [98, 114]), (.int .i64 18)], [(.str [98, 49]), (.int
  .i64 21)], [(.str [98, 49]), (.int .i64 24)], [(.str [58]), (.int .i64 26)], [(.str [105, 102]), (.int .i64 28)], [(.str [37, 48]), (.int .i64 31)], [(.str [98, 50]), (.int .i64 34)], [(.str [98, 51]), (.int .i64 37)], [(.str [98,
  50]), (.int .i64 40)], [(.str [58]), (.int .i64 42)], [(.str [98, 114]), (.int .i64 44)], [(.str [98, 52]), (.int .i64 47)], [(.str [98, 51]), (.int .i64 50)], [(.str [58]), (.int .i64 52)], [(.str [98, 114]), (.int .i64 54)],
  [(.str [98, 52]), (.int .i64 57)], [(.str [98, 52]), (.int .i64 60)], [(.str [58]), (.int .i64 62)], [(.str [105, 102]), (.int .i64 64)], [(.str [37, 48]), (.int .i64 67)], [(.str [98, 49]), (.int .i64 70)], [(.str [98, 53]),
  (.int .i64 73)], [(.str [98, 53]), (.int .i64 76)], [(.str [58]), (.int .i64 78)], [(.str [114, 101, 116]), (.int .i64 80)], [(.str [98, 54]), (.int .i64 84)], [(.str [58]), (.int .i64 86)], [(.str [114, 101, 116]), (.int .i64
  88)], [(.str [125]), (.int .i64 92)]]), (.int .i64 11), (.int .i64 93), (.int .i64 1), (.int .i64 0), (.int .i64 0)]])), some ((.row 1 [[(.sl 5 5 0 0 0)]])), some ((.row 5 [])), some ((.row 5 [[(.str [102]), (.sl 7 1 1 0 1), (.int
  .i64 0), (.sl 8 1 0 0 0), (.int .i64 0)]])), some ((.row 1 [[(.int .i64 1)]])), some ((.row 1 [])), some ((.row 5 [[(.str []), .nils, (.int .i64 0), .nils, (.int .i64 0)]]))], [3])
def fk2 : Tab := (148, fa2, fh2, fr2) :: fk1
theorem fk2_ok : TabOK Tryz.prog cfg 240 fk2 := TabOK.add (n := 120) fk1_ok (by decide +kernel)
def fa3 : List V := [(.one (.ptr 3 1 0 0)), (.one (.int .i64 1))]
def fh3 : Heap := [some ((.row 5 [[(.str []), .nils, (.int .i64 0), .nils, (.int .i64 0)]])), some ((.row 1 [[.nils]])), some ((.row 2 [[(.int .i64 0), (.int .i64 0)]])), some ((.row 6 [[(.isl [[(.str [102, 117, 110, 99]), (.int .i64 0)], [(.str
  [102]), (.int .i64 5)], [(.str [40]), (.int .i64 6)], [(.str [105]), (.int .i64 7)], [(.str [41]), (.int .i64 8)], [(.str [110]), (.int .i64 10)], [(.str [123]), (.int .i64 12)], [(.str [98, 48]), (.int .i64 14)], [(.str [58]),
  (.int .i64 16)], [(.str [98, 114]), (.int .i64 18)], [(.str [98, 49]), (.int .i64 21)], [(.str [98, 49]), (.int .i64 24)], [(.str [58]), (.int .i64 26)], [(.str [105, 102]), (.int .i64 28)], [(.str [37, 48]), (.int .i64 31)],
  [(.str [98, 50]), (.int .i64 34)], [(.str [98, 51]), (.int .i64 37)], [(.str [98, 50]), (.int .i64 40)], [(.str [58]), (.int .i64 42)], [(.str [98, 114]), (.int .i64 44)], [(.str [98, 52]), (.int .i64 47)], [(.str [98, 51]), (.int
  .i64 50)], [(.str [58]), (.int .i64 52)], [(.str [98, 114]), (.int .i64 54)], [(.str [98, 52]), (.int .i64 57)], [(.str [98, 52]), (.int .i64 60)], [(.str [58]), (.int .i64 62)], [(.str [105, 102]), (.int .i64 64)], [(.str [37,
  48]), (.int .i64 67)], [(.str [98, 49]), (.int .i64 70)], [(.str [98, 53]), (.int .i64 73)], [(.str [98, 53]), (.int .i64 76)], [(.str [58]), (.int .i64 78)], [(.str [114, 101, 116]), (.int .i64 80)], [(.str [98, 54]), (.int .i64
  84)], [(.str [58]), (.int .i64 86)], [(.str [114, 101, 116]), (.int .i64 88)], [(.str [125]), (.int .i64 92)]]), (.int .i64 11), (.int .i64 93), (.int .i64 1), (.int .i64 0), (.int .i64 0)]])), some ((.row 1 [[(.sl 5 5 0 0 0)]])),
  some ((.row 5 [])), some ((.row 5 [[(.str [102]), (.sl 7 1 1 0 1), (.int .i64 0), (.sl 8 1 1 0 1), (.int .i64 0)]])), some ((.row 1 [[(.int .i64 1)]])), some ((.row 1 [[(.isl [[(.int .i64 26), (.int .i64 (-(0 + 1))), (.int .i64
  0), (.int .i64 0), (.isl []), (.isl [[(.int .i64 1)]]), (.str []), (.int .i64 18)]])]])), some ((.row 5 [[(.str []), .nils, (.int .i64 0), .nils, (.int .i64 0)]]))]
def fr3 : V × Heap × List Nat := ((.one (.isl [[(.int .i64 27), (.int .i64 (-(0 + 1))), (.int .i64 0), (.int .i64 0), (.isl [[(.int .i64 0)]]), (.isl [[(.int .i64 2)], [(.int .i64 3)]]), (.str []), (.int .i64 28)]])), [some ((.row 5 [[(.str []), .nils, (.int .i64
  0), .nils, (.int .i64 0)]])), some ((.row 1 [[.nils]])), some ((.row 2 [[(.int .i64 0), (.int .i64 0)]])), some ((.row 6 [[(.isl [[(.str [102, 117, 110, 99]), (.int .i64 0)], [(.str [102]), (.int .i64 5)], [(.str [40]), (.int .i64
  6)], [(.str [105]), (.int .i64 7)], [(.str [41]), (.int .i64 8)], [(.str [110]), (.int .i64 10)], [(.str [123]), (.int .i64 12)], [(.str [98, 48]), (.int .i64 14)], [(.str [58]), (.int .i64 16)], [(.str [98, 114]), (.int .i64
  18)], [(.str [98, 49]), (.int .i64 21)], [(.str [98, 49]), (.int .i64 24)], [(.str [58]), (.int .i64 26)], [(.str [105, 102]), (.int .i64 28)], [(.str [37, 48]), (.int .i64 31)], [(.str [98, 50]), (.int .i64 34)], [(.str [98,
  51]), (.int .i64 37)], [(.str [98, 50]), (.int .i64 40)], [(.str [58]), (.int .i64 42)], [(.str [98, 114]), (.int .i64 44)], [(.str [98, 52]), (.int .i64 47)], [(.str [98, 51]), (.int .i64 50)], [(.str [58]), (.int .i64 52)],
  [(.str [98, 114]), (.int .i64 54)], [(.str [98, 52]), (.int .i64 57)], [(.str [98, 52]), (.int .i64 60)], [(.str [58]), (.int .i64 62)], [(.str [105, 102]), (.int .i64 64)], [(.str [37, 48]), (.int .i64 67)], [(.str [98, 49]),
  (.int .i64 70)], [(.str [98, 53]), (.int .i64 73)], [(.str [98, 53]), (.int .i64 76)], [(.str [58]), (.int .i64 78)], [(.str [114, 101, 116]), (.int .i64 80)], [(.str [98, 54]), (.int .i64 84)], [(.str [58]), (.int .i64 86)],
  [(.str [114, 101, 116]), (.int .i64 88)], [(.str [125]), (.int .i64 92)]]), (.int .i64 17), (.int .i64 93), (.int .i64 2), (.int .i64 0), (.int .i64 0)]])), some ((.row 1 [[(.sl 5 5 0 0 0)]])), some ((.row 5 [])), some ((.row 5
  [[(.str [102]), (.sl 7 1 1 0 1), (.int .i64 0), (.sl 8 1 1 0 1), (.int .i64 0)]])), some ((.row 1 [[(.int .i64 1)]])), some ((.row 1 [[(.isl [[(.int .i64 26), (.int .i64 (-(0 + 1))), (.int .i64 0), (.int .i64 0), (.isl []), (.isl
  [[(.int .i64 1)]]), (.str []), (.int .i64 18)]])]])), some ((.row 5 [[(.str []), .nils, (.int .i64 0), .nils, (.int .i64 0)]]))], [3])
def fk3 : Tab := (148, fa3, fh3, fr3) :: fk2
theorem fk3_ok : TabOK Tryz.prog cfg 360 fk3 := TabOK.add (n := 120) fk2_ok (by decide +kernel)
def fa4 : List V := [(.one (.ptr 3 1 0 0)), (.one (.int .i64 2))]
def fh4 : Heap := [some ((.row 5 [[(.str []), .nils, (.int .i64 0), .nils, (.int .i64 0)]])), some ((.row 1 [[.nils]])), some ((.row 2 [[(.int .i64 0), (.int .i64 0)]])), some ((.row 6 [[(.isl [[(.str [102, 117, 110, 99]), (.int .i64 0)], [(.str
  [102]), (.int .i64 5)], [(.str [40]), (.int .i64 6)], [(.str [105]), (.int .i64 7)], [(.str [41]), (.int .i64 8)], [(.str [110]), (.int .i64 10)], [(.str [123]), (.int .i64 12)], [(.str [98, 48]), (.int .i64 14)], [(.str [58]),
  (.int .i64 16)], [(.str [98, 114]), (.int .i64 18)], [(.str [98, 49]), (.int .i64 21)], [(.str [98, 49]), (.int .i64 24)], [(.str [58]), (.int .i64 26)], [(.str [105, 102]), (.int .i64 28)], [(.str [37, 48]), (.int .i64 31)],
  [(.str [98, 50]), (.int .i64 34)], [(.str [98, 51]), (.int .i64 37)], [(.str [98, 50]), (.int .i64 40)], [(.str [58]), (.int .i64 42)], [(.str [98, 114]), (.int .i64 44)], [(.str [98, 52]), (.int .i64 47)], [(.str [98, 51]), (.int
  .i64 50)], [(.str [58]), (.int .i64 52)], [(.str [98, 114]), (.int .i64 54)], [(.str [98, 52]), (.int .i64 57)], [(.str [98, 52]), (.int .i64 60)], [(.str [58]), (.int .i64 62)], [(.str [105, 102]), (.int .i64 64)], [(.str [37,
  48]), (.int .i64 67)], [(.str [98, 49]), (.int .i64 70)], [(.str [98, 53]), (.int .i64 73)], [(.str [98, 53]), (.int .i64 76)], [(.str [58]), (.int .i64 78)], [(.str [114, 101, 116]), (.int .i64 80)], [(.str [98, 54]), (.int .i64
  84)], [(.str [58]), (.int .i64 86)], [(.str [114, 101, 116]), (.int .i64 88)], [(.str [125]), (.int .i64 92)]]), (.int .i64 17), (.int .i64 93), (.int .i64 2), (.int .i64 0), (.int .i64 0)]])), some ((.row 1 [[(.sl 5 5 0 0 0)]])),
  some ((.row 5 [])), some ((.row 5 [[(.str [102]), (.sl 7 1 1 0 1), (.int .i64 0), (.sl 8 1 2 0 2), (.int .i64 0)]])), some ((.row 1 [[(.int .i64 1)]])), some ((.row 1 [[(.isl [[(.int .i64 26), (.int .i64 (-(0 + 1))), (.int .i64
  0), (.int .i64 0), (.isl []), (.isl [[(.int .i64 1)]]), (.str []), (.int .i64 18)]])], [(.isl [[(.int .i64 27), (.int .i64 (-(0 + 1))), (.int .i64 0), (.int .i64 0), (.isl [[(.int .i64 0)]]), (.isl [[(.int .i64 2)], [(.int .i64
  3)]]), (.str []), (.int .i64 28)]])]])), some ((.row 5 [[(.str []), .nils, (.int .i64 0), .nils, (.int .i64 0)]]))]
def fr4 : V × Heap × List Nat := ((.one (.isl [[(.int .i64 26), (.int .i64 (-(0 + 1))), (.int .i64 0), (.int .i64 0), (.isl []), (.isl [[(.int .i64 4)]]), (.str []), (.int .i64 44)]])), [some ((.row 5 [[(.str []), .nils, (.int .i64 0), .nils, (.int .i64 0)]])),
  some ((.row 1 [[.nils]])), some ((.row 2 [[(.int .i64 0), (.int .i64 0)]])), some ((.row 6 [[(.isl [[(.str [102, 117, 110, 99]), (.int .i64 0)], [(.str [102]), (.int .i64 5)], [(.str [40]), (.int .i64 6)], [(.str [105]), (.int
  .i64 7)], [(.str [41]), (.int .i64 8)], [(.str [110]), (.int .i64 10)], [(.str [123]), (.int .i64 12)], [(.str [98, 48]), (.int .i64 14)], [(.str [58]), (.int .i64 16)], [(.str [98, 114]), (.int .i64 18)], [(.str [98, 49]), (.int
  .i64 21)], [(.str [98, 49]), (.int .i64 24)], [(.str [58]), (.int .i64 26)], [(.str [105, 102]), (.int .i64 28)], [(.str [37, 48]), (.int .i64 31)], [(.str [98, 50]), (.int .i64 34)], [(.str [98, 51]), (.int .i64 37)], [(.str [98,
  50]), (.int .i64 40)], [(.str [58]), (.int .i64 42)], [(.str [98, 114]), (.int .i64 44)], [(.str [98, 52]), (.int .i64 47)], [(.str [98, 51]), (.int .i64 50)], [(.str [58]), (.int .i64 52)], [(.str [98, 114]), (.int .i64 54)],
  [(.str [98, 52]), (.int .i64 57)], [(.str [98, 52]), (.int .i64 60)], [(.str [58]), (.int .i64 62)], [(.str [105, 102]), (.int .i64 64)], [(.str [37, 48]), (.int .i64 67)], [(.str [98, 49]), (.int .i64 70)], [(.str [98, 53]),
  (.int .i64 73)], [(.str [98, 53]), (.int .i64 76)], [(.str [58]), (.int .i64 78)], [(.str [114, 101, 116]), (.int .i64 80)], [(.str [98, 54]), (.int .i64 84)], [(.str [58]), (.int .i64 86)], [(.str [114, 101, 116]), (.int .i64
  88)], [(.str [125]), (.int .i64 92)]]), (.int .i64 21), (.int .i64 93), (.int .i64 3), (.int .i64 0), (.int .i64 0)]])), some ((.row 1 [[(.sl 5 5 0 0 0)]])), some ((.row 5 [])), some ((.row 5 [[(.str [102]), (.sl 7 1 1 0 1), (.int
  .i64 0), (.sl 8 1 2 0 2), (.int .i64 0)]])), some ((.row 1 [[(.int .i64 1)]])), some ((.row 1 [[(.isl [[(.int .i64 26), (.int .i64 (-(0 + 1))), (.int .i64 0), (.int .i64 0), (.isl []), (.isl [[(.int .i64 1)]]), (.str []), (.int
  .i64 18)]])], [(.isl [[(.int .i64 27), (.int .i64 (-(0 + 1))), (.int .i64 0), (.int .i64 0), (.isl [[(.int .i64 0)]]), (.isl [[(.int .i64 2)], [(.int .i64 3)]]), (.str []), (.int .i64 28)]])]])), some ((.row 5 [[(.str []), .nils,
  (.int .i64 0), .nils, (.int .i64 0)]]))], [3])
def fk4 : Tab := (148, fa4, fh4, fr4) :: fk3
theorem fk4_ok : TabOK Tryz.prog cfg 480 fk4 := TabOK.add (n := 120) fk3_ok (by decide +kernel)
def fa5 : List V := [(.one (.ptr 3 1 0 0)), (.one (.int .i64 3))]
def fh5 : Heap := [some ((.row 5 [[(.str []), .nils, (.int .i64 0), .nils, (.int .i64 0)]])), some ((.row 1 [[.nils]])), some ((.row 2 [[(.int .i64 0), (.int .i64 0)]])), some ((.row 6 [[(.isl [[(.str [102, 117, 110, 99]), (.int .i64 0)], [(.str
  [102]), (.int .i64 5)], [(.str [40]), (.int .i64 6)], [(.str [105]), (.int .i64 7)], [(.str [41]), (.int .i64 8)], [(.str [110]), (.int .i64 10)], [(.str [123]), (.int .i64 12)], [(.str [98, 48]), (.int .i64 14)], [(.str [58]),
  (.int .i64 16)], [(.str [98, 114]), (.int .i64 18)], [(.str [98, 49]), (.int .i64 21)], [(.str [98, 49]), (.int .i64 24)], [(.str [58]), (.int .i64 26)], [(.str [105, 102]), (.int .i64 28)], [(.str [37, 48]), (.int .i64 31)],
  [(.str [98, 50]), (.int .i64 34)], [(.str [98, 51]), (.int .i64 37)], [(.str [98, 50]), (.int .i64 40)], [(.str [58]), (.int .i64 42)], [(.str [98, 114]), (.int .i64 44)], [(.str [98, 52]), (.int .i64 47)], [(.str [98, 51]), (.int
  .i64 50)], [(.str [58]), (.int .i64 52)], [(.str [98, 114]), (.int .i64 54)], [(.str [98, 52]), (.int .i64 57)], [(.str [98, 52]), (.int .i64 60)], [(.str [58]), (.int .i64 62)], [(.str [105, 102]), (.int .i64 64)], [(.str [37,
  48]), (.int .i64 67)], [(.str [98, 49]), (.int .i64 70)], [(.str [98, 53]), (.int .i64 73)], [(.str [98, 53]), (.int .i64 76)], [(.str [58]), (.int .i64 78)], [(.str [114, 101, 116]), (.int .i64 80)], [(.str [98, 54]), (.int .i64
  84)], [(.str [58]), (.int .i64 86)], [(.str [114, 101, 116]), (.int .i64 88)], [(.str [125]), (.int .i64 92)]]), (.int .i64 21), (.int .i64 93), (.int .i64 3), (.int .i64 0), (.int .i64 0)]])), some ((.row 1 [[(.sl 5 5 0 0 0)]])),
  some ((.row 5 [])), some ((.row 5 [[(.str [102]), (.sl 7 1 1 0 1), (.int .i64 0), (.sl 8 1 3 0 3), (.int .i64 0)]])), some ((.row 1 [[(.int .i64 1)]])), some ((.row 1 [[(.isl [[(.int .i64 26), (.int .i64 (-(0 + 1))), (.int .i64
  0), (.int .i64 0), (.isl []), (.isl [[(.int .i64 1)]]), (.str []), (.int .i64 18)]])], [(.isl [[(.int .i64 27), (.int .i64 (-(0 + 1))), (.int .i64 0), (.int .i64 0), (.isl [[(.int .i64 0)]]), (.isl [[(.int .i64 2)], [(.int .i64
  3)]]), (.str []), (.int .i64 28)]])], [(.isl [[(.int .i64 26), (.int .i64 (-(0 + 1))), (.int .i64 0), (.int .i64 0), (.isl []), (.isl [[(.int .i64 4)]]), (.str []), (.int .i64 44)]])]])), some ((.row 5 [[(.str []), .nils, (.int
  .i64 0), .nils, (.int .i64 0)]]))]
def fr5 : V × Heap × List Nat := ((.one (.isl [[(.int .i64 26), (.int .i64 (-(0 + 1))), (.int .i64 0), (.int .i64 0), (.isl []), (.isl [[(.int .i64 4)]]), (.str []), (.int .i64 54)]])), [some ((.row 5 [[(.str []), .nils, (.int .i64 0), .nils, (.int .i64 0)]])),
  some ((.row 1 [[.nils]])), some ((.row 2 [[(.int .i64 0), (.int .i64 0)]])), some ((.row 6 [[(.isl [[(.str [102, 117, 110, 99]), (.int .i64 0)], [(.str [102]), (.int .i64 5)], [(.str [40]), (.int .i64 6)], [(.str [105]), (.int
  .i64 7)], [(.str [41]), (.int .i64 8)], [(.str [110]), (.int .i64 10)], [(.str [123]), (.int .i64 12)], [(.str [98, 48]), (.int .i64 14)], [(.str [58]), (.int .i64 16)], [(.str [98, 114]), (.int .i64 18)], [(.str [98, 49]), (.int
  .i64 21)], [(.str [98, 49]), (.int .i64 24)], [(.str [58]), (.int .i64 26)], [(.str [105, 102]), (.int .i64 28)], [(.str [37, 48]), (.int .i64 31)], [(.str [98, 50]), (.int .i64 34)], [(.str [98, 51]), (.int .i64 37)], [(.str [98,
  50]), (.int .i64 40)], [(.str [58]), (.int .i64 42)], [(.str [98, 114]), (.int .i64 44)], [(.str [98, 52]), (.int .i64 47)], [(.str [98, 51]), (.int .i64 50)], [(.str [58]), (.int .i64 52)], [(.str [98, 114]), (.int .i64 54)],
  [(.str [98, 52]), (.int .i64 57)], [(.str [98, 52]), (.int .i64 60)], [(.str [58]), (.int .i64 62)], [(.str [105, 102]), (.int .i64 64)], [(.str [37, 48]), (.int .i64 67)], [(.str [98, 49]), (.int .i64 70)], [(.str [98, 53]),
  (.int .i64 73)], [(.str [98, 53]), (.int .i64 76)], [(.str [58]), (.int .i64 78)], [(.str [114, 101, 116]), (.int .i64 80)], [(.str [98, 54]), (.int .i64 84)], [(.str [58]), (.int .i64 86)], [(.str [114, 101, 116]), (.int .i64
  88)], [(.str [125]), (.int .i64 92)]]), (.int .i64 25), (.int .i64 93), (.int .i64 4), (.int .i64 0), (.int .i64 0)]])), some ((.row 1 [[(.sl 5 5 0 0 0)]])), some ((.row 5 [])), some ((.row 5 [[(.str [102]), (.sl 7 1 1 0 1), (.int
  .i64 0), (.sl 8 1 3 0 3), (.int .i64 0)]])), some ((.row 1 [[(.int .i64 1)]])), some ((.row 1 [[(.isl [[(.int .i64 26), (.int .i64 (-(0 + 1))), (.int .i64 0), (.int .i64 0), (.isl []), (.isl [[(.int .i64 1)]]), (.str []), (.int
  .i64 18)]])], [(.isl [[(.int .i64 27), (.int .i64 (-(0 + 1))), (.int .i64 0), (.int .i64 0), (.isl [[(.int .i64 0)]]), (.isl [[(.int .i64 2)], [(.int .i64 3)]]), (.str []), (.int .i64 28)]])], [(.isl [[(.int .i64 26), (.int .i64
  (-(0 + 1))), (.int .i64 0), (.int .i64 0), (.isl []), (.isl [[(.int .i64 4)]]), (.str []), (.int .i64 44)]])]])), some ((.row 5 [[(.str []), .nils, (.int .i64 0), .nils, (.int .i64 0)]]))], [3])
def fk5 : Tab := (148, fa5, fh5, fr5) :: fk4
theorem fk5_ok : TabOK Tryz.prog cfg 600 fk5 := TabOK.add (n := 120) fk4_ok (by decide +kernel)
def fa6 : List V := [(.one (.ptr 3 1 0 0)), (.one (.int .i64 4))]
def fh6 : Heap := [some ((.row 5 [[(.str []), .nils, (.int .i64 0), .nils, (.int .i64 0)]])), some ((.row 1 [[.nils]])), some ((.row 2 [[(.int .i64 0), (.int .i64 0)]])), some ((.row 6 [[(.isl [[(.str [102, 117, 110, 99]), (.int .i64 0)], [(.str
  [102]), (.int .i64 5)], [(.str [40]), (.int .i64 6)], [(.str [105]), (.int .i64 7)], [(.str [41]), (.int .i64 8)], [(.str [110]), (.int .i64 10)], [(.str [123]), (.int .i64 12)], [(.str [98, 48]), (.int .i64 14)], [(.str [58]),
  (.int .i64 16)], [(.str [98, 114]), (.int .i64 18)], [(.str [98, 49]), (.int .i64 21)], [(.str [98, 49]), (.int .i64 24)], [(.str [58]), (.int .i64 26)], [(.str [105, 102]), (.int .i64 28)], [(.str [37, 48]), (.int .i64 31)],
  [(.str [98, 50]), (.int .i64 34)], [(.str [98, 51]), (.int .i64 37)], [(.str [98, 50]), (.int .i64 40)], [(.str [58]), (.int .i64 42)], [(.str [98, 114]), (.int .i64 44)], [(.str [98, 52]), (.int .i64 47)], [(.str [98, 51]), (.int
  .i64 50)], [(.str [58]), (.int .i64 52)], [(.str [98, 114]), (.int .i64 54)], [(.str [98, 52]), (.int .i64 57)], [(.str [98, 52]), (.int .i64 60)], [(.str [58]), (.int .i64 62)], [(.str [105, 102]), (.int .i64 64)], [(.str [37,
  48]), (.int .i64 67)], [(.str [98, 49]), (.int .i64 70)], [(.str [98, 53]), (.int .i64 73)], [(.str [98, 53]), (.int .i64 76)], [(.str [58]), (.int .i64 78)], [(.str [114, 101, 116]), (.int .i64 80)], [(.str [98, 54]), (.int .i64
  84)], [(.str [58]), (.int .i64 86)], [(.str [114, 101, 116]), (.int .i64 88)], [(.str [125]), (.int .i64 92)]]), (.int .i64 25), (.int .i64 93), (.int .i64 4), (.int .i64 0), (.int .i64 0)]])), some ((.row 1 [[(.sl 5 5 0 0 0)]])),
  some ((.row 5 [])), some ((.row 5 [[(.str [102]), (.sl 7 1 1 0 1), (.int .i64 0), (.sl 8 1 4 0 4), (.int .i64 0)]])), some ((.row 1 [[(.int .i64 1)]])), some ((.row 1 [[(.isl [[(.int .i64 26), (.int .i64 (-(0 + 1))), (.int .i64
  0), (.int .i64 0), (.isl []), (.isl [[(.int .i64 1)]]), (.str []), (.int .i64 18)]])], [(.isl [[(.int .i64 27), (.int .i64 (-(0 + 1))), (.int .i64 0), (.int .i64 0), (.isl [[(.int .i64 0)]]), (.isl [[(.int .i64 2)], [(.int .i64
  3)]]), (.str []), (.int .i64 28)]])], [(.isl [[(.int .i64 26), (.int .i64 (-(0 + 1))), (.int .i64 0), (.int .i64 0), (.isl []), (.isl [[(.int .i64 4)]]), (.str []), (.int .i64 44)]])], [(.isl [[(.int .i64 26), (.int .i64 (-(0 +
  1))), (.int .i64 0), (.int .i64 0), (.isl []), (.isl [[(.int .i64 4)]]), (.str []), (.int .i64 54)]])]])), some ((.row 5 [[(.str []), .nils, (.int .i64 0), .nils, (.int .i64 0)]]))]
def fr6 : V × Heap × List Nat := ((.one (.isl [[(.int .i64 27), (.int .i64 (-(0 + 1))), (.int .i64 0), (.int .i64 0), (.isl [[(.int .i64 0)]]), (.isl [[(.int .i64 1)], [(.int .i64 5)]]), (.str []), (.int .i64 64)]])), [some ((.row 5 [[(.str []), .nils, (.int .i64
  0), .nils, (.int .i64 0)]])), some ((.row 1 [[.nils]])), some ((.row 2 [[(.int .i64 0), (.int .i64 0)]])), some ((.row 6 [[(.isl [[(.str [102, 117, 110, 99]), (.int .i64 0)], [(.str [102]), (.int .i64 5)], [(.str [40]), (.int .i64
  6)], [(.str [105]), (.int .i64 7)], [(.str [41]), (.int .i64 8)], [(.str [110]), (.int .i64 10)], [(.str [123]), (.int .i64 12)], [(.str [98, 48]), (.int .i64 14)], [(.str [58]), (.int .i64 16)], [(.str [98, 114]), (.int .i64
  18)], [(.str [98, 49]), (.int .i64 21)], [(.str [98, 49]), (.int .i64 24)], [(.str [58]), (.int .i64 26)], [(.str [105, 102]), (.int .i64 28)], [(.str [37, 48]), (.int .i64 31)], [(.str [98, 50]), (.int .i64 34)], [(.str [98,
  51]), (.int .i64 37)], [(.str [98, 50]), (.int .i64 40)], [(.str [58]), (.int .i64 42)], [(.str [98, 114]), (.int .i64 44)], [(.str [98, 52]), (.int .i64 47)], [(.str [98, 51]), (.int .i64 50)], [(.str [58]), (.int .i64 52)],
  [(.str [98, 114]), (.int .i64 54)], [(.str [98, 52]), (.int .i64 57)], [(.str [98, 52]), (.int .i64 60)], [(.str [58]), (.int .i64 62)], [(.str [105, 102]), (.int .i64 64)], [(.str [37, 48]), (.int .i64 67)], [(.str [98, 49]),
  (.int .i64 70)], [(.str [98, 53]), (.int .i64 73)], [(.str [98, 53]), (.int .i64 76)], [(.str [58]), (.int .i64 78)], [(.str [114, 101, 116]), (.int .i64 80)], [(.str [98, 54]), (.int .i64 84)], [(.str [58]), (.int .i64 86)],
  [(.str [114, 101, 116]), (.int .i64 88)], [(.str [125]), (.int .i64 92)]]), (.int .i64 31), (.int .i64 93), (.int .i64 5), (.int .i64 0), (.int .i64 0)]])), some ((.row 1 [[(.sl 5 5 0 0 0)]])), some ((.row 5 [])), some ((.row 5
  [[(.str [102]), (.sl 7 1 1 0 1), (.int .i64 0), (.sl 8 1 4 0 4), (.int .i64 0)]])), some ((.row 1 [[(.int .i64 1)]])), some ((.row 1 [[(.isl [[(.int .i64 26), (.int .i64 (-(0 + 1))), (.int .i64 0), (.int .i64 0), (.isl []), (.isl
  [[(.int .i64 1)]]), (.str []), (.int .i64 18)]])], [(.isl [[(.int .i64 27), (.int .i64 (-(0 + 1))), (.int .i64 0), (.int .i64 0), (.isl [[(.int .i64 0)]]), (.isl [[(.int .i64 2)], [(.int .i64 3)]]), (.str []), (.int .i64 28)]])],
  [(.isl [[(.int .i64 26), (.int .i64 (-(0 + 1))), (.int .i64 0), (.int .i64 0), (.isl []), (.isl [[(.int .i64 4)]]), (.str []), (.int .i64 44)]])], [(.isl [[(.int .i64 26), (.int .i64 (-(0 + 1))), (.int .i64 0), (.int .i64 0),
  (.isl []), (.isl [[(.int .i64 4)]]), (.str []), (.int .i64 54)]])]])), some ((.row 5 [[(.str []), .nils, (.int .i64 0), .nils, (.int .i64 0)]]))], [3])
def fk6 : Tab := (148, fa6, fh6, fr6) :: fk5
theorem fk6_ok : TabOK Tryz.prog cfg 720 fk6 := TabOK.add (n := 120) fk5_ok (by decide +kernel)
def fa7 : List V := [(.one (.ptr 3 1 0 0)), (.one (.int .i64 5))]
def fh7 : Heap := [some ((.row 5 [[(.str []), .nils, (.int .i64 0), .nils, (.int .i64 0)]])), some ((.row 1 [[.nils]])), some ((.row 2 [[(.int .i64 0), (.int .i64 0)]])), some ((.row 6 [[(.isl [[(.str [102, 117, 110, 99]), (.int .i64 0)], [(.str
  [102]), (.int .i64 5)], [(.str [40]), (.int .i64 6)], [(.str [105]), (.int .i64 7)], [(.str [41]), (.int .i64 8)], [(.str [110]), (.int .i64 10)], [(.str [123]), (.int .i64 12)], [(.str [98, 48]), (.int .i64 14)], [(.str [58]),
  (.int .i64 16)], [(.str [98, 114]), (.int .i64 18)], [(.str [98, 49]), (.int .i64 21)], [(.str [98, 49]), (.int .i64 24)], [(.str [58]), (.int .i64 26)], [(.str [105, 102]), (.int .i64 28)], [(.str [37, 48]), (.int .i64 31)],
  [(.str [98, 50]), (.int .i64 34)], [(.str [98, 51]), (.int .i64 37)], [(.str [98, 50]), (.int .i64 40)], [(.str [58]), (.int .i64 42)], [(.str [98, 114]), (.int .i64 44)], [(.str [98, 52]), (.int .i64 47)], [(.str [98, 51]), (.int
  .i64 50)], [(.str [58]), (.int .i64 52)], [(.str [98, 114]), (.int .i64 54)], [(.str [98, 52]), (.int .i64 57)], [(.str [98, 52]), (.int .i64 60)], [(.str [58]), (.int .i64 62)], [(.str [105, 102]), (.int .i64 64)], [(.str [37,
  48]), (.int .i64 67)], [(.str [98, 49]), (.int .i64 70)], [(.str [98, 53]), (.int .i64 73)], [(.str [98, 53]), (.int .i64 76)], [(.str [58]), (.int .i64 78)], [(.str [114, 101, 116]), (.int .i64 80)], [(.str [98, 54]), (.int .i64
  84)], [(.str [58]), (.int .i64 86)], [(.str [114, 101, 116]), (.int .i64 88)], [(.str [125]), (.int .i64 92)]]), (.int .i64 31), (.int .i64 93), (.int .i64 5), (.int .i64 0), (.int .i64 0)]])), some ((.row 1 [[(.sl 5 5 0 0 0)]])),
  some ((.row 5 [])), some ((.row 5 [[(.str [102]), (.sl 7 1 1 0 1), (.int .i64 0), (.sl 8 1 5 0 5), (.int .i64 0)]])), some ((.row 1 [[(.int .i64 1)]])), some ((.row 1 [[(.isl [[(.int .i64 26), (.int .i64 (-(0 + 1))), (.int .i64
  0), (.int .i64 0), (.isl []), (.isl [[(.int .i64 1)]]), (.str []), (.int .i64 18)]])], [(.isl [[(.int .i64 27), (.int .i64 (-(0 + 1))), (.int .i64 0), (.int .i64 0), (.isl [[(.int .i64 0)]]), (.isl [[(.int .i64 2)], [(.int .i64
  3)]]), (.str []), (.int .i64 28)]])], [(.isl [[(.int .i64 26), (.int .i64 (-(0 + 1))), (.int .i64 0), (.int .i64 0), (.isl []), (.isl [[(.int .i64 4)]]), (.str []), (.int .i64 44)]])], [(.isl [[(.int .i64 26), (.int .i64 (-(0 +
  1))), (.int .i64 0), (.int .i64 0), (.isl []), (.isl [[(.int .i64 4)]]), (.str []), (.int .i64 54)]])], [(.isl [[(.int .i64 27), (.int .i64 (-(0 + 1))), (.int .i64 0), (.int .i64 0), (.isl [[(.int .i64 0)]]), (.isl [[(.int .i64
  1)], [(.int .i64 5)]]), (.str []), (.int .i64 64)]])]])), some ((.row 5 [[(.str []), .nils, (.int .i64 0), .nils, (.int .i64 0)]]))]
def fr7 : V × Heap × List Nat := ((.one (.isl [[(.int .i64 28), (.int .i64 (-(0 + 1))), (.int .i64 0), (.int .i64 0), (.isl []), (.isl []), (.str []), (.int .i64 80)]])), [some ((.row 5 [[(.str []), .nils, (.int .i64 0), .nils, (.int .i64 0)]])), some ((.row 1
  [[.nils]])), some ((.row 2 [[(.int .i64 0), (.int .i64 0)]])), some ((.row 6 [[(.isl [[(.str [102, 117, 110, 99]), (.int .i64 0)], [(.str [102]), (.int .i64 5)], [(.str [40]), (.int .i64 6)], [(.str [105]), (.int .i64 7)], [(.str
  [41]), (.int .i64 8)], [(.str [110]), (.int .i64 10)], [(.str [123]), (.int .i64 12)], [(.str [98, 48]), (.int .i64 14)], [(.str [58]), (.int .i64 16)], [(.str [98, 114]), (.int .i64 18)], [(.str [98, 49]), (.int .i64 21)], [(.str
  [98, 49]), (.int .i64 24)], [(.str [58]), (.int .i64 26)], [(.str [105, 102]), (.int .i64 28)], [(.str [37, 48]), (.int .i64 31)], [(.str [98, 50]), (.int .i64 34)], [(.str [98, 51]), (.int .i64 37)], [(.str [98, 50]), (.int .i64
  40)], [(.str [58]), (.int .i64 42)], [(.str [98, 114]), (.int .i64 44)], [(.str [98, 52]), (.int .i64 47)], [(.str [98, 51]), (.int .i64 50)], [(.str [58]), (.int .i64 52)], [(.str [98, 114]), (.int .i64 54)], [(.str [98, 52]),
  (.int .i64 57)], [(.str [98, 52]), (.int .i64 60)], [(.str [58]), (.int .i64 62)], [(.str [105, 102]), (.int .i64 64)], [(.str [37, 48]), (.int .i64 67)], [(.str [98, 49]), (.int .i64 70)], [(.str [98, 53]), (.int .i64 73)],
  [(.str [98, 53]), (.int .i64 76)], [(.str [58]), (.int .i64 78)], [(.str [114, 101, 116]), (.int .i64 80)], [(.str [98, 54]), (.int .i64 84)], [(.str [58]), (.int .i64 86)], [(.str [114, 101, 116]), (.int .i64 88)], [(.str [125]),
  (.int .i64 92)]]), (.int .i64 34), (.int .i64 93), (.int .i64 6), (.int .i64 0), (.int .i64 0)]])), some ((.row 1 [[(.sl 5 5 0 0 0)]])), some ((.row 5 [])), some ((.row 5 [[(.str [102]), (.sl 7 1 1 0 1), (.int .i64 0), (.sl 8 1 5
  0 5), (.int .i64 0)]])), some ((.row 1 [[(.int .i64 1)]])), some ((.row 1 [[(.isl [[(.int .i64 26), (.int .i64 (-(0 + 1))), (.int .i64 0), (.int .i64 0), (.isl []), (.isl [[(.int .i64 1)]]), (.str []), (.int .i64 18)]])], [(.isl
  [[(.int .i64 27), (.int .i64 (-(0 + 1))), (.int .i64 0), (.int .i64 0), (.isl [[(.int .i64 0)]]), (.isl [[(.int .i64 2)], [(.int .i64 3)]]), (.str []), (.int .i64 28)]])], [(.isl [[(.int .i64 26), (.int .i64 (-(0 + 1))), (.int
  .i64 0), (.int .i64 0), (.isl []), (.isl [[(.int .i64 4)]]), (.str []), (.int .i64 44)]])], [(.isl [[(.int .i64 26), (.int .i64 (-(0 + 1))), (.int .i64 0), (.int .i64 0), (.isl []), (.isl [[(.int .i64 4)]]), (.str []), (.int .i64
  54)]])], [(.isl [[(.int .i64 27), (.int .i64 (-(0 + 1))), (.int .i64 0), (.int .i64 0), (.isl [[(.int .i64 0)]]), (.isl [[(.int .i64 1)], [(.int .i64 5)]]), (.str []), (.int .i64 64)]])]])), some ((.row 5 [[(.str []), .nils, (.int
  .i64 0), .nils, (.int .i64 0)]]))], [3])
def fk7 : Tab := (148, fa7, fh7, fr7) :: fk6
theorem fk7_ok : TabOK Tryz.prog cfg 840 fk7 := TabOK.add (n := 120) fk6_ok (by decide +kernel)
def fa8 : List V := [(.one (.ptr 3 1 0 0)), (.one (.int .i64 6))]
def fh8 : Heap := [some ((.row 5 [[(.str []), .nils, (.int .i64 0), .nils, (.int .i64 0)]])), some ((.row 1 [[.nils]])), some ((.row 2 [[(.int .i64 0), (.int .i64 0)]])), some ((.row 6 [[(.isl [[(.str [102, 117, 110, 99]), (.int .i64 0)], [(.str
  [102]), (.int .i64 5)], [(.str [40]), (.int .i64 6)], [(.str [105]), (.int .i64 7)], [(.str [41]), (.int .i64 8)], [(.str [110]), (.int .i64 10)], [(.str [123]), (.int .i64 12)], [(.str [98, 48]), (.int .i64 14)], [(.str [58]),
  (.int .i64 16)], [(.str [98, 114]), (.int .i64 18)], [(.str [98, 49]), (.int .i64 21)], [(.str [98, 49]), (.int .i64 24)], [(.str [58]), (.int .i64 26)], [(.str [105, 102]), (.int .i64 28)], [(.str [37, 48]), (.int .i64 31)],
  [(.str [98, 50]), (.int .i64 34)], [(.str [98, 51]), (.int .i64 37)], [(.str [98, 50]), (.int .i64 40)], [(.str [58]), (.int .i64 42)], [(.str [98, 114]), (.int .i64 44)], [(.str [98, 52]), (.int .i64 47)], [(.str [98, 51]), (.int
  .i64 50)], [(.str [58]), (.int .i64 52)], [(.str [98, 114]), (.int .i64 54)], [(.str [98, 52]), (.int .i64 57)], [(.str [98, 52]), (.int .i64 60)], [(.str [58]), (.int .i64 62)], [(.str [105, 102]), (.int .i64 64)], [(.str [37,
  48]), (.int .i64 67)], [(.str [98, 49]), (.int .i64 70)], [(.str [98, 53]), (.int .i64 73)], [(.str [98, 53]), (.int .i64 76)], [(.str [58]), (.int .i64 78)], [(.str [114, 101, 116]), (.int .i64 80)], [(.str [98, 54]), (.int .i64
  84)], [(.str [58]), (.int .i64 86)], [(.str [114, 101, 116]), (.int .i64 88)], [(.str [125]), (.int .i64 92)]]), (.int .i64 34), (.int .i64 93), (.int .i64 6), (.int .i64 0), (.int .i64 0)]])), some ((.row 1 [[(.sl 5 5 0 0 0)]])),
  some ((.row 5 [])), some ((.row 5 [[(.str [102]), (.sl 7 1 1 0 1), (.int .i64 0), (.sl 8 1 6 0 6), (.int .i64 0)]])), some ((.row 1 [[(.int .i64 1)]])), some ((.row 1 [[(.isl [[(.int .i64 26), (.int .i64 (-(0 + 1))), (.int .i64
  0), (.int .i64 0), (.isl []), (.isl [[(.int .i64 1)]]), (.str []), (.int .i64 18)]])], [(.isl [[(.int .i64 27), (.int .i64 (-(0 + 1))), (.int .i64 0), (.int .i64 0), (.isl [[(.int .i64 0)]]), (.isl [[(.int .i64 2)], [(.int .i64
  3)]]), (.str []), (.int .i64 28)]])], [(.isl [[(.int .i64 26), (.int .i64 (-(0 + 1))), (.int .i64 0), (.int .i64 0), (.isl []), (.isl [[(.int .i64 4)]]), (.str []), (.int .i64 44)]])], [(.isl [[(.int .i64 26), (.int .i64 (-(0 +
  1))), (.int .i64 0), (.int .i64 0), (.isl []), (.isl [[(.int .i64 4)]]), (.str []), (.int .i64 54)]])], [(.isl [[(.int .i64 27), (.int .i64 (-(0 + 1))), (.int .i64 0), (.int .i64 0), (.isl [[(.int .i64 0)]]), (.isl [[(.int .i64
  1)], [(.int .i64 5)]]), (.str []), (.int .i64 64)]])], [(.isl [[(.int .i64 28), (.int .i64 (-(0 + 1))), (.int .i64 0), (.int .i64 0), (.isl []), (.isl []), (.str []), (.int .i64 80)]])]])), some ((.row 5 [[(.str []), .nils, (.int
  .i64 0), .nils, (.int .i64 0)]]))]
def fr8 : V × Heap × List Nat := ((.one (.isl [[(.int .i64 28), (.int .i64 (-(0 + 1))), (.int .i64 0), (.int .i64 0), (.isl []), (.isl []), (.str []), (.int .i64 88)]])), [some ((.row 5 [[(.str []), .nils, (.int .i64 0), .nils, (.int .i64 0)]])), some ((.row 1
  [[.nils]])), some ((.row 2 [[(.int .i64 0), (.int .i64 0)]])), some ((.row 6 [[(.isl [[(.str [102, 117, 110, 99]), (.int .i64 0)], [(.str [102]), (.int .i64 5)], [(.str [40]), (.int .i64 6)], [(.str [105]), (.int .i64 7)], [(.str
  [41]), (.int .i64 8)], [(.str [110]), (.int .i64 10)], [(.str [123]), (.int .i64 12)], [(.str [98, 48]), (.int .i64 14)], [(.str [58]), (.int .i64 16)], [(.str [98, 114]), (.int .i64 18)], [(.str [98, 49]), (.int .i64 21)], [(.str
  [98, 49]), (.int .i64 24)], [(.str [58]), (.int .i64 26)], [(.str [105, 102]), (.int .i64 28)], [(.str [37, 48]), (.int .i64 31)], [(.str [98, 50]), (.int .i64 34)], [(.str [98, 51]), (.int .i64 37)], [(.str [98, 50]), (.int .i64
  40)], [(.str [58]), (.int .i64 42)], [(.str [98, 114]), (.int .i64 44)], [(.str [98, 52]), (.int .i64 47)], [(.str [98, 51]), (.int .i64 50)], [(.str [58]), (.int .i64 52)], [(.str [98, 114]), (.int .i64 54)], [(.str [98, 52]),
  (.int .i64 57)], [(.str [98, 52]), (.int .i64 60)], [(.str [58]), (.int .i64 62)], [(.str [105, 102]), (.int .i64 64)], [(.str [37, 48]), (.int .i64 67)], [(.str [98, 49]), (.int .i64 70)], [(.str [98, 53]), (.int .i64 73)],
  [(.str [98, 53]), (.int .i64 76)], [(.str [58]), (.int .i64 78)], [(.str [114, 101, 116]), (.int .i64 80)], [(.str [98, 54]), (.int .i64 84)], [(.str [58]), (.int .i64 86)], [(.str [114, 101, 116]), (.int .i64 88)], [(.str [125]),
  (.int .i64 92)]]), (.int .i64 37), (.int .i64 93), (.int .i64 7), (.int .i64 0), (.int .i64 0)]])), some ((.row 1 [[(.sl 5 5 0 0 0)]])), some ((.row 5 [])), some ((.row 5 [[(.str [102]), (.sl 7 1 1 0 1), (.int .i64 0), (.sl 8 1 6
  0 6), (.int .i64 0)]])), some ((.row 1 [[(.int .i64 1)]])), some ((.row 1 [[(.isl [[(.int .i64 26), (.int .i64 (-(0 + 1))), (.int .i64 0), (.int .i64 0), (.isl []), (.isl [[(.int .i64 1)]]), (.str []), (.int .i64 18)]])], [(.isl
  [[(.int .i64 27), (.int .i64 (-(0 + 1))), (.int .i64 0), (.int .i64 0), (.isl [[(.int .i64 0)]]), (.isl [[(.int .i64 2)], [(.int .i64 3)]]), (.str []), (.int .i64 28)]])], [(.isl [[(.int .i64 26), (.int .i64 (-(0 + 1))), (.int
  .i64 0), (.int .i64 0), (.isl []), (.isl [[(.int .i64 4)]]), (.str []), (.int .i64 44)]])], [(.isl [[(.int .i64 26), (.int .i64 (-(0 + 1))), (.int .i64 0), (.int .i64 0), (.isl []), (.isl [[(.int .i64 4)]]), (.str []), (.int .i64
  54)]])], [(.isl [[(.int .i64 27), (.int .i64 (-(0 + 1))), (.int .i64 0), (.int .i64 0), (.isl [[(.int .i64 0)]]), (.isl [[(.int .i64 1)], [(.int .i64 5)]]), (.str []), (.int .i64 64)]])], [(.isl [[(.int .i64 28), (.int .i64 (-(0 +
  1))), (.int .i64 0), (.int .i64 0), (.isl []), (.isl []), (.str []), (.int .i64 80)]])]])), some ((.row 5 [[(.str []), .nils, (.int .i64 0), .nils, (.int .i64 0)]]))], [3])
def fk8 : Tab := (148, fa8, fh8, fr8) :: fk7
theorem fk8_ok : TabOK Tryz.prog cfg 960 fk8 := TabOK.add (n := 120) fk7_ok (by decide +kernel)
def fa9 : List V := [.one (.str [102, 117, 110, 99, 32, 102, 40, 105, 41, 32, 110, 32, 123, 32, 98, 48, 58, 32, 98, 114, 32, 98, 49, 32, 98, 49, 58, 32, 105, 102, 32, 37, 48, 32, 98, 50, 32, 98, 51, 32, 98, 50, 58, 32, 98, 114, 32, 98, 52, 32, 98,
  51, 58, 32, 98, 114, 32, 98, 52, 32, 98, 52, 58, 32, 105, 102, 32, 37, 48, 32, 98, 49, 32, 98, 53, 32, 98, 53, 58, 32, 114, 101, 116, 32, 98, 54, 58, 32, 114, 101, 116, 32, 125])]
def fh9 : Heap := [some ((.row 5 [[(.str []), .nils, (.int .i64 0), .nils, (.int .i64 0)]]))]
def fr9 : V × Heap × List Nat := ((.tup [(.agg [(.isl [[(.str [102]), (.isl [[(.int .i64 1)]]), (.int .i64 0), (.isl [[(.isl [[(.int .i64 26), (.int .i64 (-(0 + 1))), (.int .i64 0), (.int .i64 0), (.isl []), (.isl [[(.int .i64 1)]]), (.str []), (.int .i64
  18)]])], [(.isl [[(.int .i64 27), (.int .i64 (-(0 + 1))), (.int .i64 0), (.int .i64 0), (.isl [[(.int .i64 0)]]), (.isl [[(.int .i64 2)], [(.int .i64 3)]]), (.str []), (.int .i64 28)]])], [(.isl [[(.int .i64 26), (.int .i64 (-(0 +
  1))), (.int .i64 0), (.int .i64 0), (.isl []), (.isl [[(.int .i64 4)]]), (.str []), (.int .i64 44)]])], [(.isl [[(.int .i64 26), (.int .i64 (-(0 + 1))), (.int .i64 0), (.int .i64 0), (.isl []), (.isl [[(.int .i64 4)]]), (.str []),
  (.int .i64 54)]])], [(.isl [[(.int .i64 27), (.int .i64 (-(0 + 1))), (.int .i64 0), (.int .i64 0), (.isl [[(.int .i64 0)]]), (.isl [[(.int .i64 1)], [(.int .i64 5)]]), (.str []), (.int .i64 64)]])], [(.isl [[(.int .i64 28), (.int
  .i64 (-(0 + 1))), (.int .i64 0), (.int .i64 0), (.isl []), (.isl []), (.str []), (.int .i64 80)]])], [(.isl [[(.int .i64 28), (.int .i64 (-(0 + 1))), (.int .i64 0), (.int .i64 0), (.isl []), (.isl []), (.str []), (.int .i64
  88)]])]]), (.int .i64 0)]])]), (.agg [(.int .i64 0), (.int .i64 0)])]), [some ((.row 5 [[(.str []), .nils, (.int .i64 0), .nils, (.int .i64 0)]]))], [])
def fk9 : Tab := (52, fa9, fh9, fr9) :: fk8
theorem fk9_ok : TabOK Tryz.prog cfg 1160 fk9 := TabOK.add (n := 200) fk8_ok (by decide +kernel)
end Go.Proofs.YtdkknhpdjcdmfaaGreat.Abs

/- The example of a function that forks, as the machine gives it. -/
set_option maxRecDepth 100000
namespace Go.Proofs.YtdkknhpdjcdmfaaGreat.Abs
open Go Go.RowKit Go.Proofs

def fa10 : List V := []
def fh10 : Heap := []
def fr10 : V × Heap × List Nat := (.agg [(.str [102]), (.isl [[(.int .i64 1)]]), (.int .i64 0), (.isl [[(.isl [[(.int .i64 26), (.int .i64 (-(0 + 1))), (.int .i64 0), (.int .i64 0), (.isl []), (.isl [[(.int .i64 1)]]), (.str []), (.int .i64 18)]])], [(.isl [[(.int
  .i64 27), (.int .i64 (-(0 + 1))), (.int .i64 0), (.int .i64 0), (.isl [[(.int .i64 0)]]), (.isl [[(.int .i64 2)], [(.int .i64 3)]]), (.str []), (.int .i64 28)]])], [(.isl [[(.int .i64 26), (.int .i64 (-(0 + 1))), (.int .i64 0),
  (.int .i64 0), (.isl []), (.isl [[(.int .i64 4)]]), (.str []), (.int .i64 44)]])], [(.isl [[(.int .i64 26), (.int .i64 (-(0 + 1))), (.int .i64 0), (.int .i64 0), (.isl []), (.isl [[(.int .i64 4)]]), (.str []), (.int .i64 54)]])],
  [(.isl [[(.int .i64 27), (.int .i64 (-(0 + 1))), (.int .i64 0), (.int .i64 0), (.isl [[(.int .i64 0)]]), (.isl [[(.int .i64 1)], [(.int .i64 5)]]), (.str []), (.int .i64 64)]])], [(.isl [[(.int .i64 28), (.int .i64 (-(0 + 1))),
  (.int .i64 0), (.int .i64 0), (.isl []), (.isl []), (.str []), (.int .i64 80)]])], [(.isl [[(.int .i64 28), (.int .i64 (-(0 + 1))), (.int .i64 0), (.int .i64 0), (.isl []), (.isl []), (.str []), (.int .i64 88)]])]]), (.int .i64
  0)], [], [])
def fk10 : Tab := (85, fa10, fh10, fr10) :: fk9
theorem fk10_ok : TabOK Tryz.prog cfg 1280 fk10 := TabOK.add (n := 120) fk9_ok (by decide +kernel)
theorem fork_is : CI Tryz.prog cfg 85 [] [] = some fr10 := TabOK.get fk10_ok (sameR_eq (by decide +kernel))
end Go.Proofs.YtdkknhpdjcdmfaaGreat.Abs

/- The example of the law of loops, as the machine runs it. -/
set_option maxRecDepth 100000
namespace Go.Proofs.YtdkknhpdjcdmfaaGreat.Abs
open Go Go.RowKit Go.Proofs

theorem works10_tab : TabOK Tryz.prog cfg 1580 ((38, [], [], (.one (.bool true), [], [])) :: fk10) := TabOK.add (n := 300) fk10_ok (by decide +kernel)
theorem works10 : CI Tryz.prog cfg 38 [] [] = some (.one (.bool true), [], []) := TabOK.get works10_tab (sameR_eq (by decide +kernel))
end Go.Proofs.YtdkknhpdjcdmfaaGreat.Abs

/- Into a loop by its head alone: the law answers yes. -/
set_option linter.unusedSimpArgs false
set_option linter.unusedVariables false
namespace Go.Proofs.YtdkknhpdjcdmfaaGreat.Abs
open Go Go.RowKit Go.Proofs

theorem tab_get {n : Nat} {ss : List (List Int)} {rows : List (List Bool)} (G : TabG n ss rows) (hn : n ≤ 1000) {a b : Nat} (ha : a < n) (hb : b < n) :
    ∃ x : Bool, (∀ h, CX 50 [Sl (tabOf rows), I (a : Nat), I (b : Nat)] h = some (Bo x, h, [])) ∧ (x = true ↔ Rch ss [0] (-1) a ∧ Rch ss [0] (-1) b ∧ (a = b ∨ ¬ Rch ss [0] (a : Int) b)) := by
  obtain ⟨r, hr, hl, hx⟩ := G.2 a ha
  obtain ⟨x, h1, h2⟩ := hx b hb
  exact ⟨x, fun h => ahead9 h rows (by rw [G.1]; exact hn) a b r x hr h1 (by rw [hl, G.1]), h2⟩

end Go.Proofs.YtdkknhpdjcdmfaaGreat.Abs

/- Is there a way from one block to another one, not by way of a third? -/
set_option linter.unusedSimpArgs false
set_option linter.unusedVariables false
set_option linter.unusedSectionVars false
namespace Go.Proofs.YtdkknhpdjcdmfaaGreat.Abs
open Go Go.RowKit Go.Proofs

def ptS (h : Heap) (ss : List (List Int)) (k0 to_ : Nat) (but : Int) (l : List Int) (v11 v13 v12 : V) : St :=
  ⟨[(10, I 1), (1, Sl (intsOf [(k0 : Int)])), (3, I but), (9, .one (.sl h.length 1 l.length 0 l.length)), (11, v11), (0, Sl (listsOf ss)), (13, v13), (12, v12), (2, I (to_ : Nat))], h ++ [some (.row 1 (intsOf l))], []⟩
def ptO (h : Heap) (ss : List (List Int)) (k0 to_ : Nat) (but : Int) (l : List Int) (i : Nat) : Option (List Int) → St
  | none => ptS h ss k0 to_ but l (I (i : Nat)) .junk .junk
  | some es => ptS h ss k0 to_ but l (I (i : Nat)) (I (es.length : Nat)) (Sl (intsOf es))

section
variable (h : Heap) (ss : List (List Int)) (k0 to_ : Nat) (but : Int) (hE : ss.length ≤ 1000) (hEl : ∀ l, l ∈ ss → l.length ≤ 100000 ∧ ∀ x, x ∈ l → 0 ≤ x ∧ x < ss.length)
include hE hEl

theorem pt_in (i : Nat) (es : List Int) (k : Nat) (hk : ss[k]? = some es) (hRk : Rch ss [(k0 : Int)] but k) (l : List Int) (hlk : l[i]? = some (k : Int))
    (g1 : RI ss.length ss [(k0 : Int)] but (metOf ss.length l) (fun v => v = k ∨ (v : Int) ∈ l.drop (i + 1))) (g3 : OpOK ss [(k0 : Int)] but l) (g4 : l.length + unmet (metOf ss.length l) ≤ ss.length) :
    ∃ l', i < l'.length ∧ RI ss.length ss [(k0 : Int)] but (metOf ss.length l') (fun v => (v : Int) ∈ l'.drop (i + 1)) ∧ OpOK ss [(k0 : Int)] but l' ∧ l'.length + unmet (metOf ss.length l') ≤ ss.length ∧ (∀ x, x ∈ l → x ∈ l') ∧
    lpK 179 Tryz.f179 86 2 h (ptS h ss k0 to_ but l (I (i : Nat)) (I (0 : Nat)) (Sl (intsOf es))) = some (.exit 4, ptS h ss k0 to_ but l' (I (i : Nat)) (I (es.length : Nat)) (Sl (intsOf es))) := by
  obtain ⟨hes, heb⟩ := hEl es (List.mem_of_getElem? hk)
  have hgd : ss.getD k [] = es := by rw [List.getD, hk]; rfl
  have hkl := (List.getElem?_eq_some_iff.1 hk).1
  have key := loop_rel (P := Tryz.prog) (C := cfg) (sc := runScope Tryz.prog cfg 86 h.length (cfg.live 179) 0) (N := 86) (n0 := h.length) (K := cfg.live 179) (c := loopAt Tryz.f179 2)
    (fun s : Nat × List Int => ptS h ss k0 to_ but s.2 (I (i : Nat)) (I (s.1 : Nat)) (Sl (intsOf es)))
    (fun s => s.1 ≤ es.length ∧ s.2[i]? = some (k : Int) ∧ RI ss.length ss [(k0 : Int)] but (metOf ss.length s.2) (fun v => v = k ∨ (v : Int) ∈ s.2.drop (i + 1)) ∧ OpOK ss [(k0 : Int)] but s.2 ∧ s.2.length + unmet (metOf ss.length s.2) ≤ ss.length ∧ (∀ (t : Nat) w, es[t]? = some w → t < s.1 → w ≠ but → Mt (metOf ss.length s.2) w.toNat) ∧ ∀ x, x ∈ l → x ∈ s.2) (fun s => es.length - s.1)
    (fun s r => ∃ l', i < l'.length ∧ RI ss.length ss [(k0 : Int)] but (metOf ss.length l') (fun v => (v : Int) ∈ l'.drop (i + 1)) ∧ OpOK ss [(k0 : Int)] but l' ∧ l'.length + unmet (metOf ss.length l') ≤ ss.length ∧ (∀ x, x ∈ l → x ∈ l') ∧
      r = (.exit 4, ptS h ss k0 to_ but l' (I (i : Nat)) (I (es.length : Nat)) (Sl (intsOf es)))) ?_ (0, l) ⟨Nat.zero_le _, hlk, g1, g3, g4, fun t w _ ht => by simp only at ht; omega, fun x hx => hx⟩
  · obtain ⟨r, h1, l', h2, h3, h4, h5, h6, rfl⟩ := key
    exact ⟨l', h2, h3, h4, h5, h6, h1⟩
  clear g1 g3 g4
  rintro ⟨p, m⟩ ⟨j1, j2, j3, j4, j5, j6, j7⟩
  simp only at j1 j2 j3 j4 j5 j6 j7 ⊢
  have hil := (List.getElem?_eq_some_iff.1 j2).1
  have hmf : Fit m := by show m.length ≤ _; omega
  rcases Nat.lt_or_ge p es.length with hlt | hge
  · have hltI : ((p : Nat) : Int) < ((es.length : Nat) : Int) := by omega
    obtain ⟨x, hx⟩ : ∃ x, es[p]? = some x := ⟨_, List.getElem?_eq_getElem hlt⟩
    have hxm := List.mem_of_getElem? hx
    obtain ⟨x0, xl⟩ := heb x hxm
    have xln : x.toNat < ss.length := by omega
    by_cases hb : x = but
    · have hbI : (x != but) = false := by simp [hb]
      refine .inl ⟨(p + 1, m), ?_, ⟨hlt, j2, j3, j4, j5, fun t w hw ht hn => ?_, j7⟩, by simp only; omega, fun r h => h⟩
      · simp (disch := omega) [round_eq, ptS, Tryz.f179, lv179, j2, hil, hk, hkl, hx, hlt, hltI, hbI, hb, wrap_i64, -getElem?_pos]
      · rcases Nat.lt_or_ge t p with hji | hji
        · exact j6 t w hw hji hn
        · have : t = p := by simp only at ht; omega
          subst this
          rw [hx] at hw; cases hw
          exact absurd hb hn
    · have hbI : (x != but) = true := by simp [hb]
      by_cases hc : m.contains x = true
      · refine .inl ⟨(p + 1, m), ?_, ⟨hlt, j2, j3, j4, j5, fun t w hw ht hn => ?_, j7⟩, by simp only; omega, fun r h => h⟩
        · simp (disch := omega) [round_eq, ptS, Tryz.f179, lv179, j2, hil, hk, hkl, hx, hlt, hltI, hbI, has _ m hmf, hc, wrap_i64, -getElem?_pos, -List.contains_eq_mem]
        · rcases Nat.lt_or_ge t p with hji | hji
          · exact j6 t w hw hji hn
          · have : t = p := by simp only at ht; omega
            subst this
            rw [hx] at hw; cases hw
            refine metOf_mt.2 ⟨xln, ?_⟩
            rw [Int.toNat_of_nonneg x0]
            simpa using hc
      · have hc' : m.contains x = false := by simpa using hc
        have hxn : x ∉ m := by simpa using hc
        have hnm : ¬ Mt (metOf ss.length m) x.toNat := fun h' => by
          have := (metOf_mt.1 h').2
          rw [Int.toNat_of_nonneg x0] at this
          exact hxn this
        have hun := unmet_set' (met := metOf ss.length m) (by simpa using xln) hnm
        have hrx : Rch ss [(k0 : Int)] but x.toNat := .step hRk (by rw [Int.toNat_of_nonneg x0, hgd]; exact hxm) (by rw [Int.toNat_of_nonneg x0]; exact hb)
        have hset := j3.set xln hrx
        rw [← metOf_snoc x0] at hset hun
        have hmt : ∀ v, Mt (metOf ss.length m) v → Mt (metOf ss.length (m ++ [x])) v := fun v hv => by
          rw [metOf_mt] at hv ⊢; exact ⟨hv.1, by simp [hv.2]⟩
        have hdrop : (m ++ [x]).drop (i + 1) = m.drop (i + 1) ++ [x] := List.drop_append_of_le_length (by omega)
        refine .inl ⟨(p + 1, m ++ [x]), ?_, ⟨hlt, ?_, hset.mono fun v hv => .inl ?_, fun z hz => ?_, ?_, fun t w hw ht hn => ?_, fun z hz => by simp [j7 z hz]⟩, by simp only; omega, fun r h => h⟩
        · simp (disch := omega) [round_eq, ptS, Tryz.f179, lv179, j2, hil, hk, hkl, hx, hlt, hltI, hbI, has _ m hmf, hc', room_of, intsOf_snoc, wrap_i64, -getElem?_pos, -List.contains_eq_mem]
        · simp only; rw [List.getElem?_append_left hil]; exact j2
        · rcases hv with (hv | hv) | rfl
          · exact .inl hv
          · exact .inr (by rw [hdrop]; simp [hv])
          · exact .inr (by rw [hdrop]; simp; right; omega)
        · rcases List.mem_append.1 hz with hz | hz
          · exact j4 z hz
          · rw [List.mem_singleton.1 hz]; exact ⟨x0, xl, hrx⟩
        · simp only [List.length_append, List.length_cons, List.length_nil]; omega
        · rcases Nat.lt_or_ge t p with hji | hji
          · exact hmt _ (j6 t w hw hji hn)
          · have : t = p := by simp only at ht; omega
            subst this
            rw [hx] at hw; cases hw
            refine metOf_mt.2 ⟨xln, ?_⟩
            rw [Int.toNat_of_nonneg x0]
            simp
  · have : p = es.length := by omega
    subst this
    refine .inr ⟨(.exit 4, ptS h ss k0 to_ but m (I (i : Nat)) (I (es.length : Nat)) (Sl (intsOf es))), ?_, nofun, m, hil, j3.mono fun v hv => ?_, j4, j5, j7, rfl⟩
    · simp (disch := omega) [round_eq, ptS, Tryz.f179, lv179, j2, hil, hk, hkl, -getElem?_pos]
    · rcases hv with hv | hv
      · subst hv
        refine .inr fun w hw hn => ?_
        rw [hgd] at hw
        obtain ⟨t, ht⟩ := List.getElem?_of_mem hw
        exact j6 t w ht (List.getElem?_eq_some_iff.1 ht).1 hn
      · exact .inl hv

theorem pt_out (l : List Int) (g1 : RI ss.length ss [(k0 : Int)] but (metOf ss.length l) (fun v => (v : Int) ∈ l)) (g2 : ∀ x, x ∈ [(k0 : Int)] → x ≠ but → x ∈ l) (g3 : OpOK ss [(k0 : Int)] but l) (g4 : l.length + unmet (metOf ss.length l) ≤ ss.length) :
    ∃ l' o, (∀ v, Mt (metOf ss.length l') v ↔ Rch ss [(k0 : Int)] but v) ∧ l'.length ≤ ss.length ∧
    lpK 179 Tryz.f179 86 1 h (ptO h ss k0 to_ but l 0 none) = some (.exit 2, ptO h ss k0 to_ but l' l'.length o) := by
  have key := loop_rel (P := Tryz.prog) (C := cfg) (sc := runScope Tryz.prog cfg 86 h.length (cfg.live 179) 0) (N := 86) (n0 := h.length) (K := cfg.live 179) (c := loopAt Tryz.f179 1)
    (fun s : Nat × List Int × Option (List Int) => ptO h ss k0 to_ but s.2.1 s.1 s.2.2)
    (fun s => s.1 ≤ s.2.1.length ∧ RI ss.length ss [(k0 : Int)] but (metOf ss.length s.2.1) (fun v => (v : Int) ∈ s.2.1.drop s.1) ∧ (∀ x, x ∈ [(k0 : Int)] → x ≠ but → x ∈ s.2.1) ∧ OpOK ss [(k0 : Int)] but s.2.1 ∧ s.2.1.length + unmet (metOf ss.length s.2.1) ≤ ss.length) (fun s => ss.length - s.1)
    (fun s r => ∃ l' o, (∀ v, Mt (metOf ss.length l') v ↔ Rch ss [(k0 : Int)] but v) ∧ l'.length ≤ ss.length ∧ r = (.exit 2, ptO h ss k0 to_ but l' l'.length o)) ?_ (0, l, none) ⟨Nat.zero_le _, g1, g2, g3, g4⟩
  · obtain ⟨r, h1, l', o, h2, h3, rfl⟩ := key
    exact ⟨l', o, h2, h3, h1⟩
  clear g1 g2 g3 g4 l
  rintro ⟨i, l, o⟩ ⟨j1, j2, j3, j4, j5⟩
  simp only at j1 j2 j3 j4 j5 ⊢
  rcases Nat.lt_or_ge i l.length with hlt | hge
  · have hltI : ((i : Nat) : Int) < ((l.length : Nat) : Int) := by omega
    obtain ⟨x, hx⟩ : ∃ x, l[i]? = some x := ⟨_, List.getElem?_eq_getElem hlt⟩
    obtain ⟨x0, xl, hrx⟩ := j4 x (List.mem_of_getElem? hx)
    obtain ⟨k, rfl⟩ : ∃ k : Nat, x = (k : Int) := ⟨x.toNat, by omega⟩
    rw [Int.toNat_natCast] at hrx
    have hkl : k < ss.length := by omega
    obtain ⟨es, hes⟩ : ∃ es, ss[k]? = some es := ⟨_, List.getElem?_eq_getElem hkl⟩
    have hesl := (hEl es (List.mem_of_getElem? hes)).1
    have hdr : l.drop i = (k : Int) :: l.drop (i + 1) := by
      rw [List.drop_eq_getElem_cons hlt]; rw [List.getElem?_eq_getElem hlt] at hx; injection hx with hx; rw [hx]
    obtain ⟨l', k1, k2, k3, k4, k5, e⟩ := pt_in h ss k0 to_ but hE hEl i es k hes hrx l hx (j2.mono fun v hv => .inl (by
      rw [hdr] at hv
      rcases List.mem_cons.1 hv with hv | hv
      · exact .inl (by omega)
      · exact .inr hv)) j4 j5
    refine .inl ⟨(i + 1, l', some es), ?_, ⟨k1, k2, fun x hx hn => k5 x (j3 x hx hn), k3, k4⟩, by simp only; omega, fun r h => h⟩
    simp [ptS, lpK, lv179, Tryz.f179] at e
    cases o <;> simp (disch := omega) [round_eq, ptO, ptS, Tryz.f179, lv179, hx, hlt, hltI, hkl, hes, e, wrap_i64, -getElem?_pos]
  · have : i = l.length := by omega
    subst this
    refine .inr ⟨(.exit 2, ptO h ss k0 to_ but l l.length o), ?_, nofun, l, o, RI.all (j2.mono fun v hv => by simp at hv) (fun x hx hn => ?_), by omega, rfl⟩
    · cases o <;> simp (disch := omega) [round_eq, ptO, ptS, Tryz.f179, lv179, -getElem?_pos]
    · have := j3 x hx hn
      have hb := j4 x this
      exact metOf_mt.2 ⟨by omega, by rw [Int.toNat_of_nonneg hb.1]; exact this⟩
end

noncomputable def rchB (ss : List (List Int)) (k0 : Nat) (but : Int) (to_ : Nat) : Bool := @decide (Rch ss [(k0 : Int)] but to_) (Classical.propDecidable _)
theorem rchB_iff {ss : List (List Int)} {k0 : Nat} {but : Int} {to_ : Nat} : rchB ss k0 but to_ = true ↔ Rch ss [(k0 : Int)] but to_ := by
  unfold rchB; exact @decide_eq_true_iff _ (Classical.propDecidable _)

def ptA (h : Heap) (ss : List (List Int)) (k0 to_ : Nat) (but : Int) (l : List Int) (i : Nat) : St :=
  ⟨[(10, I (i : Nat)), (1, Sl (intsOf [(k0 : Int)])), (3, I but), (9, .one (.sl h.length 1 l.length 0 l.length)), (11, .junk), (0, Sl (listsOf ss)), (13, .junk), (12, .junk), (2, I (to_ : Nat))], h ++ [some (.row 1 (intsOf l))], []⟩
theorem pt_first (h : Heap) (ss : List (List Int)) (k0 to_ : Nat) (but : Int) (hb : (k0 : Int) ≠ but) :
    lpK 179 Tryz.f179 86 0 h (ptA h ss k0 to_ but [] 0) = some (.exit 0, ptA h ss k0 to_ but [(k0 : Int)] 1) := by
  have hbI : ((k0 : Int) != but) = true := by simp [hb]
  have hh := has [] [] (by simp [Fit]) (k0 : Int)
  have key := loop_fun (P := Tryz.prog) (C := cfg) (sc := runScope Tryz.prog cfg 86 h.length (cfg.live 179) 0) (N := 86) (n0 := h.length) (K := cfg.live 179) (c := loopAt Tryz.f179 0)
    (fun i : Nat => ptA h ss k0 to_ but (if i = 0 then [] else [(k0 : Int)]) i) (fun i => i ≤ 1) (fun i => 1 - i) (fun _ => (.exit 0, ptA h ss k0 to_ but [(k0 : Int)] 1)) ?_ 0 (Nat.zero_le _)
  · exact key
  intro i hi
  rcases Nat.lt_or_ge i 1 with hlt | hge
  · obtain rfl : i = 0 := by omega
    refine .inl ⟨1, ?_, Nat.le_refl _, by omega, rfl⟩
    simp at hh
    simp (disch := omega) [round_eq, ptA, Tryz.f179, lv179, hbI, hh, wrap_i64, room_of, intsOf, -getElem?_pos]
  · obtain rfl : i = 1 := by omega
    refine .inr ⟨?_, nofun⟩
    simp (disch := omega) [round_eq, ptA, Tryz.f179, lv179, intsOf, -getElem?_pos]

theorem path (h : Heap) (ss : List (List Int)) (k0 to_ : Nat) (but : Int) (hb : (k0 : Int) ≠ but) (hk : k0 < ss.length) (ht : to_ < ss.length) (hE : ss.length ≤ 1000) (hEl : ∀ l, l ∈ ss → l.length ≤ 100000 ∧ ∀ x, x ∈ l → 0 ≤ x ∧ x < ss.length) :
    CX 179 [Sl (listsOf ss), Sl (intsOf [(k0 : Int)]), I (to_ : Nat), I but] h = some (Bo (rchB ss k0 but to_), h, []) := by
  have hk' : cfg.keep 179 = 0 := rfl
  have hr0 : Rch ss [(k0 : Int)] but k0 := .start (by simp) hb
  have hm0 : ∀ v : Nat, Mt (metOf ss.length [(k0 : Int)]) v → v = k0 := fun v hv => by have := (metOf_mt.1 hv).2; simp at this; omega
  have e0 := pt_first h ss k0 to_ but hb
  obtain ⟨l', o, g1, g2, e1⟩ := pt_out h ss k0 to_ but hE hEl [(k0 : Int)] ⟨by simp, fun v hv => by rw [hm0 v hv]; exact hr0, fun v hv => .inl (by rw [hm0 v hv]; simp)⟩ (fun x hx hn => hx) (fun x hx => by
      have : x = (k0 : Int) := by simpa using hx
      subst this
      exact ⟨by omega, by omega, by rw [Int.toNat_natCast]; exact hr0⟩) (by
    have h1 : metOf ss.length [] = List.replicate ss.length false := by
      apply List.ext_getElem?; intro i; simp [metOf]; simp [List.getElem?_replicate]; rcases Nat.lt_or_ge i ss.length with h | h <;> simp [h, Nat.not_lt.2]
    have h2 := metOf_snoc (n := ss.length) (l := []) (b := (k0 : Int)) (by omega)
    have h3 := unmet_set (met := metOf ss.length []) (v := k0) (by rw [h1, List.getElem?_replicate, if_pos hk])
    rw [List.nil_append, Int.toNat_natCast] at h2
    rw [← h2, h1, unmet_all] at h3
    simp only [List.length_cons, List.length_nil]
    omega)
  have hfit : Fit l' := by show l'.length ≤ _; omega
  have hc : l'.contains (to_ : Int) = rchB ss k0 but to_ := by
    rw [Bool.eq_iff_iff, rchB_iff, ← g1, metOf_mt]
    simp [ht]
  refine CI_of Tryz.func179 rfl 0 ?_
  rw [← hc]
  cases o <;>
  (simp [ptO, ptS, lpK, lv179, Tryz.f179] at e1
   simp [ptA, lpK, lv179, Tryz.f179] at e0
   simp (disch := omega) [Tryz.f179, lv179, hk', e0, e1, has _ l' hfit, wrap_i64, -getElem?_pos, -List.contains_eq_mem])
end Go.Proofs.YtdkknhpdjcdmfaaGreat.Abs
