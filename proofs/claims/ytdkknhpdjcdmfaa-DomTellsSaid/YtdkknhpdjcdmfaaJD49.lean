/- YtdkknhpdjcdmfaaJD49: texts that follow each other, as one. -/
import Derived.Test.YtdkknhpdjcdmfaaJD48
import Derived.Test.YtdkknhpdjcdmfaaJD36
/- The calls behind the example of a function that forks, as the machine runs them, one by one. -/
set_option maxRecDepth 100000
namespace Go.Proofs.Ytdkknhpdjcdmfaa.Abs
open Go Go.RowKit Go.Proofs

def fk0 : Tab := []
theorem fk0_ok : TabOK Try.prog cfg 0 fk0 := TabOK.nil _ _
def fa1 : List V := [.one (.str [102, 117, 110, 99, 32, 102, 40, 105, 41, 32, 110, 32, 123, 32, 98, 48, 58, 32, 98, 114, 32, 98, 49, 32, 98, 49, 58, 32, 105, 102, 32, 37, 48, 32, 98, 50, 32, 98, 51, 32, 98, 50, 58, 32, 98, 114, 32, 98, 52, 32, 98,
  51, 58, 32, 98, 114, 32, 98, 52, 32, 98, 52, 58, 32, 105, 102, 32, 37, 48, 32, 98, 49, 32, 98, 53, 32, 98, 53, 58, 32, 114, 101, 116, 32, 98, 54, 58, 32, 114, 101, 116, 32, 125])]
def fh1 : Heap := [some ((.row 5 [[(.str []), .nils, (.int .i64 0), .nils, (.int .i64 0)]]))]
def fr1 : V × Heap × List Nat := ((.tup [(.one (.isl [[(.str [102, 117, 110, 99]), (.int .i64 0)], [(.str [102]), (.int .i64 5)], [(.str [40]), (.int .i64 6)], [(.str [105]), (.int .i64 7)], [(.str [41]), (.int .i64 8)], [(.str [110]), (.int .i64 10)], [(.str
  [123]), (.int .i64 12)], [(.str [98, 48]), (.int .i64 14)], [(.str [58]), (.int .i64 16)], [(.str [98, 114]), (.int .i64 18)], [(.str [98, 49]), (.int .i64 21)], [(.str [98, 49]), (.int .i64 24)], [(.str [58]), (.int .i64 26)],
  [(.str [105, 102]), (.int .i64 28)], [(.str [37, 48]), (.int .i64 31)], [(.str [98, 50]), (.int .i64 34)], [(.str [98, 51]), (.int .i64 37)], [(.str [98, 50]), (.int .i64 40)], [(.str [58]), (.int .i64 42)], [(.str [98, 114]),
  (.int .i64 44)], [(.str [98, 52]), (.int .i64 47)], [(.str [98, 51]), (.int .i64 50)], [(.str [58]), (.int .i64 52)], [(.str [98, 114]), (.int .i64 54)], [(.str [98, 52]), (.int .i64 57)], [(.str [98, 52]), (.int .i64 60)], [(.str
  [58]), (.int .i64 62)], [(.str [105, 102]), (.int .i64 64)], [(.str [37, 48]), (.int .i64 67)], [(.str [98, 49]), (.int .i64 70)], [(.str [98, 53]), (.int .i64 73)], [(.str [98, 53]), (.int .i64 76)], [(.str [58]), (.int .i64
  78)], [(.str [114, 101, 116]), (.int .i64 80)], [(.str [98, 54]), (.int .i64 84)], [(.str [58]), (.int .i64 86)], [(.str [114, 101, 116]), (.int .i64 88)], [(.str [125]), (.int .i64 92)]])), (.agg [(.int .i64 0), (.int .i64
  0)])]), [some ((.row 5 [[(.str []), .nils, (.int .i64 0), .nils, (.int .i64 0)]]))], [])
def fk1 : Tab := (87, fa1, fh1, fr1) :: fk0
theorem fk1_ok : TabOK Try.prog cfg 120 fk1 := TabOK.add (n := 120) fk0_ok (by decide +kernel)
def fa2 : List V := [(.one (.ptr 3 1 0 0)), (.one (.int .i64 0))]
def fh2 : Heap := [some ((.row 5 [[(.str []), .nils, (.int .i64 0), .nils, (.int .i64 0)]])), some ((.row 1 [[.nils]])), some ((.row 2 [[(.int .i64 0), (.int .i64 0)]])), some ((.row 6 [[(.isl [[(.str [102, 117, 110, 99]), (.int .i64 0)], [(.str
  [102]), (.int .i64 5)], [(.str [40]), (.int .i64 6)], [(.str [105]), (.int .i64 7)], [(.str [41]), (.int .i64 8)], [(.str [110]), (.int .i64 10)], [(.str [123]), (.int .i64 12)], [(.str [98, 48]), (.int .i64 14)], [(.str [58]),
  (.int .i64 16)], [(.str [98, 114]), (.int .i64 18)], [(.str [98, 49]), (.int .i64 21)], [(.str [98, 49]), (.int .i64 24)], [(.str [58]), (.int .i64 26)], [(.str [105, 102]), (.int .i64 28)], [(.str [37, 48]), (.int .i64 31)],
  [(.str [98, 50]), (.int .i64 34)], [(.str [98, 51]), (.int .i64 37)], [(.str [98, 50]), (.int .i64 40)], [(.str [58]), (.int .i64 42)], [(.str [98, 114]), (.int .i64 44)], [(.str [98, 52]), (.int .i64 47)], [(.str [98, 51]), (.int
  .i64 50)], [(.str [58]), (.int .i64 52)], [(.str [98, 114]), (.int .i64 54)], [(.str [98, 52]), (.int .i64 57)], [(.str [98, 52]), (.int .i64 60)], [(.str [58]), (.int .i64 62)], [(.str [105, 102]), (.int .i64 64)], [(.str [37,
  48]), (.int .i64 67)], [(.str [98, 49]), (.int .i64 70)], [(.str [98, 53]), (.int .i64 73)], [(.str [98, 53]), (.int .i64 76)], [(.str [58]), (.int .i64 78)], [(.str [114, 101, 116]), (.int .i64 80)], [(.str [98, 54]), (.int .i64
  84)], [(.str [58]), (.int .i64 86)], [(.str [114, 101, 116]), (.int .i64 88)], [(.str [125]), (.int .i64 92)]]), (.int .i64 7), (.int .i64 93), (.int .i64 0), (.int .i64 0), (.int .i64 0)]])), some ((.row 1 [[(.sl 5 5 0 0 0)]])),
  some ((.row 5 [])), some ((.row 5 [[(.str [102]), (.sl 7 1 1 0 1), (.int .i64 0), (.sl 8 1 0 0 0), (.int .i64 0)]])), some ((.row 1 [[(.int .i64 1)]])), some ((.row 1 [])), some ((.row 5 [[(.str []), .nils, (.int .i64 0), .nils,
  (.int .i64 0)]]))]
def fr2 : V × Heap × List Nat := ((.one (.isl [[(.int .i64 26), (.int .i64 (-(0 + 1))), (.int .i64 0), (.int .i64 0), (.isl []), (.isl [[(.int .i64 1)]]), (.str []), (.int .i64 18)]])), [some ((.row 5 [[(.str []), .nils, (.int .i64 0), .nils, (.int .i64 0)]])),
  some ((.row 1 [[.nils]])), some ((.row 2 [[(.int .i64 0), (.int .i64 0)]])), some ((.row 6 [[(.isl [[(.str [102, 117, 110, 99]), (.int .i64 0)], [(.str [102]), (.int .i64 5)], [(.str [40]), (.int .i64 6)], [(.str [105]), (.int
  .i64 7)], [(.str [41]), (.int .i64 8)], [(.str [110]), (.int .i64 10)], [(.str [123]), (.int .i64 12)], [(.str [98, 48]), (.int .i64 14)], [(.str [58]), (.int .i64 16)], [(.str [98, 114]), (.int .i64 18)], [(.str [98, 49]), (.int
  .i64 21)], [(.str [98, 49]), (.int .i64 24)], [(.str [58]), (.int .i64 26)], [(.str [105, 102]), (.int .i64 28)], [(.str [37, 48]), (.int .i64 31)], [(.str [98, 50]), (.int .i64 34)], [(.str [98, 51]), (.int .i64 37)], [(.str [98,
  50]), (.int .i64 40)], [(.str [58]), (.int .i64 42)], [(.str [98, 114]), (.int .i64 44)], [(.str [98, 52]), (.int .i64 47)], [(.str [98, 51]), (.int .i64 50)], [(.str [58]), (.int .i64 52)], [(.str [98, 114]), (.int .i64 54)],
  [(.str [98, 52]), (.int .i64 57)], [(.str [98, 52]), (.int .i64 60)], [(.str [58]), (.int .i64 62)], [(.str [105, 102]), (.int .i64 64)], [(.str [37, 48]), (.int .i64 67)], [(.str [98, 49]), (.int .i64 70)], [(.str [98, 53]),
  (.int .i64 73)], [(.str [98, 53]), (.int .i64 76)], [(.str [58]), (.int .i64 78)], [(.str [114, 101, 116]), (.int .i64 80)], [(.str [98, 54]), (.int .i64 84)], [(.str [58]), (.int .i64 86)], [(.str [114, 101, 116]), (.int .i64
  88)], [(.str [125]), (.int .i64 92)]]), (.int .i64 11), (.int .i64 93), (.int .i64 1), (.int .i64 0), (.int .i64 0)]])), some ((.row 1 [[(.sl 5 5 0 0 0)]])), some ((.row 5 [])), some ((.row 5 [[(.str [102]), (.sl 7 1 1 0 1), (.int
  .i64 0), (.sl 8 1 0 0 0), (.int .i64 0)]])), some ((.row 1 [[(.int .i64 1)]])), some ((.row 1 [])), some ((.row 5 [[(.str []), .nils, (.int .i64 0), .nils, (.int .i64 0)]]))], [3])
def fk2 : Tab := (117, fa2, fh2, fr2) :: fk1
theorem fk2_ok : TabOK Try.prog cfg 240 fk2 := TabOK.add (n := 120) fk1_ok (by decide +kernel)
def fa3 : List V := [(.one (.ptr 3 1 0 0)), (.one (.int .i64 1))]
def fh3 : Heap := [some ((.row 5 [[(.str []), .nils, (.int .i64 0), .nils, (.int .i64 0)]])), some ((.row 1 [[.nils]])), some ((.row 2 [[(.int .i64 0), (.int .i64 0)]])), some ((.row 6 [[(.isl [[(.str [102, 117, 110, 99]), (.int .i64 0)], [(.str
  [102]), (.int .i64 5)], [(.str [40]), (.int .i64 6)], [(.str [105]), (.int .i64 7)], [(.str [41]), (.int .i64 8)], [(.str [110]), (.int .i64 10)], [(.str [123]), (.int .i64 12)], [(.str [98, 48]), (.int .i64 14)], [(.str [58]),
  (.int .i64 16)], [(.str [98, 114]), (.int .i64 18)], [(.str [98, 49]), (.int .i64 21)], [(.str [98, 49]), (.int .i64 24)], [(.str [58]), (.int .i64 26)], [(.str [105, 102]), (.int .i64 28)], [(.str [37, 48]), (.int .i64 31)],
  [(.str [98, 50]), (.int .i64 34)], [(.str [98, 51]), (.int .i64 37)], [(.str [98, 50]), (.int .i64 40)], [(.str [58]), (.int .i64 42)], [(.str [98, 114]), (.int .i64 44)], [(.str [98, 52]), (.int .i64 47)], [(.str [98, 51]), (.int
  .i64 50)], [(.str [58]), (.int .i64 52)], [(.str [98, 114]), (.int .i64 54)], [(.str [98, 52]), (.int .i64 57)], [(.str [98, 52]), (.int .i64 60)], [(.str [58]), (.int .i64 62)], [(.str [105, 102]), (.int .i64 64)], [(.str [37,
  48]), (.int .i64 67)], [(.str [98, 49]), (.int .i64 70)], [(.str [98, 53]), (.int .i64 73)], [(.str [98, 53]), (.int .i64 76)], [(.str [58]), (.int .i64 78)], [(.str [114, 101, 116]), (.int .i64 80)], [(.str [98, 54]), (.int .i64
  84)], [(.str [58]), (.int .i64 86)], [(.str [114, 101, 116]), (.int .i64 88)], [(.str [125]), (.int .i64 92)]]), (.int .i64 11), (.int .i64 93), (.int .i64 1), (.int .i64 0), (.int .i64 0)]])), some ((.row 1 [[(.sl 5 5 0 0 0)]])),
  some ((.row 5 [])), some ((.row 5 [[(.str [102]), (.sl 7 1 1 0 1), (.int .i64 0), (.sl 8 1 1 0 1), (.int .i64 0)]])), some ((.row 1 [[(.int .i64 1)]])), some ((.row 1 [[(.isl [[(.int .i64 26), (.int .i64 (-(0 + 1))), (.int .i64
  0), (.int .i64 0), (.isl []), (.isl [[(.int .i64 1)]]), (.str []), (.int .i64 18)]])]])), some ((.row 5 [[(.str []), .nils, (.int .i64 0), .nils, (.int .i64 0)]]))]
def fr3 : V × Heap × List Nat := ((.one (.isl [[(.int .i64 27), (.int .i64 (-(0 + 1))), (.int .i64 0), (.int .i64 0), (.isl [[(.int .i64 0)]]), (.isl [[(.int .i64 2)], [(.int .i64 3)]]), (.str []), (.int .i64 28)]])), [some ((.row 5 [[(.str []), .nils, (.int .i64
  0), .nils, (.int .i64 0)]])), some ((.row 1 [[.nils]])), some ((.row 2 [[(.int .i64 0), (.int .i64 0)]])), some ((.row 6 [[(.isl [[(.str [102, 117, 110, 99]), (.int .i64 0)], [(.str [102]), (.int .i64 5)], [(.str [40]), (.int .i64
  6)], [(.str [105]), (.int .i64 7)], [(.str [41]), (.int .i64 8)], [(.str [110]), (.int .i64 10)], [(.str [123]), (.int .i64 12)], [(.str [98, 48]), (.int .i64 14)], [(.str [58]), (.int .i64 16)], [(.str [98, 114]), (.int .i64
  18)], [(.str [98, 49]), (.int .i64 21)], [(.str [98, 49]), (.int .i64 24)], [(.str [58]), (.int .i64 26)], [(.str [105, 102]), (.int .i64 28)], [(.str [37, 48]), (.int .i64 31)], [(.str [98, 50]), (.int .i64 34)], [(.str [98,
  51]), (.int .i64 37)], [(.str [98, 50]), (.int .i64 40)], [(.str [58]), (.int .i64 42)], [(.str [98, 114]), (.int .i64 44)], [(.str [98, 52]), (.int .i64 47)], [(.str [98, 51]), (.int .i64 50)], [(.str [58]), (.int .i64 52)],
  [(.str [98, 114]), (.int .i64 54)], [(.str [98, 52]), (.int .i64 57)], [(.str [98, 52]), (.int .i64 60)], [(.str [58]), (.int .i64 62)], [(.str [105, 102]), (.int .i64 64)], [(.str [37, 48]), (.int .i64 67)], [(.str [98, 49]),
  (.int .i64 70)], [(.str [98, 53]), (.int .i64 73)], [(.str [98, 53]), (.int .i64 76)], [(.str [58]), (.int .i64 78)], [(.str [114, 101, 116]), (.int .i64 80)], [(.str [98, 54]), (.int .i64 84)], [(.str [58]), (.int .i64 86)],
  [(.str [114, 101, 116]), (.int .i64 88)], [(.str [125]), (.int .i64 92)]]), (.int .i64 17), (.int .i64 93), (.int .i64 2), (.int .i64 0), (.int .i64 0)]])), some ((.row 1 [[(.sl 5 5 0 0 0)]])), some ((.row 5 [])), some ((.row 5
  [[(.str [102]), (.sl 7 1 1 0 1), (.int .i64 0), (.sl 8 1 1 0 1), (.int .i64 0)]])), some ((.row 1 [[(.int .i64 1)]])), some ((.row 1 [[(.isl [[(.int .i64 26), (.int .i64 (-(0 + 1))), (.int .i64 0), (.int .i64 0), (.isl []), (.isl
  [[(.int .i64 1)]]), (.str []), (.int .i64 18)]])]])), some ((.row 5 [[(.str []), .nils, (.int .i64 0), .nils, (.int .i64 0)]]))], [3])
def fk3 : Tab := (117, fa3, fh3, fr3) :: fk2
theorem fk3_ok : TabOK Try.prog cfg 360 fk3 := TabOK.add (n := 120) fk2_ok (by decide +kernel)
def fa4 : List V := [(.one (.ptr 3 1 0 0)), (.one (.int .i64 2))]
def fh4 : Heap := [some ((.row 5 [[(.str []), .nils, (.int .i64 0), .nils, (.int .i64 0)]])), some ((.row 1 [[.nils]])), some ((.row 2 [[(.int .i64 0), (.int .i64 0)]])), some ((.row 6 [[(.isl [[(.str [102, 117, 110, 99]), (.int .i64 0)], [(.str
  [102]), (.int .i64 5)], [(.str [40]), (.int .i64 6)], [(.str [105]), (.int .i64 7)], [(.str [41]), (.int .i64 8)], [(.str [110]), (.int .i64 10)], [(.str [123]), (.int .i64 12)], [(.str [98, 48]), (.int .i64 14)], [(.str [58]),
  (.int .i64 16)], [(.str [98, 114]), (.int .i64 18)], [(.str [98, 49]), (.int .i64 21)], [(.str [98, 49]), (.int .i64 24)], [(.str [58]), (.int .i64 26)], [(.str [105, 102]), (.int .i64 28)], [(.str [37, 48]), (.int .i64 31)],
  [(.str [98, 50]), (.int .i64 34)], [(.str [98, 51]), (.int .i64 37)], [(.str [98, 50]), (.int .i64 40)], [(.str [58]), (.int .i64 42)], [(.str [98, 114]), (.int .i64 44)], [(.str [98, 52]), (.int .i64 47)], [(.str [98, 51]), (.int
  .i64 50)], [(.str [58]), (.int .i64 52)], [(.str [98, 114]), (.int .i64 54)], [(.str [98, 52]), (.int .i64 57)], [(.str [98, 52]), (.int .i64 60)], [(.str [58]), (.int .i64 62)], [(.str [105, 102]), (.int .i64 64)], [(.str [37,
  48]), (.int .i64 67)], [(.str [98, 49]), (.int .i64 70)], [(.str [98, 53]), (.int .i64 73)], [(.str [98, 53]), (.int .i64 76)], [(.str [58]), (.int .i64 78)], [(.str [114, 101, 116]), (.int .i64 80)], [(.str [98, 54]), (.int .i64
  84)], [(.str [58]), (.int .i64 86)], [(.str [114, 101, 116]), (.int .i64 88)], [(.str [125]), (.int .i64 92)]]), (.int .i64 17), (.int .i64 93), (.int .i64 2), (.int .i64 0), (.int .i64 0)]])), some ((.row 1 [[(.sl 5 5 0 0 0)]])),
  some ((.row 5 [])), some ((.row 5 [[(.str [102]), (.sl 7 1 1 0 1), (.int .i64 0), (.sl 8 1 2 0 2), (.int .i64 0)]])), some ((.row 1 [[(.int .i64 1)]])), some ((.row 1 [[(.isl [[(.int .i64 26), (.int .i64 (-(0 + 1))), (.int .i64
  0), (.int .i64 0), (.isl []), (.isl [[(.int .i64 1)]]), (.str []), (.int .i64 18)]])], [(.isl [[(.int .i64 27), (.int .i64 (-(0 + 1))), (.int .i64 0), (.int .i64 0), (.isl [[(.int .i64 0)]]), (.isl [[(.int .i64 2)], [(.int .i64
  3)]]), (.str []), (.int .i64 28)]])]])), some ((.row 5 [[(.str []), .nils, (.int .i64 0), .nils, (.int .i64 0)]]))]
def fr4 : V × Heap × List Nat := ((.one (.isl [[(.int .i64 26), (.int .i64 (-(0 + 1))), (.int .i64 0), (.int .i64 0), (.isl []), (.isl [[(.int .i64 4)]]), (.str []), (.int .i64 44)]])), [some ((.row 5 [[(.str []), .nils, (.int .i64 0), .nils, (.int .i64 0)]])),
  some ((.row 1 [[.nils]])), some ((.row 2 [[(.int .i64 0), (.int .i64 0)]])), some ((.row 6 [[(.isl [[(.str [102, 117, 110, 99]), (.int .i64 0)], [(.str [102]), (.int .i64 5)], [(.str [40]), (.int .i64 6)], [(.str [105]), (.int
  .i64 7)], [(.str [41]), (.int .i64 8)], [(.str [110]), (.int .i64 10)], [(.str [123]), (.int .i64 12)], [(.str [98, 48]), (.int .i64 14)], [(.str [58]), (.int .i64 16)], [(.str [98, 114]), (.int .i64 18)], [(.str [98, 49]), (.int
  .i64 21)], [(.str [98, 49]), (.int .i64 24)], [(.str [58]), (.int .i64 26)], [(.str [105, 102]), (.int .i64 28)], [(.str [37, 48]), (.int .i64 31)], [(.str [98, 50]), (.int .i64 34)], [(.str [98, 51]), (.int .i64 37)], [(.str [98,
  50]), (.int .i64 40)], [(.str [58]), (.int .i64 42)], [(.str [98, 114]), (.int .i64 44)], [(.str [98, 52]), (.int .i64 47)], [(.str [98, 51]), (.int .i64 50)], [(.str [58]), (.int .i64 52)], [(.str [98, 114]), (.int .i64 54)],
  [(.str [98, 52]), (.int .i64 57)], [(.str [98, 52]), (.int .i64 60)], [(.str [58]), (.int .i64 62)], [(.str [105, 102]), (.int .i64 64)], [(.str [37, 48]), (.int .i64 67)], [(.str [98, 49]), (.int .i64 70)], [(.str [98, 53]),
  (.int .i64 73)], [(.str [98, 53]), (.int .i64 76)], [(.str [58]), (.int .i64 78)], [(.str [114, 101, 116]), (.int .i64 80)], [(.str [98, 54]), (.int .i64 84)], [(.str [58]), (.int .i64 86)], [(.str [114, 101, 116]), (.int .i64
  88)], [(.str [125]), (.int .i64 92)]]), (.int .i64 21), (.int .i64 93), (.int .i64 3), (.int .i64 0), (.int .i64 0)]])), some ((.row 1 [[(.sl 5 5 0 0 0)]])), some ((.row 5 [])), some ((.row 5 [[(.str [102]), (.sl 7 1 1 0 1), (.int
  .i64 0), (.sl 8 1 2 0 2), (.int .i64 0)]])), some ((.row 1 [[(.int .i64 1)]])), some ((.row 1 [[(.isl [[(.int .i64 26), (.int .i64 (-(0 + 1))), (.int .i64 0), (.int .i64 0), (.isl []), (.isl [[(.int .i64 1)]]), (.str []), (.int
  .i64 18)]])], [(.isl [[(.int .i64 27), (.int .i64 (-(0 + 1))), (.int .i64 0), (.int .i64 0), (.isl [[(.int .i64 0)]]), (.isl [[(.int .i64 2)], [(.int .i64 3)]]), (.str []), (.int .i64 28)]])]])), some ((.row 5 [[(.str []), .nils,
  (.int .i64 0), .nils, (.int .i64 0)]]))], [3])
def fk4 : Tab := (117, fa4, fh4, fr4) :: fk3
theorem fk4_ok : TabOK Try.prog cfg 480 fk4 := TabOK.add (n := 120) fk3_ok (by decide +kernel)
def fa5 : List V := [(.one (.ptr 3 1 0 0)), (.one (.int .i64 3))]
def fh5 : Heap := [some ((.row 5 [[(.str []), .nils, (.int .i64 0), .nils, (.int .i64 0)]])), some ((.row 1 [[.nils]])), some ((.row 2 [[(.int .i64 0), (.int .i64 0)]])), some ((.row 6 [[(.isl [[(.str [102, 117, 110, 99]), (.int .i64 0)], [(.str
  [102]), (.int .i64 5)], [(.str [40]), (.int .i64 6)], [(.str [105]), (.int .i64 7)], [(.str [41]), (.int .i64 8)], [(.str [110]), (.int .i64 10)], [(.str [123]), (.int .i64 12)], [(.str [98, 48]), (.int .i64 14)], [(.str [58]),
  (.int .i64 16)], [(.str [98, 114]), (.int .i64 18)], [(.str [98, 49]), (.int .i64 21)], [(.str [98, 49]), (.int .i64 24)], [(.str [58]), (.int .i64 26)], [(.str [105, 102]), (.int .i64 28)], [(.str [37, 48]), (.int .i64 31)],
  [(.str [98, 50]), (.int .i64 34)], [(.str [98, 51]), (.int .i64 37)], [(.str [98, 50]), (.int .i64 40)], [(.str [58]), (.int .i64 42)], [(.str [98, 114]), (.int .i64 44)], [(.str [98, 52]), (.int .i64 47)], [(.str [98, 51]), (.int
  .i64 50)], [(.str [58]), (.int .i64 52)], [(.str [98, 114]), (.int .i64 54)], [(.str [98, 52]), (.int .i64 57)], [(.str [98, 52]), (.int .i64 60)], [(.str [58]), (.int .i64 62)], [(.str [105, 102]), (.int .i64 64)], [(.str [37,
  48]), (.int .i64 67)], [(.str [98, 49]), (.int .i64 70)], [(.str [98, 53]), (.int .i64 73)], [(.str [98, 53]), (.int .i64 76)], [(.str [58]), (.int .i64 78)], [(.str [114, 101, 116]), (.int .i64 80)], [(.str [98, 54]), (.int .i64
  84)], [(.str [58]), (.int .i64 86)], [(.str [114, 101, 116]), (.int .i64 88)], [(.str [125]), (.int .i64 92)]]), (.int .i64 21), (.int .i64 93), (.int .i64 3), (.int .i64 0), (.int .i64 0)]])), some ((.row 1 [[(.sl 5 5 0 0 0)]])),
  some ((.row 5 [])), some ((.row 5 [[(.str [102]), (.sl 7 1 1 0 1), (.int .i64 0), (.sl 8 1 3 0 3), (.int .i64 0)]])), some ((.row 1 [[(.int .i64 1)]])), some ((.row 1 [[(.isl [[(.int .i64 26), (.int .i64 (-(0 + 1))), (.int .i64
  0), (.int .i64 0), (.isl []), (.isl [[(.int .i64 1)]]), (.str []), (.int .i64 18)]])], [(.isl [[(.int .i64 27), (.int .i64 (-(0 + 1))), (.int .i64 0), (.int .i64 0), (.isl [[(.int .i64 0)]]), (.isl [[(.int .i64 2)], [(.int .i64
  3)]]), (.str []), (.int .i64 28)]])], [(.isl [[(.int .i64 26), (.int .i64 (-(0 + 1))), (.int .i64 0), (.int .i64 0), (.isl []), (.isl [[(.int .i64 4)]]), (.str []), (.int .i64 44)]])]])), some ((.row 5 [[(.str []), .nils, (.int
  .i64 0), .nils, (.int .i64 0)]]))]
def fr5 : V × Heap × List Nat := ((.one (.isl [[(.int .i64 26), (.int .i64 (-(0 + 1))), (.int .i64 0), (.int .i64 0), (.isl []), (.isl [[(.int .i64 4)]]), (.str []), (.int .i64 54)]])), [some ((.row 5 [[(.str []), .nils, (.int .i64 0), .nils, (.int .i64 0)]])),
  some ((.row 1 [[.nils]])), some ((.row 2 [[(.int .i64 0), (.int .i64 0)]])), some ((.row 6 [[(.isl [[(.str [102, 117, 110, 99]), (.int .i64 0)], [(.str [102]), (.int .i64 5)], [(.str [40]), (.int .i64 6)], [(.str [105]), (.int
  .i64 7)], [(.str [41]), (.int .i64 8)], [(.str [110]), (.int .i64 10)], [(.str [123]), (.int .i64 12)], [(.str [98, 48]), (.int .i64 14)], [(.str [58]), (.int .i64 16)], [(.str [98, 114]), (.int .i64 18)], [(.str [98, 49]), (.int
  .i64 21)], [(.str [98, 49]), (.int .i64 24)], [(.str [58]), (.int .i64 26)], [(.str [105, 102]), (.int .i64 28)], [(.str [37, 48]), (.int .i64 31)], [(.str [98, 50]), (.int .i64 34)], [(.str [98, 51]), (.int .i64 37)], [(.str [98,
  50]), (.int .i64 40)], [(.str [58]), (.int .i64 42)], [(.str [98, 114]), (.int .i64 44)], [(.str [98, 52]), (.int .i64 47)], [(.str [98, 51]), (.int .i64 50)], [(.str [58]), (.int .i64 52)], [(.str [98, 114]), (.int .i64 54)],
  [(.str [98, 52]), (.int .i64 57)], [(.str [98, 52]), (.int .i64 60)], [(.str [58]), (.int .i64 62)], [(.str [105, 102]), (.int .i64 64)], [(.str [37, 48]), (.int .i64 67)], [(.str [98, 49]), (.int .i64 70)], [(.str [98, 53]),
  (.int .i64 73)], [(.str [98, 53]), (.int .i64 76)], [(.str [58]), (.int .i64 78)], [(.str [114, 101, 116]), (.int .i64 80)], [(.str [98, 54]), (.int .i64 84)], [(.str [58]), (.int .i64 86)], [(.str [114, 101, 116]), (.int .i64
  88)], [(.str [125]), (.int .i64 92)]]), (.int .i64 25), (.int .i64 93), (.int .i64 4), (.int .i64 0), (.int .i64 0)]])), some ((.row 1 [[(.sl 5 5 0 0 0)]])), some ((.row 5 [])), some ((.row 5 [[(.str [102]), (.sl 7 1 1 0 1), (.int
  .i64 0), (.sl 8 1 3 0 3), (.int .i64 0)]])), some ((.row 1 [[(.int .i64 1)]])), some ((.row 1 [[(.isl [[(.int .i64 26), (.int .i64 (-(0 + 1))), (.int .i64 0), (.int .i64 0), (.isl []), (.isl [[(.int .i64 1)]]), (.str []), (.int
  .i64 18)]])], [(.isl [[(.int .i64 27), (.int .i64 (-(0 + 1))), (.int .i64 0), (.int .i64 0), (.isl [[(.int .i64 0)]]), (.isl [[(.int .i64 2)], [(.int .i64 3)]]), (.str []), (.int .i64 28)]])], [(.isl [[(.int .i64 26), (.int .i64
  (-(0 + 1))), (.int .i64 0), (.int .i64 0), (.isl []), (.isl [[(.int .i64 4)]]), (.str []), (.int .i64 44)]])]])), some ((.row 5 [[(.str []), .nils, (.int .i64 0), .nils, (.int .i64 0)]]))], [3])
def fk5 : Tab := (117, fa5, fh5, fr5) :: fk4
theorem fk5_ok : TabOK Try.prog cfg 600 fk5 := TabOK.add (n := 120) fk4_ok (by decide +kernel)
def fa6 : List V := [(.one (.ptr 3 1 0 0)), (.one (.int .i64 4))]
def fh6 : Heap := [some ((.row 5 [[(.str []), .nils, (.int .i64 0), .nils, (.int .i64 0)]])), some ((.row 1 [[.nils]])), some ((.row 2 [[(.int .i64 0), (.int .i64 0)]])), some ((.row 6 [[(.isl [[(.str [102, 117, 110, 99]), (.int .i64 0)], [(.str
  [102]), (.int .i64 5)], [(.str [40]), (.int .i64 6)], [(.str [105]), (.int .i64 7)], [(.str [41]), (.int .i64 8)], [(.str [110]), (.int .i64 10)], [(.str [123]), (.int .i64 12)], [(.str [98, 48]), (.int .i64 14)], [(.str [58]),
  (.int .i64 16)], [(.str [98, 114]), (.int .i64 18)], [(.str [98, 49]), (.int .i64 21)], [(.str [98, 49]), (.int .i64 24)], [(.str [58]), (.int .i64 26)], [(.str [105, 102]), (.int .i64 28)], [(.str [37, 48]), (.int .i64 31)],
  [(.str [98, 50]), (.int .i64 34)], [(.str [98, 51]), (.int .i64 37)], [(.str [98, 50]), (.int .i64 40)], [(.str [58]), (.int .i64 42)], [(.str [98, 114]), (.int .i64 44)], [(.str [98, 52]), (.int .i64 47)], [(.str [98, 51]), (.int
  .i64 50)], [(.str [58]), (.int .i64 52)], [(.str [98, 114]), (.int .i64 54)], [(.str [98, 52]), (.int .i64 57)], [(.str [98, 52]), (.int .i64 60)], [(.str [58]), (.int .i64 62)], [(.str [105, 102]), (.int .i64 64)], [(.str [37,
  48]), (.int .i64 67)], [(.str [98, 49]), (.int .i64 70)], [(.str [98, 53]), (.int .i64 73)], [(.str [98, 53]), (.int .i64 76)], [(.str [58]), (.int .i64 78)], [(.str [114, 101, 116]), (.int .i64 80)], [(.str [98, 54]), (.int .i64
  84)], [(.str [58]), (.int .i64 86)], [(.str [114, 101, 116]), (.int .i64 88)], [(.str [125]), (.int .i64 92)]]), (.int .i64 25), (.int .i64 93), (.int .i64 4), (.int .i64 0), (.int .i64 0)]])), some ((.row 1 [[(.sl 5 5 0 0 0)]])),
  some ((.row 5 [])), some ((.row 5 [[(.str [102]), (.sl 7 1 1 0 1), (.int .i64 0), (.sl 8 1 4 0 4), (.int .i64 0)]])), some ((.row 1 [[(.int .i64 1)]])), some ((.row 1 [[(.isl [[(.int .i64 26), (.int .i64 (-(0 + 1))), (.int .i64
  0), (.int .i64 0), (.isl []), (.isl [[(.int .i64 1)]]), (.str []), (.int .i64 18)]])], [(.isl [[(.int .i64 27), (.int .i64 (-(0 + 1))), (.int .i64 0), (.int .i64 0), (.isl [[(.int .i64 0)]]), (.isl [[(.int .i64 2)], [(.int .i64
  3)]]), (.str []), (.int .i64 28)]])], [(.isl [[(.int .i64 26), (.int .i64 (-(0 + 1))), (.int .i64 0), (.int .i64 0), (.isl []), (.isl [[(.int .i64 4)]]), (.str []), (.int .i64 44)]])], [(.isl [[(.int .i64 26), (.int .i64 (-(0 +
  1))), (.int .i64 0), (.int .i64 0), (.isl []), (.isl [[(.int .i64 4)]]), (.str []), (.int .i64 54)]])]])), some ((.row 5 [[(.str []), .nils, (.int .i64 0), .nils, (.int .i64 0)]]))]
def fr6 : V × Heap × List Nat := ((.one (.isl [[(.int .i64 27), (.int .i64 (-(0 + 1))), (.int .i64 0), (.int .i64 0), (.isl [[(.int .i64 0)]]), (.isl [[(.int .i64 1)], [(.int .i64 5)]]), (.str []), (.int .i64 64)]])), [some ((.row 5 [[(.str []), .nils, (.int .i64
  0), .nils, (.int .i64 0)]])), some ((.row 1 [[.nils]])), some ((.row 2 [[(.int .i64 0), (.int .i64 0)]])), some ((.row 6 [[(.isl [[(.str [102, 117, 110, 99]), (.int .i64 0)], [(.str [102]), (.int .i64 5)], [(.str [40]), (.int .i64
  6)], [(.str [105]), (.int .i64 7)], [(.str [41]), (.int .i64 8)], [(.str [110]), (.int .i64 10)], [(.str [123]), (.int .i64 12)], [(.str [98, 48]), (.int .i64 14)], [(.str [58]), (.int .i64 16)], [(.str [98, 114]), (.int .i64
  18)], [(.str [98, 49]), (.int .i64 21)], [(.str [98, 49]), (.int .i64 24)], [(.str [58]), (.int .i64 26)], [(.str [105, 102]), (.int .i64 28)], [(.str [37, 48]), (.int .i64 31)], [(.str [98, 50]), (.int .i64 34)], [(.str [98,
  51]), (.int .i64 37)], [(.str [98, 50]), (.int .i64 40)], [(.str [58]), (.int .i64 42)], [(.str [98, 114]), (.int .i64 44)], [(.str [98, 52]), (.int .i64 47)], [(.str [98, 51]), (.int .i64 50)], [(.str [58]), (.int .i64 52)],
  [(.str [98, 114]), (.int .i64 54)], [(.str [98, 52]), (.int .i64 57)], [(.str [98, 52]), (.int .i64 60)], [(.str [58]), (.int .i64 62)], [(.str [105, 102]), (.int .i64 64)], [(.str [37, 48]), (.int .i64 67)], [(.str [98, 49]),
  (.int .i64 70)], [(.str [98, 53]), (.int .i64 73)], [(.str [98, 53]), (.int .i64 76)], [(.str [58]), (.int .i64 78)], [(.str [114, 101, 116]), (.int .i64 80)], [(.str [98, 54]), (.int .i64 84)], [(.str [58]), (.int .i64 86)],
  [(.str [114, 101, 116]), (.int .i64 88)], [(.str [125]), (.int .i64 92)]]), (.int .i64 31), (.int .i64 93), (.int .i64 5), (.int .i64 0), (.int .i64 0)]])), some ((.row 1 [[(.sl 5 5 0 0 0)]])), some ((.row 5 [])), some ((.row 5
  [[(.str [102]), (.sl 7 1 1 0 1), (.int .i64 0), (.sl 8 1 4 0 4), (.int .i64 0)]])), some ((.row 1 [[(.int .i64 1)]])), some ((.row 1 [[(.isl [[(.int .i64 26), (.int .i64 (-(0 + 1))), (.int .i64 0), (.int .i64 0), (.isl []), (.isl
  [[(.int .i64 1)]]), (.str []), (.int .i64 18)]])], [(.isl [[(.int .i64 27), (.int .i64 (-(0 + 1))), (.int .i64 0), (.int .i64 0), (.isl [[(.int .i64 0)]]), (.isl [[(.int .i64 2)], [(.int .i64 3)]]), (.str []), (.int .i64 28)]])],
  [(.isl [[(.int .i64 26), (.int .i64 (-(0 + 1))), (.int .i64 0), (.int .i64 0), (.isl []), (.isl [[(.int .i64 4)]]), (.str []), (.int .i64 44)]])], [(.isl [[(.int .i64 26), (.int .i64 (-(0 + 1))), (.int .i64 0), (.int .i64 0),
  (.isl []), (.isl [[(.int .i64 4)]]), (.str []), (.int .i64 54)]])]])), some ((.row 5 [[(.str []), .nils, (.int .i64 0), .nils, (.int .i64 0)]]))], [3])
def fk6 : Tab := (117, fa6, fh6, fr6) :: fk5
theorem fk6_ok : TabOK Try.prog cfg 720 fk6 := TabOK.add (n := 120) fk5_ok (by decide +kernel)
def fa7 : List V := [(.one (.ptr 3 1 0 0)), (.one (.int .i64 5))]
def fh7 : Heap := [some ((.row 5 [[(.str []), .nils, (.int .i64 0), .nils, (.int .i64 0)]])), some ((.row 1 [[.nils]])), some ((.row 2 [[(.int .i64 0), (.int .i64 0)]])), some ((.row 6 [[(.isl [[(.str [102, 117, 110, 99]), (.int .i64 0)], [(.str
  [102]), (.int .i64 5)], [(.str [40]), (.int .i64 6)], [(.str [105]), (.int .i64 7)], [(.str [41]), (.int .i64 8)], [(.str [110]), (.int .i64 10)], [(.str [123]), (.int .i64 12)], [(.str [98, 48]), (.int .i64 14)], [(.str [58]),
  (.int .i64 16)], [(.str [98, 114]), (.int .i64 18)], [(.str [98, 49]), (.int .i64 21)], [(.str [98, 49]), (.int .i64 24)], [(.str [58]), (.int .i64 26)], [(.str [105, 102]), (.int .i64 28)], [(.str [37, 48]), (.int .i64 31)],
  [(.str [98, 50]), (.int .i64 34)], [(.str [98, 51]), (.int .i64 37)], [(.str [98, 50]), (.int .i64 40)], [(.str [58]), (.int .i64 42)], [(.str [98, 114]), (.int .i64 44)], [(.str [98, 52]), (.int .i64 47)], [(.str [98, 51]), (.int
  .i64 50)], [(.str [58]), (.int .i64 52)], [(.str [98, 114]), (.int .i64 54)], [(.str [98, 52]), (.int .i64 57)], [(.str [98, 52]), (.int .i64 60)], [(.str [58]), (.int .i64 62)], [(.str [105, 102]), (.int .i64 64)], [(.str [37,
  48]), (.int .i64 67)], [(.str [98, 49]), (.int .i64 70)], [(.str [98, 53]), (.int .i64 73)], [(.str [98, 53]), (.int .i64 76)], [(.str [58]), (.int .i64 78)], [(.str [114, 101, 116]), (.int .i64 80)], [(.str [98, 54]), (.int .i64
  84)], [(.str [58]), (.int .i64 86)], [(.str [114, 101, 116]), (.int .i64 88)], [(.str [125]), (.int .i64 92)]]), (.int .i64 31), (.int .i64 93), (.int .i64 5), (.int .i64 0), (.int .i64 0)]])), some ((.row 1 [[(.sl 5 5 0 0 0)]])),
  some ((.row 5 [])), some ((.row 5 [[(.str [102]), (.sl 7 1 1 0 1), (.int .i64 0), (.sl 8 1 5 0 5), (.int .i64 0)]])), some ((.row 1 [[(.int .i64 1)]])), some ((.row 1 [[(.isl [[(.int .i64 26), (.int .i64 (-(0 + 1))), (.int .i64
  0), (.int .i64 0), (.isl []), (.isl [[(.int .i64 1)]]), (.str []), (.int .i64 18)]])], [(.isl [[(.int .i64 27), (.int .i64 (-(0 + 1))), (.int .i64 0), (.int .i64 0), (.isl [[(.int .i64 0)]]), (.isl [[(.int .i64 2)], [(.int .i64
  3)]]), (.str []), (.int .i64 28)]])], [(.isl [[(.int .i64 26), (.int .i64 (-(0 + 1))), (.int .i64 0), (.int .i64 0), (.isl []), (.isl [[(.int .i64 4)]]), (.str []), (.int .i64 44)]])], [(.isl [[(.int .i64 26), (.int .i64 (-(0 +
  1))), (.int .i64 0), (.int .i64 0), (.isl []), (.isl [[(.int .i64 4)]]), (.str []), (.int .i64 54)]])], [(.isl [[(.int .i64 27), (.int .i64 (-(0 + 1))), (.int .i64 0), (.int .i64 0), (.isl [[(.int .i64 0)]]), (.isl [[(.int .i64
  1)], [(.int .i64 5)]]), (.str []), (.int .i64 64)]])]])), some ((.row 5 [[(.str []), .nils, (.int .i64 0), .nils, (.int .i64 0)]]))]
def fr7 : V × Heap × List Nat := ((.one (.isl [[(.int .i64 28), (.int .i64 (-(0 + 1))), (.int .i64 0), (.int .i64 0), (.isl []), (.isl []), (.str []), (.int .i64 80)]])), [some ((.row 5 [[(.str []), .nils, (.int .i64 0), .nils, (.int .i64 0)]])), some ((.row 1
  [[.nils]])), some ((.row 2 [[(.int .i64 0), (.int .i64 0)]])), some ((.row 6 [[(.isl [[(.str [102, 117, 110, 99]), (.int .i64 0)], [(.str [102]), (.int .i64 5)], [(.str [40]), (.int .i64 6)], [(.str [105]), (.int .i64 7)], [(.str
  [41]), (.int .i64 8)], [(.str [110]), (.int .i64 10)], [(.str [123]), (.int .i64 12)], [(.str [98, 48]), (.int .i64 14)], [(.str [58]), (.int .i64 16)], [(.str [98, 114]), (.int .i64 18)], [(.str [98, 49]), (.int .i64 21)], [(.str
  [98, 49]), (.int .i64 24)], [(.str [58]), (.int .i64 26)], [(.str [105, 102]), (.int .i64 28)], [(.str [37, 48]), (.int .i64 31)], [(.str [98, 50]), (.int .i64 34)], [(.str [98, 51]), (.int .i64 37)], [(.str [98, 50]), (.int .i64
  40)], [(.str [58]), (.int .i64 42)], [(.str [98, 114]), (.int .i64 44)], [(.str [98, 52]), (.int .i64 47)], [(.str [98, 51]), (.int .i64 50)], [(.str [58]), (.int .i64 52)], [(.str [98, 114]), (.int .i64 54)], [(.str [98, 52]),
  (.int .i64 57)], [(.str [98, 52]), (.int .i64 60)], [(.str [58]), (.int .i64 62)], [(.str [105, 102]), (.int .i64 64)], [(.str [37, 48]), (.int .i64 67)], [(.str [98, 49]), (.int .i64 70)], [(.str [98, 53]), (.int .i64 73)],
  [(.str [98, 53]), (.int .i64 76)], [(.str [58]), (.int .i64 78)], [(.str [114, 101, 116]), (.int .i64 80)], [(.str [98, 54]), (.int .i64 84)], [(.str [58]), (.int .i64 86)], [(.str [114, 101, 116]), (.int .i64 88)], [(.str [125]),
  (.int .i64 92)]]), (.int .i64 34), (.int .i64 93), (.int .i64 6), (.int .i64 0), (.int .i64 0)]])), some ((.row 1 [[(.sl 5 5 0 0 0)]])), some ((.row 5 [])), some ((.row 5 [[(.str [102]), (.sl 7 1 1 0 1), (.int .i64 0), (.sl 8 1 5
  0 5), (.int .i64 0)]])), some ((.row 1 [[(.int .i64 1)]])), some ((.row 1 [[(.isl [[(.int .i64 26), (.int .i64 (-(0 + 1))), (.int .i64 0), (.int .i64 0), (.isl []), (.isl [[(.int .i64 1)]]), (.str []), (.int .i64 18)]])], [(.isl
  [[(.int .i64 27), (.int .i64 (-(0 + 1))), (.int .i64 0), (.int .i64 0), (.isl [[(.int .i64 0)]]), (.isl [[(.int .i64 2)], [(.int .i64 3)]]), (.str []), (.int .i64 28)]])], [(.isl [[(.int .i64 26), (.int .i64 (-(0 + 1))), (.int
  .i64 0), (.int .i64 0), (.isl []), (.isl [[(.int .i64 4)]]), (.str []), (.int .i64 44)]])], [(.isl [[(.int .i64 26), (.int .i64 (-(0 + 1))), (.int .i64 0), (.int .i64 0), (.isl []), (.isl [[(.int .i64 4)]]), (.str []), (.int .i64
  54)]])], [(.isl [[(.int .i64 27), (.int .i64 (-(0 + 1))), (.int .i64 0), (.int .i64 0), (.isl [[(.int .i64 0)]]), (.isl [[(.int .i64 1)], [(.int .i64 5)]]), (.str []), (.int .i64 64)]])]])), some ((.row 5 [[(.str []), .nils, (.int
  .i64 0), .nils, (.int .i64 0)]]))], [3])
def fk7 : Tab := (117, fa7, fh7, fr7) :: fk6
theorem fk7_ok : TabOK Try.prog cfg 840 fk7 := TabOK.add (n := 120) fk6_ok (by decide +kernel)
def fa8 : List V := [(.one (.ptr 3 1 0 0)), (.one (.int .i64 6))]
def fh8 : Heap := [some ((.row 5 [[(.str []), .nils, (.int .i64 0), .nils, (.int .i64 0)]])), some ((.row 1 [[.nils]])), some ((.row 2 [[(.int .i64 0), (.int .i64 0)]])), some ((.row 6 [[(.isl [[(.str [102, 117, 110, 99]), (.int .i64 0)], [(.str
  [102]), (.int .i64 5)], [(.str [40]), (.int .i64 6)], [(.str [105]), (.int .i64 7)], [(.str [41]), (.int .i64 8)], [(.str [110]), (.int .i64 10)], [(.str [123]), (.int .i64 12)], [(.str [98, 48]), (.int .i64 14)], [(.str [58]),
  (.int .i64 16)], [(.str [98, 114]), (.int .i64 18)], [(.str [98, 49]), (.int .i64 21)], [(.str [98, 49]), (.int .i64 24)], [(.str [58]), (.int .i64 26)], [(.str [105, 102]), (.int .i64 28)], [(.str [37, 48]), (.int .i64 31)],
  [(.str [98, 50]), (.int .i64 34)], [(.str [98, 51]), (.int .i64 37)], [(.str [98, 50]), (.int .i64 40)], [(.str [58]), (.int .i64 42)], [(.str [98, 114]), (.int .i64 44)], [(.str [98, 52]), (.int .i64 47)], [(.str [98, 51]), (.int
  .i64 50)], [(.str [58]), (.int .i64 52)], [(.str [98, 114]), (.int .i64 54)], [(.str [98, 52]), (.int .i64 57)], [(.str [98, 52]), (.int .i64 60)], [(.str [58]), (.int .i64 62)], [(.str [105, 102]), (.int .i64 64)], [(.str [37,
  48]), (.int .i64 67)], [(.str [98, 49]), (.int .i64 70)], [(.str [98, 53]), (.int .i64 73)], [(.str [98, 53]), (.int .i64 76)], [(.str [58]), (.int .i64 78)], [(.str [114, 101, 116]), (.int .i64 80)], [(.str [98, 54]), (.int .i64
  84)], [(.str [58]), (.int .i64 86)], [(.str [114, 101, 116]), (.int .i64 88)], [(.str [125]), (.int .i64 92)]]), (.int .i64 34), (.int .i64 93), (.int .i64 6), (.int .i64 0), (.int .i64 0)]])), some ((.row 1 [[(.sl 5 5 0 0 0)]])),
  some ((.row 5 [])), some ((.row 5 [[(.str [102]), (.sl 7 1 1 0 1), (.int .i64 0), (.sl 8 1 6 0 6), (.int .i64 0)]])), some ((.row 1 [[(.int .i64 1)]])), some ((.row 1 [[(.isl [[(.int .i64 26), (.int .i64 (-(0 + 1))), (.int .i64
  0), (.int .i64 0), (.isl []), (.isl [[(.int .i64 1)]]), (.str []), (.int .i64 18)]])], [(.isl [[(.int .i64 27), (.int .i64 (-(0 + 1))), (.int .i64 0), (.int .i64 0), (.isl [[(.int .i64 0)]]), (.isl [[(.int .i64 2)], [(.int .i64
  3)]]), (.str []), (.int .i64 28)]])], [(.isl [[(.int .i64 26), (.int .i64 (-(0 + 1))), (.int .i64 0), (.int .i64 0), (.isl []), (.isl [[(.int .i64 4)]]), (.str []), (.int .i64 44)]])], [(.isl [[(.int .i64 26), (.int .i64 (-(0 +
  1))), (.int .i64 0), (.int .i64 0), (.isl []), (.isl [[(.int .i64 4)]]), (.str []), (.int .i64 54)]])], [(.isl [[(.int .i64 27), (.int .i64 (-(0 + 1))), (.int .i64 0), (.int .i64 0), (.isl [[(.int .i64 0)]]), (.isl [[(.int .i64
  1)], [(.int .i64 5)]]), (.str []), (.int .i64 64)]])], [(.isl [[(.int .i64 28), (.int .i64 (-(0 + 1))), (.int .i64 0), (.int .i64 0), (.isl []), (.isl []), (.str []), (.int .i64 80)]])]])), some ((.row 5 [[(.str []), .nils, (.int
  .i64 0), .nils, (.int .i64 0)]]))]
def fr8 : V × Heap × List Nat := ((.one (.isl [[(.int .i64 28), (.int .i64 (-(0 + 1))), (.int .i64 0), (.int .i64 0), (.isl []), (.isl []), (.str []), (.int .i64 88)]])), [some ((.row 5 [[(.str []), .nils, (.int .i64 0), .nils, (.int .i64 0)]])), some ((.row 1
  [[.nils]])), some ((.row 2 [[(.int .i64 0), (.int .i64 0)]])), some ((.row 6 [[(.isl [[(.str [102, 117, 110, 99]), (.int .i64 0)], [(.str [102]), (.int .i64 5)], [(.str [40]), (.int .i64 6)], [(.str [105]), (.int .i64 7)], [(.str
  [41]), (.int .i64 8)], [(.str [110]), (.int .i64 10)], [(.str [123]), (.int .i64 12)], [(.str [98, 48]), (.int .i64 14)], [(.str [58]), (.int .i64 16)], [(.str [98, 114]), (.int .i64 18)], [(.str [98, 49]), (.int .i64 21)], [(.str
  [98, 49]), (.int .i64 24)], [(.str [58]), (.int .i64 26)], [(.str [105, 102]), (.int .i64 28)], [(.str [37, 48]), (.int .i64 31)], [(.str [98, 50]), (.int .i64 34)], [(.str [98, 51]), (.int .i64 37)], [(.str [98, 50]), (.int .i64
  40)], [(.str [58]), (.int .i64 42)], [(.str [98, 114]), (.int .i64 44)], [(.str [98, 52]), (.int .i64 47)], [(.str [98, 51]), (.int .i64 50)], [(.str [58]), (.int .i64 52)], [(.str [98, 114]), (.int .i64 54)], [(.str [98, 52]),
  (.int .i64 57)], [(.str [98, 52]), (.int .i64 60)], [(.str [58]), (.int .i64 62)], [(.str [105, 102]), (.int .i64 64)], [(.str [37, 48]), (.int .i64 67)], [(.str [98, 49]), (.int .i64 70)], [(.str [98, 53]), (.int .i64 73)],
  [(.str [98, 53]), (.int .i64 76)], [(.str [58]), (.int .i64 78)], [(.str [114, 101, 116]), (.int .i64 80)], [(.str [98, 54]), (.int .i64 84)], [(.str [58]), (.int .i64 86)], [(.str [114, 101, 116]), (.int .i64 88)], [(.str [125]),
  (.int .i64 92)]]), (.int .i64 37), (.int .i64 93), (.int .i64 7), (.int .i64 0), (.int .i64 0)]])), some ((.row 1 [[(.sl 5 5 0 0 0)]])), some ((.row 5 [])), some ((.row 5 [[(.str [102]), (.sl 7 1 1 0 1), (.int .i64 0), (.sl 8 1 6
  0 6), (.int .i64 0)]])), some ((.row 1 [[(.int .i64 1)]])), some ((.row 1 [[(.isl [[(.int .i64 26), (.int .i64 (-(0 + 1))), (.int .i64 0), (.int .i64 0), (.isl []), (.isl [[(.int .i64 1)]]), (.str []), (.int .i64 18)]])], [(.isl
  [[(.int .i64 27), (.int .i64 (-(0 + 1))), (.int .i64 0), (.int .i64 0), (.isl [[(.int .i64 0)]]), (.isl [[(.int .i64 2)], [(.int .i64 3)]]), (.str []), (.int .i64 28)]])], [(.isl [[(.int .i64 26), (.int .i64 (-(0 + 1))), (.int
  .i64 0), (.int .i64 0), (.isl []), (.isl [[(.int .i64 4)]]), (.str []), (.int .i64 44)]])], [(.isl [[(.int .i64 26), (.int .i64 (-(0 + 1))), (.int .i64 0), (.int .i64 0), (.isl []), (.isl [[(.int .i64 4)]]), (.str []), (.int .i64
  54)]])], [(.isl [[(.int .i64 27), (.int .i64 (-(0 + 1))), (.int .i64 0), (.int .i64 0), (.isl [[(.int .i64 0)]]), (.isl [[(.int .i64 1)], [(.int .i64 5)]]), (.str []), (.int .i64 64)]])], [(.isl [[(.int .i64 28), (.int .i64 (-(0 +
  1))), (.int .i64 0), (.int .i64 0), (.isl []), (.isl []), (.str []), (.int .i64 80)]])]])), some ((.row 5 [[(.str []), .nils, (.int .i64 0), .nils, (.int .i64 0)]]))], [3])
def fk8 : Tab := (117, fa8, fh8, fr8) :: fk7
theorem fk8_ok : TabOK Try.prog cfg 960 fk8 := TabOK.add (n := 120) fk7_ok (by decide +kernel)
def fa9 : List V := [.one (.str [102, 117, 110, 99, 32, 102, 40, 105, 41, 32, 110, 32, 123, 32, 98, 48, 58, 32, 98, 114, 32, 98, 49, 32, 98, 49, 58, 32, 105, 102, 32, 37, 48, 32, 98, 50, 32, 98, 51, 32, 98, 50, 58, 32, 98, 114, 32, 98, 52, 32, 98,
  51, 58, 32, 98, 114, 32, 98, 52, 32, 98, 52, 58, 32, 105, 102, 32, 37, 48, 32, 98, 49, 32, 98, 53, 32, 98, 53, 58, 32, 114, 101, 116, 32, 98, 54, 58, 32, 114, 101, 116, 32, 125])]
def fh9 : Heap := [some ((.row 5 [[(.str []), .nils, (.int .i64 0), .nils, (.int .i64 0)]]))]
def fr9 : V × Heap × List Nat := ((.tup [(.agg [(.isl [[(.str [102]), (.isl [[(.int .i64 1)]]), (.int .i64 0), (.isl [[(.isl [[(.int .i64 26), (.int .i64 (-(0 + 1))), (.int .i64 0), (.int .i64 0), (.isl []), (.isl [[(.int .i64 1)]]), (.str []), (.int .i64
  18)]])], [(.isl [[(.int .i64 27), (.int .i64 (-(0 + 1))), (.int .i64 0), (.int .i64 0), (.isl [[(.int .i64 0)]]), (.isl [[(.int .i64 2)], [(.int .i64 3)]]), (.str []), (.int .i64 28)]])], [(.isl [[(.int .i64 26), (.int .i64 (-(0 +
  1))), (.int .i64 0), (.int .i64 0), (.isl []), (.isl [[(.int .i64 4)]]), (.str []), (.int .i64 44)]])], [(.isl [[(.int .i64 26), (.int .i64 (-(0 + 1))), (.int .i64 0), (.int .i64 0), (.isl []), (.isl [[(.int .i64 4)]]), (.str []),
  (.int .i64 54)]])], [(.isl [[(.int .i64 27), (.int .i64 (-(0 + 1))), (.int .i64 0), (.int .i64 0), (.isl [[(.int .i64 0)]]), (.isl [[(.int .i64 1)], [(.int .i64 5)]]), (.str []), (.int .i64 64)]])], [(.isl [[(.int .i64 28), (.int
  .i64 (-(0 + 1))), (.int .i64 0), (.int .i64 0), (.isl []), (.isl []), (.str []), (.int .i64 80)]])], [(.isl [[(.int .i64 28), (.int .i64 (-(0 + 1))), (.int .i64 0), (.int .i64 0), (.isl []), (.isl []), (.str []), (.int .i64
  88)]])]]), (.int .i64 0)]])]), (.agg [(.int .i64 0), (.int .i64 0)])]), [some ((.row 5 [[(.str []), .nils, (.int .i64 0), .nils, (.int .i64 0)]]))], [])
def fk9 : Tab := (49, fa9, fh9, fr9) :: fk8
theorem fk9_ok : TabOK Try.prog cfg 1160 fk9 := TabOK.add (n := 200) fk8_ok (by decide +kernel)
end Go.Proofs.Ytdkknhpdjcdmfaa.Abs

/- The example of a function that forks, as the machine gives it. -/
set_option maxRecDepth 100000
namespace Go.Proofs.Ytdkknhpdjcdmfaa.Abs
open Go Go.RowKit Go.Proofs

def fa10 : List V := []
def fh10 : Heap := []
def fr10 : V × Heap × List Nat := (.agg [(.str [102]), (.isl [[(.int .i64 1)]]), (.int .i64 0), (.isl [[(.isl [[(.int .i64 26), (.int .i64 (-(0 + 1))), (.int .i64 0), (.int .i64 0), (.isl []), (.isl [[(.int .i64 1)]]), (.str []), (.int .i64 18)]])], [(.isl [[(.int
  .i64 27), (.int .i64 (-(0 + 1))), (.int .i64 0), (.int .i64 0), (.isl [[(.int .i64 0)]]), (.isl [[(.int .i64 2)], [(.int .i64 3)]]), (.str []), (.int .i64 28)]])], [(.isl [[(.int .i64 26), (.int .i64 (-(0 + 1))), (.int .i64 0),
  (.int .i64 0), (.isl []), (.isl [[(.int .i64 4)]]), (.str []), (.int .i64 44)]])], [(.isl [[(.int .i64 26), (.int .i64 (-(0 + 1))), (.int .i64 0), (.int .i64 0), (.isl []), (.isl [[(.int .i64 4)]]), (.str []), (.int .i64 54)]])],
  [(.isl [[(.int .i64 27), (.int .i64 (-(0 + 1))), (.int .i64 0), (.int .i64 0), (.isl [[(.int .i64 0)]]), (.isl [[(.int .i64 1)], [(.int .i64 5)]]), (.str []), (.int .i64 64)]])], [(.isl [[(.int .i64 28), (.int .i64 (-(0 + 1))),
  (.int .i64 0), (.int .i64 0), (.isl []), (.isl []), (.str []), (.int .i64 80)]])], [(.isl [[(.int .i64 28), (.int .i64 (-(0 + 1))), (.int .i64 0), (.int .i64 0), (.isl []), (.isl []), (.str []), (.int .i64 88)]])]]), (.int .i64
  0)], [], [])
def fk10 : Tab := (72, fa10, fh10, fr10) :: fk9
theorem fk10_ok : TabOK Try.prog cfg 1280 fk10 := TabOK.add (n := 120) fk9_ok (by decide +kernel)
theorem fork_is : CI Try.prog cfg 72 [] [] = some fr10 := TabOK.get fk10_ok (sameR_eq (by decide +kernel))
end Go.Proofs.Ytdkknhpdjcdmfaa.Abs

/- The example of the law of who stands ahead of whom, as the machine runs it. -/
set_option maxRecDepth 100000
namespace Go.Proofs.Ytdkknhpdjcdmfaa.Abs
open Go Go.RowKit Go.Proofs

theorem works09_tab : TabOK Try.prog cfg 1580 ((31, [], [], (.one (.bool true), [], [])) :: fk10) := TabOK.add (n := 300) fk10_ok (by decide +kernel)
theorem works09 : CI Try.prog cfg 31 [] [] = some (.one (.bool true), [], []) := TabOK.get works09_tab (sameR_eq (by decide +kernel))
end Go.Proofs.Ytdkknhpdjcdmfaa.Abs
