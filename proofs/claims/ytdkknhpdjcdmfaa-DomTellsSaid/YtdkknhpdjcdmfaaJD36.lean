/- Which temporaries are carried round loops, function by function, and of which kind; which functions hand back what they made as it is. Printed by cfg.py. -/
import Derived.Test.YtdkknhpdjcdmfaaJD31
import Derived.Test.YtdkknhpdjcdmfaaJD35
namespace Go.Proofs.Ytdkknhpdjcdmfaa.Abs
open Go

def liveTab : List (List (Nat × Kd)) := [[],
  [],
  [],
  [(1, .b []), (3, .p), (2, .p)],
  [(3, .b []), (4, .p), (5, .b []), (7, .p), (6, .p), (2, .p)],
  [],
  [],
  [(3, .b []), (7, .p), (8, .p), (9, .p), (10, .p), (6, .p)],
  [(2, .b []), (1, .p), (5, .p), (8, .p), (6, .p), (7, .s 1 []), (10, .p), (4, .p), (1010, .x 10), (1009, .x 10)],
  [],
  [],
  [],
  [(0, .p), (1, .p), (5, .p), (4, .p)],
  [(1, .b []), (3, .p), (19, .p), (18, .p), (17, .p), (4, .s 1 []), (32, .p), (31, .p), (10, .p), (9, .s 1 []), (7, .s 1 [])],
  [(4, .p), (1, .b []), (6, .p), (5, .s 1 []), (3, .s 1 [])],
  [(2, .b []), (3, .b []), (5, .p), (4, .p)],
  [(1, .b []), (8, .p), (7, .p), (3, .b [6]), (2, .b [])],
  [(4, .p), (1, .b []), (3, .b [6]), (2, .b [])],
  [(1, .b []), (2, .b []), (3, .p), (5, .p), (4, .p), (6, .b []), (7, .p), (1006, .x 9), (1007, .x 9), (1005, .x 5), (1004, .x 5)],
  [(4, .p), (1, .b []), (6, .p), (5, .s 1 []), (3, .s 1 [])],
  [],
  [],
  [(1, .b []), (2, .b []), (21, .p), (20, .p), (19, .p), (38, .p), (37, .p), (36, .p), (5, .p)],
  [(1, .b []), (2, .b []), (3, .p), (4, .p)],
  [],
  [(6, .p), (2, .b []), (1, .p), (4, .b []), (5, .p)],
  [],
  [(0, .p), (4, .b []), (6, .p), (5, .b [2, 5]), (8, .p), (7, .p), (10, .b [0, 0, 0, 3]), (103, .p), (102, .p), (101, .p), (118, .p), (117, .p), (2, .b []), (3, .b [])],
  [(1, .b []), (21, .p), (20, .p), (19, .p), (3, .s 1 []), (37, .p), (36, .p), (35, .p), (8, .b []), (6, .p), (60, .p), (59, .p), (58, .p), (9, .s 1 []), (76, .p), (75, .p), (74, .p)],
  [(2, .b []), (3, .b []), (5, .p), (4, .p)],
  [],
  [],
  [(1, .b []), (3, .p), (35, .p), (34, .p), (9, .s 1 []), (6, .p), (67, .p), (66, .p), (65, .p), (8, .p), (11, .p), (76, .p), (75, .p), (74, .p), (12, .p), (7, .p), (116, .p), (115, .p), (114, .p), (174, .p), (173, .p), (172, .p), (4, .b2 [(2, []), (2, []), (2, [2])])],
  [(1, .b []), (3, .p), (6, .p), (9, .p), (8, .s 1 []), (4, .p), (7, .p), (5, .s 1 []), (1008, .x 13), (1009, .x 13), (1007, .x 13)],
  [(1, .p), (2, .p), (0, .p)],
  [],
  [],
  [(0, .p), (1, .p), (6, .p), (5, .p), (4, .p)],
  [],
  [(6, .p), (0, .p), (1, .p), (5, .p)],
  [(0, .p), (1, .p), (5, .p), (4, .p)],
  [],
  [(6, .p), (0, .p), (1, .p), (5, .s 1 [])],
  [(4, .b [2]), (3, .s 1 []), (0, .p), (30000, .it ⟨103, 30, 3, 67, 3, 4⟩)],
  [(0, .p), (7, .p), (6, .p), (5, .s 1 [])],
  [(7, .p), (6, .p), (5, .s 1 [])],
  [(5, .p), (0, .p), (1, .p), (4, .p)],
  [(1, .b []), (3, .p), (2, .p)],
  [(2, .b []), (4, .b []), (7, .p), (1, .p)],
  [(2, .b []), (3, .b []), (4, .p), (6, .b []), (7, .b [6])],
  [(1, .b [0, 2, 0, 2]), (3, .p), (32, .p), (31, .p), (30, .p), (39, .p), (38, .p), (37, .p), (4, .b []), (5, .p), (54, .p), (53, .p), (52, .p), (9, .s 1 []), (67, .p), (66, .p), (65, .s 1 []), (73, .p), (72, .p), (71, .p), (15, .b []), (80, .p), (79, .p), (78, .p), (96, .p), (95, .p), (94, .p), (2, .b [])],
  [(2, .b []), (3, .b []), (5, .p), (6, .p), (4, .p)],
  [(17, .p), (16, .p), (15, .p), (4, .s 1 []), (3, .p)],
  [(5, .p), (2, .b []), (1, .p), (4, .p)],
  [],
  [(1, .b []), (4, .b [0, 0, 0, 2]), (5, .p), (3, .p), (2, .b [])],
  [],
  [(2, .b []), (6, .p), (5, .p), (1, .p)],
  [(3, .b []), (2, .b []), (22, .p), (21, .p), (20, .p), (5, .s 1 []), (4, .p)],
  [(3, .b []), (2, .b []), (5, .p), (4, .p)],
  [(0, .p), (8, .p), (9, .p), (10, .p), (2, .p), (1, .p)],
  [],
  [],
  [(0, .p), (1, .p), (5, .p), (4, .p)],
  [],
  [],
  [(0, .p), (1, .p), (7, .p), (6, .p), (5, .s 1 []), (4, .s 1 [])],
  [],
  [(1, .p), (0, .s 1 [])],
  [(0, .s 1 []), (14, .p), (13, .p), (12, .p), (5, .p)],
  [(0, .p), (8, .p), (7, .p), (1, .p), (4, .p)],
  [(1, .b []), (4, .p), (3, .p), (5, .p), (2, .p), (1005, .x 6)],
  [],
  [(2, .r 1), (3, .b [0, 2, 2])],
  [(1, .b []), (3, .s 1 []), (13, .p), (12, .p), (23, .p), (22, .p), (21, .p)],
  [(15, .p), (14, .p), (13, .p), (22, .p), (21, .p), (20, .p), (4, .p), (3, .s 1 [2])],
  [(2, .p), (3, .p), (1, .p), (0, .p)],
  [(0, .p), (1, .p), (13, .p), (12, .p), (4, .p)],
  [],
  [(4, .p), (1, .b []), (3, .s 1 [])],
  [(2, .p), (7, .s 1 []), (8, .p), (9, .p), (1, .p), (12, .p), (3, .b []), (11, .s 1 []), (1009, .x 6), (1008, .x 13)],
  [],
  [],
  [(2, .b []), (6, .p), (5, .p), (1, .p), (7, .b []), (8, .p), (9, .p)],
  [(4, .p), (1, .b []), (5, .b []), (2, .b []), (7, .p), (8, .p), (3, .p)],
  [(3, .p), (1, .b []), (4, .p), (2, .b [])],
  [(4, .b []), (6, .b []), (8, .p), (9, .p), (2, .p), (12, .p), (13, .p), (3, .b []), (15, .p), (14, .p), (11, .p)],
  [(0, .p), (3, .b []), (5, .p), (4, .s 2 []), (7, .p), (2, .s 2 [])],
  [],
  [(0, .p), (3, .b [0, 2, 0, 2]), (2, .b [])],
  [(1, .p), (12, .p), (11, .p), (10, .p), (0, .p), (26, .p), (25, .p), (24, .p), (6, .p), (5, .s 8 [])],
  [(0, .p), (1, .p), (4, .p)],
  [],
  [(8, .p), (2, .p), (3, .b []), (10, .p), (9, .p), (11, .b [0, 0, 0, 0, 2, 2]), (12, .p), (13, .p), (1, .p), (7, .s 8 [])],
  [(10, .p), (9, .p), (8, .p), (5, .p), (1, .p), (4, .p)],
  [(5, .p), (0, .p), (1, .p), (4, .p)],
  [(4, .p), (0, .p), (3, .s 1 [])],
  [],
  [(15, .p), (14, .p), (13, .p), (28, .p), (27, .p), (26, .p), (4, .p), (3, .s 1 [2])],
  [(0, .p), (1, .p), (20, .p), (19, .p), (18, .p)],
  [(0, .p), (2, .p), (3, .p)],
  [(2, .p), (1, .p), (0, .p), (3, .p), (8, .p), (9, .p)],
  [],
  [(1, .p), (3, .p), (0, .p)],
  [(2, .b []), (5, .p), (4, .p)],
  [(1, .b []), (5, .p), (6, .p), (2, .p)],
  [(6, .p), (2, .b []), (1, .p), (4, .b []), (5, .p)],
  [],
  [],
  [],
  [],
  [(5, .p), (1, .p), (0, .p), (4, .p)],
  [],
  [],
  [],
  [],
  [],
  [(0, .p), (5, .s 8 [])],
  [],
  [(5, .p), (2, .b []), (6, .p), (1, .p), (4, .p)],
  [(5, .p), (0, .p), (1, .p), (4, .p)],
  [(1, .p), (6, .p), (2, .p), (7, .p), (0, .p)],
  [(8, .p), (9, .p), (0, .p), (6, .p), (10, .p), (7, .p)],
  [(1, .p), (6, .p), (9, .p), (7, .b []), (8, .p), (0, .p)],
  [],
  [(6, .p), (7, .p), (0, .p)],
  [(1, .p), (8, .p), (7, .p), (2, .p), (0, .p), (9, .p), (10, .p), (6, .p)],
  [],
  [(0, .p), (1, .p), (9, .p), (10, .p)],
  [(0, .p), (1, .p), (10, .p), (11, .p)],
  [],
  [],
  [(0, .p), (3, .p), (2, .p)],
  [],
  [],
  [],
  [],
  [(0, .p), (2, .b []), (5, .p), (4, .p), (3, .p)],
  [(3, .p), (5, .p), (4, .s 1 [])],
  [(1, .p), (4, .b []), (8, .b []), (9, .p), (2, .p), (10, .p), (3, .p)],
  [(7, .b []), (8, .p), (9, .p), (6, .p)],
  [],
  [],
  [(0, .p), (4, .p), (3, .p)],
  [],
  [(8, .p), (2, .p), (0, .p), (3, .p)],
  [],
  [],
  [],
  [],
  [],
  [],
  [],
  [(4, .p), (0, .p), (3, .p)],
  [(9, .s 1 []), (1, .p), (4, .b []), (12, .p), (11, .p), (10, .p)],
  [],
  [(0, .p), (4, .p), (5, .p), (2, .p), (3, .p)],
  [],
  [],
  [],
  [],
  [],
  [(0, .p), (5, .b [0, 0, 0, 0, 2, 2]), (4, .b [])],
  [(0, .p), (5, .b [0, 0, 0, 0, 2]), (4, .b [])],
  [],
  [(8, .p), (2, .p), (0, .p), (7, .b [0, 0, 0, 0, 2, 2]), (6, .b [])],
  [(0, .p), (4, .p), (3, .p)],
  [],
  [],
  [],
  [(4, .p), (5, .p), (7, .p), (6, .p)],
  [],
  [],
  [(0, .p), (3, .p), (2, .p)],
  [],
  [(5, .p), (0, .p), (1, .p), (4, .p)],
  [],
  [],
  [],
  [],
  [],
  [],
  [],
  [],
  [],
  [],
  [],
  [],
  [],
  [],
  [],
  []]

def bwdTab : List BW := [⟨103, 30, 3, 67, 3, 4⟩]

def cfg : Cfg := ⟨fun f => if [68, 69].contains f then 1 else 0, fun f => liveTab.getD f [], fun f => [10, 11, 12, 15, 18, 20, 21, 22, 23, 26, 29, 30, 31, 35, 37, 39, 40, 46, 47, 48, 51, 53, 54, 57, 58, 59, 61, 63, 67, 70, 71, 77, 83, 84, 85, 86, 92, 94, 95, 102, 104, 105, 107, 108, 109, 110, 119, 120, 134, 135, 139, 140, 141, 142, 160].contains f, fun f args => match Nat.beq f 81 with | true => cloneT 1 8 args | false => none⟩
@[simp] theorem to81 (args : List V) : cfg.told 81 args = cloneT 1 8 args := rfl
@[simp] theorem rd0 : cfg.read 0 = false := rfl
@[simp] theorem rd1 : cfg.read 1 = false := rfl
@[simp] theorem rd2 : cfg.read 2 = false := rfl
@[simp] theorem rd3 : cfg.read 3 = false := rfl
@[simp] theorem rd4 : cfg.read 4 = false := rfl
@[simp] theorem rd5 : cfg.read 5 = false := rfl
@[simp] theorem rd6 : cfg.read 6 = false := rfl
@[simp] theorem rd7 : cfg.read 7 = false := rfl
@[simp] theorem rd8 : cfg.read 8 = false := rfl
@[simp] theorem rd9 : cfg.read 9 = false := rfl
@[simp] theorem rd10 : cfg.read 10 = true := rfl
@[simp] theorem rd11 : cfg.read 11 = true := rfl
@[simp] theorem rd12 : cfg.read 12 = true := rfl
@[simp] theorem rd13 : cfg.read 13 = false := rfl
@[simp] theorem rd14 : cfg.read 14 = false := rfl
@[simp] theorem rd15 : cfg.read 15 = true := rfl
@[simp] theorem rd16 : cfg.read 16 = false := rfl
@[simp] theorem rd17 : cfg.read 17 = false := rfl
@[simp] theorem rd18 : cfg.read 18 = true := rfl
@[simp] theorem rd19 : cfg.read 19 = false := rfl
@[simp] theorem rd20 : cfg.read 20 = true := rfl
@[simp] theorem rd21 : cfg.read 21 = true := rfl
@[simp] theorem rd22 : cfg.read 22 = true := rfl
@[simp] theorem rd23 : cfg.read 23 = true := rfl
@[simp] theorem rd24 : cfg.read 24 = false := rfl
@[simp] theorem rd25 : cfg.read 25 = false := rfl
@[simp] theorem rd26 : cfg.read 26 = true := rfl
@[simp] theorem rd27 : cfg.read 27 = false := rfl
@[simp] theorem rd28 : cfg.read 28 = false := rfl
@[simp] theorem rd29 : cfg.read 29 = true := rfl
@[simp] theorem rd30 : cfg.read 30 = true := rfl
@[simp] theorem rd31 : cfg.read 31 = true := rfl
@[simp] theorem rd32 : cfg.read 32 = false := rfl
@[simp] theorem rd33 : cfg.read 33 = false := rfl
@[simp] theorem rd34 : cfg.read 34 = false := rfl
@[simp] theorem rd35 : cfg.read 35 = true := rfl
@[simp] theorem rd36 : cfg.read 36 = false := rfl
@[simp] theorem rd37 : cfg.read 37 = true := rfl
@[simp] theorem rd38 : cfg.read 38 = false := rfl
@[simp] theorem rd39 : cfg.read 39 = true := rfl
@[simp] theorem rd40 : cfg.read 40 = true := rfl
@[simp] theorem rd41 : cfg.read 41 = false := rfl
@[simp] theorem rd42 : cfg.read 42 = false := rfl
@[simp] theorem rd43 : cfg.read 43 = false := rfl
@[simp] theorem rd44 : cfg.read 44 = false := rfl
@[simp] theorem rd45 : cfg.read 45 = false := rfl
@[simp] theorem rd46 : cfg.read 46 = true := rfl
@[simp] theorem rd47 : cfg.read 47 = true := rfl
@[simp] theorem rd48 : cfg.read 48 = true := rfl
@[simp] theorem rd49 : cfg.read 49 = false := rfl
@[simp] theorem rd50 : cfg.read 50 = false := rfl
@[simp] theorem rd51 : cfg.read 51 = true := rfl
@[simp] theorem rd52 : cfg.read 52 = false := rfl
@[simp] theorem rd53 : cfg.read 53 = true := rfl
@[simp] theorem rd54 : cfg.read 54 = true := rfl
@[simp] theorem rd55 : cfg.read 55 = false := rfl
@[simp] theorem rd56 : cfg.read 56 = false := rfl
@[simp] theorem rd57 : cfg.read 57 = true := rfl
@[simp] theorem rd58 : cfg.read 58 = true := rfl
@[simp] theorem rd59 : cfg.read 59 = true := rfl
@[simp] theorem rd60 : cfg.read 60 = false := rfl
@[simp] theorem rd61 : cfg.read 61 = true := rfl
@[simp] theorem rd62 : cfg.read 62 = false := rfl
@[simp] theorem rd63 : cfg.read 63 = true := rfl
@[simp] theorem rd64 : cfg.read 64 = false := rfl
@[simp] theorem rd65 : cfg.read 65 = false := rfl
@[simp] theorem rd66 : cfg.read 66 = false := rfl
@[simp] theorem rd67 : cfg.read 67 = true := rfl
@[simp] theorem rd68 : cfg.read 68 = false := rfl
@[simp] theorem rd69 : cfg.read 69 = false := rfl
@[simp] theorem rd70 : cfg.read 70 = true := rfl
@[simp] theorem rd71 : cfg.read 71 = true := rfl
@[simp] theorem rd72 : cfg.read 72 = false := rfl
@[simp] theorem rd73 : cfg.read 73 = false := rfl
@[simp] theorem rd74 : cfg.read 74 = false := rfl
@[simp] theorem rd75 : cfg.read 75 = false := rfl
@[simp] theorem rd76 : cfg.read 76 = false := rfl
@[simp] theorem rd77 : cfg.read 77 = true := rfl
@[simp] theorem rd78 : cfg.read 78 = false := rfl
@[simp] theorem rd79 : cfg.read 79 = false := rfl
@[simp] theorem rd80 : cfg.read 80 = false := rfl
@[simp] theorem rd81 : cfg.read 81 = false := rfl
@[simp] theorem rd82 : cfg.read 82 = false := rfl
@[simp] theorem rd83 : cfg.read 83 = true := rfl
@[simp] theorem rd84 : cfg.read 84 = true := rfl
@[simp] theorem rd85 : cfg.read 85 = true := rfl
@[simp] theorem rd86 : cfg.read 86 = true := rfl
@[simp] theorem rd87 : cfg.read 87 = false := rfl
@[simp] theorem rd88 : cfg.read 88 = false := rfl
@[simp] theorem rd89 : cfg.read 89 = false := rfl
@[simp] theorem rd90 : cfg.read 90 = false := rfl
@[simp] theorem rd91 : cfg.read 91 = false := rfl
@[simp] theorem rd92 : cfg.read 92 = true := rfl
@[simp] theorem rd93 : cfg.read 93 = false := rfl
@[simp] theorem rd94 : cfg.read 94 = true := rfl
@[simp] theorem rd95 : cfg.read 95 = true := rfl
@[simp] theorem rd96 : cfg.read 96 = false := rfl
@[simp] theorem rd97 : cfg.read 97 = false := rfl
@[simp] theorem rd98 : cfg.read 98 = false := rfl
@[simp] theorem rd99 : cfg.read 99 = false := rfl
@[simp] theorem rd100 : cfg.read 100 = false := rfl
@[simp] theorem rd101 : cfg.read 101 = false := rfl
@[simp] theorem rd102 : cfg.read 102 = true := rfl
@[simp] theorem rd103 : cfg.read 103 = false := rfl
@[simp] theorem rd104 : cfg.read 104 = true := rfl
@[simp] theorem rd105 : cfg.read 105 = true := rfl
@[simp] theorem rd106 : cfg.read 106 = false := rfl
@[simp] theorem rd107 : cfg.read 107 = true := rfl
@[simp] theorem rd108 : cfg.read 108 = true := rfl
@[simp] theorem rd109 : cfg.read 109 = true := rfl
@[simp] theorem rd110 : cfg.read 110 = true := rfl
@[simp] theorem rd111 : cfg.read 111 = false := rfl
@[simp] theorem rd112 : cfg.read 112 = false := rfl
@[simp] theorem rd113 : cfg.read 113 = false := rfl
@[simp] theorem rd114 : cfg.read 114 = false := rfl
@[simp] theorem rd115 : cfg.read 115 = false := rfl
@[simp] theorem rd116 : cfg.read 116 = false := rfl
@[simp] theorem rd117 : cfg.read 117 = false := rfl
@[simp] theorem rd118 : cfg.read 118 = false := rfl
@[simp] theorem rd119 : cfg.read 119 = true := rfl
@[simp] theorem rd120 : cfg.read 120 = true := rfl
@[simp] theorem rd121 : cfg.read 121 = false := rfl
@[simp] theorem rd122 : cfg.read 122 = false := rfl
@[simp] theorem rd123 : cfg.read 123 = false := rfl
@[simp] theorem rd124 : cfg.read 124 = false := rfl
@[simp] theorem rd125 : cfg.read 125 = false := rfl
@[simp] theorem rd126 : cfg.read 126 = false := rfl
@[simp] theorem rd127 : cfg.read 127 = false := rfl
@[simp] theorem rd128 : cfg.read 128 = false := rfl
@[simp] theorem rd129 : cfg.read 129 = false := rfl
@[simp] theorem rd130 : cfg.read 130 = false := rfl
@[simp] theorem rd131 : cfg.read 131 = false := rfl
@[simp] theorem rd132 : cfg.read 132 = false := rfl
@[simp] theorem rd133 : cfg.read 133 = false := rfl
@[simp] theorem rd134 : cfg.read 134 = true := rfl
@[simp] theorem rd135 : cfg.read 135 = true := rfl
@[simp] theorem rd136 : cfg.read 136 = false := rfl
@[simp] theorem rd137 : cfg.read 137 = false := rfl
@[simp] theorem rd138 : cfg.read 138 = false := rfl
@[simp] theorem rd139 : cfg.read 139 = true := rfl
@[simp] theorem rd140 : cfg.read 140 = true := rfl
@[simp] theorem rd141 : cfg.read 141 = true := rfl
@[simp] theorem rd142 : cfg.read 142 = true := rfl
@[simp] theorem rd143 : cfg.read 143 = false := rfl
@[simp] theorem rd144 : cfg.read 144 = false := rfl
@[simp] theorem rd145 : cfg.read 145 = false := rfl
@[simp] theorem rd146 : cfg.read 146 = false := rfl
@[simp] theorem rd147 : cfg.read 147 = false := rfl
@[simp] theorem rd148 : cfg.read 148 = false := rfl
@[simp] theorem rd149 : cfg.read 149 = false := rfl
@[simp] theorem rd150 : cfg.read 150 = false := rfl
@[simp] theorem rd151 : cfg.read 151 = false := rfl
@[simp] theorem rd152 : cfg.read 152 = false := rfl
@[simp] theorem rd153 : cfg.read 153 = false := rfl
@[simp] theorem rd154 : cfg.read 154 = false := rfl
@[simp] theorem rd155 : cfg.read 155 = false := rfl
@[simp] theorem rd156 : cfg.read 156 = false := rfl
@[simp] theorem rd157 : cfg.read 157 = false := rfl
@[simp] theorem rd158 : cfg.read 158 = false := rfl
@[simp] theorem rd159 : cfg.read 159 = false := rfl
@[simp] theorem rd160 : cfg.read 160 = true := rfl
@[simp] theorem rd161 : cfg.read 161 = false := rfl
@[simp] theorem rd162 : cfg.read 162 = false := rfl
@[simp] theorem rd163 : cfg.read 163 = false := rfl
@[simp] theorem rd164 : cfg.read 164 = false := rfl
@[simp] theorem rd165 : cfg.read 165 = false := rfl
@[simp] theorem rd166 : cfg.read 166 = false := rfl
@[simp] theorem rd167 : cfg.read 167 = false := rfl
@[simp] theorem rd168 : cfg.read 168 = false := rfl
@[simp] theorem rd169 : cfg.read 169 = false := rfl
@[simp] theorem rd170 : cfg.read 170 = false := rfl
@[simp] theorem rd171 : cfg.read 171 = false := rfl
@[simp] theorem rd172 : cfg.read 172 = false := rfl
@[simp] theorem rd173 : cfg.read 173 = false := rfl
@[simp] theorem rd174 : cfg.read 174 = false := rfl
@[simp] theorem rd175 : cfg.read 175 = false := rfl
@[simp] theorem rd176 : cfg.read 176 = false := rfl
@[simp] theorem rd177 : cfg.read 177 = false := rfl
@[simp] theorem rd178 : cfg.read 178 = false := rfl
@[simp] theorem rd179 : cfg.read 179 = false := rfl
@[simp] theorem rd180 : cfg.read 180 = false := rfl
@[simp] theorem rd181 : cfg.read 181 = false := rfl
@[simp] theorem rd182 : cfg.read 182 = false := rfl
@[simp] theorem rd183 : cfg.read 183 = false := rfl
@[simp] theorem rd184 : cfg.read 184 = false := rfl
@[simp] theorem rd185 : cfg.read 185 = false := rfl
@[simp] theorem rd186 : cfg.read 186 = false := rfl
@[simp] theorem rd187 : cfg.read 187 = false := rfl
@[simp] theorem rd188 : cfg.read 188 = false := rfl
@[simp] theorem rd189 : cfg.read 189 = false := rfl
@[simp] theorem rd190 : cfg.read 190 = false := rfl
@[simp] theorem rd191 : cfg.read 191 = false := rfl
@[simp] theorem lz0 : cfg.live 0 = [] := rfl
@[simp] theorem lz1 : cfg.live 1 = [] := rfl
@[simp] theorem lz2 : cfg.live 2 = [] := rfl
@[simp] theorem lz5 : cfg.live 5 = [] := rfl
@[simp] theorem lz6 : cfg.live 6 = [] := rfl
@[simp] theorem lz9 : cfg.live 9 = [] := rfl
@[simp] theorem lz10 : cfg.live 10 = [] := rfl
@[simp] theorem lz11 : cfg.live 11 = [] := rfl
@[simp] theorem lz20 : cfg.live 20 = [] := rfl
@[simp] theorem lz21 : cfg.live 21 = [] := rfl
@[simp] theorem lz24 : cfg.live 24 = [] := rfl
@[simp] theorem lz26 : cfg.live 26 = [] := rfl
@[simp] theorem lz30 : cfg.live 30 = [] := rfl
@[simp] theorem lz31 : cfg.live 31 = [] := rfl
@[simp] theorem lz35 : cfg.live 35 = [] := rfl
@[simp] theorem lz36 : cfg.live 36 = [] := rfl
@[simp] theorem lz38 : cfg.live 38 = [] := rfl
@[simp] theorem lz41 : cfg.live 41 = [] := rfl
@[simp] theorem lz54 : cfg.live 54 = [] := rfl
@[simp] theorem lz56 : cfg.live 56 = [] := rfl
@[simp] theorem lz61 : cfg.live 61 = [] := rfl
@[simp] theorem lz62 : cfg.live 62 = [] := rfl
@[simp] theorem lz64 : cfg.live 64 = [] := rfl
@[simp] theorem lz65 : cfg.live 65 = [] := rfl
@[simp] theorem lz67 : cfg.live 67 = [] := rfl
@[simp] theorem lz72 : cfg.live 72 = [] := rfl
@[simp] theorem lz78 : cfg.live 78 = [] := rfl
@[simp] theorem lz81 : cfg.live 81 = [] := rfl
@[simp] theorem lz82 : cfg.live 82 = [] := rfl
@[simp] theorem lz88 : cfg.live 88 = [] := rfl
@[simp] theorem lz92 : cfg.live 92 = [] := rfl
@[simp] theorem lz97 : cfg.live 97 = [] := rfl
@[simp] theorem lz102 : cfg.live 102 = [] := rfl
@[simp] theorem lz107 : cfg.live 107 = [] := rfl
@[simp] theorem lz108 : cfg.live 108 = [] := rfl
@[simp] theorem lz109 : cfg.live 109 = [] := rfl
@[simp] theorem lz110 : cfg.live 110 = [] := rfl
@[simp] theorem lz112 : cfg.live 112 = [] := rfl
@[simp] theorem lz113 : cfg.live 113 = [] := rfl
@[simp] theorem lz114 : cfg.live 114 = [] := rfl
@[simp] theorem lz115 : cfg.live 115 = [] := rfl
@[simp] theorem lz116 : cfg.live 116 = [] := rfl
@[simp] theorem lz118 : cfg.live 118 = [] := rfl
@[simp] theorem lz124 : cfg.live 124 = [] := rfl
@[simp] theorem lz127 : cfg.live 127 = [] := rfl
@[simp] theorem lz130 : cfg.live 130 = [] := rfl
@[simp] theorem lz131 : cfg.live 131 = [] := rfl
@[simp] theorem lz133 : cfg.live 133 = [] := rfl
@[simp] theorem lz134 : cfg.live 134 = [] := rfl
@[simp] theorem lz135 : cfg.live 135 = [] := rfl
@[simp] theorem lz136 : cfg.live 136 = [] := rfl
@[simp] theorem lz141 : cfg.live 141 = [] := rfl
@[simp] theorem lz142 : cfg.live 142 = [] := rfl
@[simp] theorem lz144 : cfg.live 144 = [] := rfl
@[simp] theorem lz146 : cfg.live 146 = [] := rfl
@[simp] theorem lz147 : cfg.live 147 = [] := rfl
@[simp] theorem lz148 : cfg.live 148 = [] := rfl
@[simp] theorem lz149 : cfg.live 149 = [] := rfl
@[simp] theorem lz150 : cfg.live 150 = [] := rfl
@[simp] theorem lz151 : cfg.live 151 = [] := rfl
@[simp] theorem lz152 : cfg.live 152 = [] := rfl
@[simp] theorem lz155 : cfg.live 155 = [] := rfl
@[simp] theorem lz157 : cfg.live 157 = [] := rfl
@[simp] theorem lz158 : cfg.live 158 = [] := rfl
@[simp] theorem lz159 : cfg.live 159 = [] := rfl
@[simp] theorem lz160 : cfg.live 160 = [] := rfl
@[simp] theorem lz161 : cfg.live 161 = [] := rfl
@[simp] theorem lz164 : cfg.live 164 = [] := rfl
@[simp] theorem lz167 : cfg.live 167 = [] := rfl
@[simp] theorem lz168 : cfg.live 168 = [] := rfl
@[simp] theorem lz169 : cfg.live 169 = [] := rfl
@[simp] theorem lz171 : cfg.live 171 = [] := rfl
@[simp] theorem lz172 : cfg.live 172 = [] := rfl
@[simp] theorem lz174 : cfg.live 174 = [] := rfl
@[simp] theorem lz176 : cfg.live 176 = [] := rfl
@[simp] theorem lz177 : cfg.live 177 = [] := rfl
@[simp] theorem lz178 : cfg.live 178 = [] := rfl
@[simp] theorem lz179 : cfg.live 179 = [] := rfl
@[simp] theorem lz180 : cfg.live 180 = [] := rfl
@[simp] theorem lz181 : cfg.live 181 = [] := rfl
@[simp] theorem lz182 : cfg.live 182 = [] := rfl
@[simp] theorem lz183 : cfg.live 183 = [] := rfl
@[simp] theorem lz184 : cfg.live 184 = [] := rfl
@[simp] theorem lz185 : cfg.live 185 = [] := rfl
@[simp] theorem lz186 : cfg.live 186 = [] := rfl
@[simp] theorem lz187 : cfg.live 187 = [] := rfl
@[simp] theorem lz188 : cfg.live 188 = [] := rfl
@[simp] theorem lz189 : cfg.live 189 = [] := rfl
@[simp] theorem lz190 : cfg.live 190 = [] := rfl
@[simp] theorem lz191 : cfg.live 191 = [] := rfl
theorem lv18 : cfg.live 18 = [(1, .b []), (2, .b []), (3, .p), (5, .p), (4, .p), (6, .b []), (7, .p), (1006, .x 9), (1007, .x 9), (1005, .x 5), (1004, .x 5)] := rfl
theorem lv33 : cfg.live 33 = [(1, .b []), (3, .p), (6, .p), (9, .p), (8, .s 1 []), (4, .p), (7, .p), (5, .s 1 []), (1008, .x 13), (1009, .x 13), (1007, .x 13)] := rfl
theorem lv34 : cfg.live 34 = [(1, .p), (2, .p), (0, .p)] := rfl
theorem lv40 : cfg.live 40 = [(0, .p), (1, .p), (5, .p), (4, .p)] := rfl
theorem lv45 : cfg.live 45 = [(7, .p), (6, .p), (5, .s 1 [])] := rfl
theorem lv46 : cfg.live 46 = [(5, .p), (0, .p), (1, .p), (4, .p)] := rfl
theorem lv70 : cfg.live 70 = [(0, .p), (8, .p), (7, .p), (1, .p), (4, .p)] := rfl
theorem lv71 : cfg.live 71 = [(1, .b []), (4, .p), (3, .p), (5, .p), (2, .p), (1005, .x 6)] := rfl
theorem lv73 : cfg.live 73 = [(2, .r 1), (3, .b [0, 2, 2])] := rfl
theorem lv74 : cfg.live 74 = [(1, .b []), (3, .s 1 []), (13, .p), (12, .p), (23, .p), (22, .p), (21, .p)] := rfl
theorem lv75 : cfg.live 75 = [(15, .p), (14, .p), (13, .p), (22, .p), (21, .p), (20, .p), (4, .p), (3, .s 1 [2])] := rfl
theorem lv76 : cfg.live 76 = [(2, .p), (3, .p), (1, .p), (0, .p)] := rfl
theorem lv77 : cfg.live 77 = [(0, .p), (1, .p), (13, .p), (12, .p), (4, .p)] := rfl
theorem lv79 : cfg.live 79 = [(4, .p), (1, .b []), (3, .s 1 [])] := rfl
theorem lv80 : cfg.live 80 = [(2, .p), (7, .s 1 []), (8, .p), (9, .p), (1, .p), (12, .p), (3, .b []), (11, .s 1 []), (1009, .x 6), (1008, .x 13)] := rfl
theorem lv98 : cfg.live 98 = [(15, .p), (14, .p), (13, .p), (28, .p), (27, .p), (26, .p), (4, .p), (3, .s 1 [2])] := rfl
theorem lv99 : cfg.live 99 = [(0, .p), (1, .p), (20, .p), (19, .p), (18, .p)] := rfl
theorem lv100 : cfg.live 100 = [(0, .p), (2, .p), (3, .p)] := rfl
theorem lv101 : cfg.live 101 = [(2, .p), (1, .p), (0, .p), (3, .p), (8, .p), (9, .p)] := rfl
theorem lv121 : cfg.live 121 = [(1, .p), (6, .p), (2, .p), (7, .p), (0, .p)] := rfl
end Go.Proofs.Ytdkknhpdjcdmfaa.Abs
