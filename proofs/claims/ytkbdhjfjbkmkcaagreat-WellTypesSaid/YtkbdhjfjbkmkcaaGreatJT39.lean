/- Which temporaries are carried round loops, function by function, and of which kind; which functions hand back what they made as it is. Printed by cfg.py. -/
import Derived.Test.YtkbdhjfjbkmkcaaGreatJT36
import Derived.Test.YtkbdhjfjbkmkcaaGreatJT38
namespace Go.Proofs.YtkbdhjfjbkmkcaaGreat.Abs
open Go

def liveTab : List (List (Nat × Kd)) := [[],
  [],
  [],
  [],
  [(3, .b []), (11, .p), (2, .p), (6, .p)],
  [(2, .p), (9, .p), (7, .b []), (8, .s 1 []), (12, .p), (10, .p), (13, .p), (15, .p), (14, .b []), (11, .p), (6, .p)],
  [],
  [(1, .b []), (3, .p), (2, .p)],
  [],
  [],
  [(2, .b []), (4, .b []), (7, .p), (1, .p)],
  [],
  [],
  [(6, .p), (2, .b []), (1, .p), (4, .b []), (5, .p)],
  [(2, .b []), (3, .b []), (5, .p), (6, .p), (4, .p)],
  [(1, .b []), (15, .p), (14, .p), (13, .p), (3, .m), (27, .p), (26, .p), (25, .p), (33, .p), (32, .p), (31, .p), (1015, .x 7), (1014, .x 7), (1013, .x 7), (1033, .x 17), (1032, .x 17), (1031, .x 17)],
  [],
  [(5, .p), (0, .p), (1, .p), (4, .p)],
  [],
  [(7, .p), (6, .p), (5, .s 1 [])],
  [(2, .b []), (3, .b []), (4, .p), (6, .b []), (7, .b [6])],
  [(3, .p), (1, .b []), (4, .p), (5, .p), (2, .p)],
  [(2, .b []), (6, .p), (5, .p), (1, .p), (7, .b []), (8, .p), (9, .p), (1007, .x 4), (1008, .x 4), (1009, .x 9)],
  [(2, .b []), (4, .b []), (37, .p), (36, .p), (35, .p), (1, .p)],
  [(4, .p), (1, .b []), (5, .b []), (2, .b []), (7, .p), (8, .p), (3, .p), (1005, .x 4), (1007, .x 4), (1008, .x 11)],
  [(3, .p), (1, .b []), (4, .p), (2, .b []), (1004, .x 3)],
  [(4, .b []), (6, .b []), (8, .p), (9, .p), (2, .p), (12, .p), (13, .p), (3, .b []), (15, .p), (14, .p), (11, .p), (1009, .x 8), (1013, .x 18), (1014, .x 21), (1015, .x 21)],
  [(0, .p), (8, .p), (7, .p), (1, .p), (4, .p)],
  [],
  [(0, .p), (1, .p), (5, .p), (4, .p)],
  [],
  [],
  [(1, .p), (4, .b []), (8, .b []), (9, .p), (2, .p), (10, .p), (3, .p), (1010, .x 5)],
  [],
  [(0, .p), (3, .b []), (5, .p), (4, .s 2 []), (7, .p), (2, .s 2 [])],
  [],
  [(0, .p), (3, .b [0, 2, 0, 2]), (2, .b [])],
  [(17, .p), (16, .p), (15, .p), (5, .b []), (6, .p), (2, .b []), (57, .p), (56, .p), (55, .p), (70, .p), (69, .p), (68, .p), (76, .p), (75, .p), (74, .p), (3, .p)],
  [(1, .b []), (12, .p), (11, .p), (10, .p), (3, .m), (2, .b [])],
  [],
  [(0, .p), (23, .p), (22, .p), (21, .p), (42, .p), (41, .p), (40, .p), (49, .p), (48, .p), (47, .p), (2, .b []), (5, .p), (14, .m)],
  [(0, .p), (19, .p), (18, .p), (17, .p), (26, .p), (25, .p), (24, .p), (6, .b []), (8, .p), (2, .b []), (46, .p), (45, .p), (44, .p), (7, .p), (3, .p), (5, .p)],
  [(2, .b []), (5, .p), (4, .p)],
  [(1, .b []), (5, .p), (6, .p), (2, .p)],
  [(1, .b []), (2, .b []), (3, .p), (5, .p), (4, .p), (6, .b []), (7, .p), (1006, .x 9), (1007, .x 9), (1005, .x 5), (1004, .x 5)],
  [],
  [],
  [(1, .b []), (3, .p), (6, .p), (9, .p), (8, .s 1 []), (4, .p), (7, .p), (5, .s 1 []), (1008, .x 13), (1009, .x 13), (1007, .x 13)],
  [],
  [],
  [],
  [],
  [(5, .p), (1, .p), (0, .p), (4, .p)],
  [],
  [],
  [],
  [],
  [],
  [(0, .p), (5, .s 8 [])],
  [],
  [(17, .p), (16, .p), (15, .p), (2, .p)],
  [],
  [],
  [],
  [(1, .b []), (2, .b []), (15, .p), (14, .p), (13, .p), (4, .p), (22, .p), (21, .p), (20, .p), (3, .p)],
  [(15, .p), (14, .p), (13, .p), (22, .p), (21, .p), (20, .p), (4, .p), (3, .s 1 [2])],
  [(1, .b []), (3, .s 1 []), (13, .p), (12, .p), (23, .p), (22, .p), (21, .p)],
  [(1, .b []), (3, .p), (35, .p), (34, .p), (9, .s 1 []), (6, .p), (67, .p), (66, .p), (65, .p), (8, .p), (11, .p), (76, .p), (75, .p), (74, .p), (12, .p), (7, .p), (116, .p), (115, .p), (114, .p), (174, .p), (173, .p), (172, .p), (4, .b2 [(2, []), (2, []), (2, [2])])],
  [],
  [(7, .b []), (55, .p), (54, .p), (53, .p), (9, .m), (67, .p), (66, .p), (65, .p)],
  [],
  [],
  [(0, .p), (3, .p), (2, .p)],
  [],
  [],
  [],
  [(0, .p), (2, .b []), (5, .p), (4, .p), (3, .p)],
  [],
  [(3, .p), (5, .p), (4, .s 1 [])],
  [(4, .p), (1, .b []), (6, .p), (5, .s 1 []), (3, .s 1 []), (1005, .x 4), (1006, .x 4)],
  [(7, .b []), (8, .p), (9, .p), (6, .p)],
  [],
  [(4, .p), (1, .b []), (3, .s 1 [])],
  [(2, .p), (7, .s 1 []), (8, .p), (9, .p), (1, .p), (12, .p), (3, .b []), (11, .s 1 []), (1009, .x 6), (1008, .x 13)],
  [],
  [],
  [],
  [(0, .p), (4, .p), (3, .p)],
  [],
  [],
  [(9, .p), (8, .p), (3, .s 1 [])],
  [],
  [(1, .b []), (12, .p), (11, .p), (10, .p), (23, .p), (22, .p), (21, .p), (2, .p)],
  [(0, .p), (8, .p), (7, .p), (1, .p), (4, .p)],
  [],
  [],
  [],
  [(15, .p), (14, .p), (13, .p), (28, .p), (27, .p), (26, .p), (4, .p), (3, .s 1 [2])],
  [(2, .r 1), (3, .b [0, 2, 2])],
  [(2, .p), (3, .p), (1, .p), (0, .p)],
  [(0, .p), (1, .p), (13, .p), (12, .p), (4, .p)],
  [],
  [(7, .s 1 []), (8, .p)],
  [(1, .p), (2, .p), (0, .p)],
  [],
  [(4, .p), (0, .p), (3, .p)],
  [(9, .s 1 []), (1, .p), (4, .b []), (12, .p), (11, .p), (10, .p)],
  [],
  [(0, .p), (4, .p), (5, .p), (2, .p), (3, .p)],
  [],
  [],
  [(0, .p), (2, .b []), (5, .p), (4, .b []), (3, .p)],
  [(0, .p), (8, .p), (7, .p), (1, .p), (4, .p)],
  [(0, .p), (1, .p), (20, .p), (19, .p), (18, .p)],
  [(0, .p), (2, .p), (3, .p)],
  [(2, .p), (1, .p), (0, .p), (3, .p), (8, .p), (9, .p)],
  [],
  [],
  [],
  [],
  [],
  [(0, .p), (5, .b [0, 0, 0, 0, 2, 2]), (4, .b [])],
  [(0, .p), (5, .b [0, 0, 0, 0, 2]), (4, .b [])],
  [],
  [(8, .p), (2, .p), (0, .p), (7, .b [0, 0, 0, 0, 2, 2]), (6, .b [])],
  [(0, .p), (4, .p), (3, .p)],
  [],
  [(1, .p), (6, .p), (2, .p), (7, .p), (0, .p)],
  [(8, .p), (9, .p), (0, .p), (6, .p), (10, .p), (7, .p)],
  [(1, .p), (6, .p), (9, .p), (7, .b []), (8, .p), (0, .p)],
  [],
  [(6, .p), (7, .p), (0, .p)],
  [(1, .p), (8, .p), (7, .p), (2, .p), (0, .p), (9, .p), (10, .p), (6, .p)],
  [],
  [(0, .p), (1, .p), (9, .p), (10, .p)],
  [(0, .p), (1, .p), (10, .p), (11, .p)],
  [],
  [],
  [],
  [],
  [],
  [],
  [],
  [(4, .p), (5, .p), (7, .p), (6, .p)],
  [],
  [],
  [(8, .p), (2, .p), (0, .p), (3, .p)],
  [],
  [],
  [],
  [],
  [],
  [(0, .p), (3, .p), (2, .p)],
  [],
  [],
  [(5, .p), (0, .p), (1, .p), (4, .p)],
  [],
  [],
  [],
  [],
  [],
  [],
  [],
  [],
  [],
  [],
  [],
  [],
  [],
  [],
  [],
  [],
  []]

def bwdTab : List BW := []

def cfg : Cfg := ⟨fun f => if [].contains f then 1 else 0, fun f => liveTab.getD f [], fun f => [7, 8, 10, 14, 16, 17, 18, 21, 22, 24, 25, 26, 27, 29, 30, 31, 32, 37, 42, 43, 44, 45, 46, 48, 49, 51, 62, 63, 64, 74, 80, 81, 84, 85, 89, 92, 93, 100, 108, 116, 119].contains f, fun _ _ => none⟩
@[simp] theorem rd0 : cfg.read 0 = false := rfl
@[simp] theorem rd1 : cfg.read 1 = false := rfl
@[simp] theorem rd2 : cfg.read 2 = false := rfl
@[simp] theorem rd3 : cfg.read 3 = false := rfl
@[simp] theorem rd4 : cfg.read 4 = false := rfl
@[simp] theorem rd5 : cfg.read 5 = false := rfl
@[simp] theorem rd6 : cfg.read 6 = false := rfl
@[simp] theorem rd7 : cfg.read 7 = true := rfl
@[simp] theorem rd8 : cfg.read 8 = true := rfl
@[simp] theorem rd9 : cfg.read 9 = false := rfl
@[simp] theorem rd10 : cfg.read 10 = true := rfl
@[simp] theorem rd11 : cfg.read 11 = false := rfl
@[simp] theorem rd12 : cfg.read 12 = false := rfl
@[simp] theorem rd13 : cfg.read 13 = false := rfl
@[simp] theorem rd14 : cfg.read 14 = true := rfl
@[simp] theorem rd15 : cfg.read 15 = false := rfl
@[simp] theorem rd16 : cfg.read 16 = true := rfl
@[simp] theorem rd17 : cfg.read 17 = true := rfl
@[simp] theorem rd18 : cfg.read 18 = true := rfl
@[simp] theorem rd19 : cfg.read 19 = false := rfl
@[simp] theorem rd20 : cfg.read 20 = false := rfl
@[simp] theorem rd21 : cfg.read 21 = true := rfl
@[simp] theorem rd22 : cfg.read 22 = true := rfl
@[simp] theorem rd23 : cfg.read 23 = false := rfl
@[simp] theorem rd24 : cfg.read 24 = true := rfl
@[simp] theorem rd25 : cfg.read 25 = true := rfl
@[simp] theorem rd26 : cfg.read 26 = true := rfl
@[simp] theorem rd27 : cfg.read 27 = true := rfl
@[simp] theorem rd28 : cfg.read 28 = false := rfl
@[simp] theorem rd29 : cfg.read 29 = true := rfl
@[simp] theorem rd30 : cfg.read 30 = true := rfl
@[simp] theorem rd31 : cfg.read 31 = true := rfl
@[simp] theorem rd32 : cfg.read 32 = true := rfl
@[simp] theorem rd33 : cfg.read 33 = false := rfl
@[simp] theorem rd34 : cfg.read 34 = false := rfl
@[simp] theorem rd35 : cfg.read 35 = false := rfl
@[simp] theorem rd36 : cfg.read 36 = false := rfl
@[simp] theorem rd37 : cfg.read 37 = true := rfl
@[simp] theorem rd38 : cfg.read 38 = false := rfl
@[simp] theorem rd39 : cfg.read 39 = false := rfl
@[simp] theorem rd40 : cfg.read 40 = false := rfl
@[simp] theorem rd41 : cfg.read 41 = false := rfl
@[simp] theorem rd42 : cfg.read 42 = true := rfl
@[simp] theorem rd43 : cfg.read 43 = true := rfl
@[simp] theorem rd44 : cfg.read 44 = true := rfl
@[simp] theorem rd45 : cfg.read 45 = true := rfl
@[simp] theorem rd46 : cfg.read 46 = true := rfl
@[simp] theorem rd47 : cfg.read 47 = false := rfl
@[simp] theorem rd48 : cfg.read 48 = true := rfl
@[simp] theorem rd49 : cfg.read 49 = true := rfl
@[simp] theorem rd50 : cfg.read 50 = false := rfl
@[simp] theorem rd51 : cfg.read 51 = true := rfl
@[simp] theorem rd52 : cfg.read 52 = false := rfl
@[simp] theorem rd53 : cfg.read 53 = false := rfl
@[simp] theorem rd54 : cfg.read 54 = false := rfl
@[simp] theorem rd55 : cfg.read 55 = false := rfl
@[simp] theorem rd56 : cfg.read 56 = false := rfl
@[simp] theorem rd57 : cfg.read 57 = false := rfl
@[simp] theorem rd58 : cfg.read 58 = false := rfl
@[simp] theorem rd59 : cfg.read 59 = false := rfl
@[simp] theorem rd60 : cfg.read 60 = false := rfl
@[simp] theorem rd61 : cfg.read 61 = false := rfl
@[simp] theorem rd62 : cfg.read 62 = true := rfl
@[simp] theorem rd63 : cfg.read 63 = true := rfl
@[simp] theorem rd64 : cfg.read 64 = true := rfl
@[simp] theorem rd65 : cfg.read 65 = false := rfl
@[simp] theorem rd66 : cfg.read 66 = false := rfl
@[simp] theorem rd67 : cfg.read 67 = false := rfl
@[simp] theorem rd68 : cfg.read 68 = false := rfl
@[simp] theorem rd69 : cfg.read 69 = false := rfl
@[simp] theorem rd70 : cfg.read 70 = false := rfl
@[simp] theorem rd71 : cfg.read 71 = false := rfl
@[simp] theorem rd72 : cfg.read 72 = false := rfl
@[simp] theorem rd73 : cfg.read 73 = false := rfl
@[simp] theorem rd74 : cfg.read 74 = true := rfl
@[simp] theorem rd75 : cfg.read 75 = false := rfl
@[simp] theorem rd76 : cfg.read 76 = false := rfl
@[simp] theorem rd77 : cfg.read 77 = false := rfl
@[simp] theorem rd78 : cfg.read 78 = false := rfl
@[simp] theorem rd79 : cfg.read 79 = false := rfl
@[simp] theorem rd80 : cfg.read 80 = true := rfl
@[simp] theorem rd81 : cfg.read 81 = true := rfl
@[simp] theorem rd82 : cfg.read 82 = false := rfl
@[simp] theorem rd83 : cfg.read 83 = false := rfl
@[simp] theorem rd84 : cfg.read 84 = true := rfl
@[simp] theorem rd85 : cfg.read 85 = true := rfl
@[simp] theorem rd86 : cfg.read 86 = false := rfl
@[simp] theorem rd87 : cfg.read 87 = false := rfl
@[simp] theorem rd88 : cfg.read 88 = false := rfl
@[simp] theorem rd89 : cfg.read 89 = true := rfl
@[simp] theorem rd90 : cfg.read 90 = false := rfl
@[simp] theorem rd91 : cfg.read 91 = false := rfl
@[simp] theorem rd92 : cfg.read 92 = true := rfl
@[simp] theorem rd93 : cfg.read 93 = true := rfl
@[simp] theorem rd94 : cfg.read 94 = false := rfl
@[simp] theorem rd95 : cfg.read 95 = false := rfl
@[simp] theorem rd96 : cfg.read 96 = false := rfl
@[simp] theorem rd97 : cfg.read 97 = false := rfl
@[simp] theorem rd98 : cfg.read 98 = false := rfl
@[simp] theorem rd99 : cfg.read 99 = false := rfl
@[simp] theorem rd100 : cfg.read 100 = true := rfl
@[simp] theorem rd101 : cfg.read 101 = false := rfl
@[simp] theorem rd102 : cfg.read 102 = false := rfl
@[simp] theorem rd103 : cfg.read 103 = false := rfl
@[simp] theorem rd104 : cfg.read 104 = false := rfl
@[simp] theorem rd105 : cfg.read 105 = false := rfl
@[simp] theorem rd106 : cfg.read 106 = false := rfl
@[simp] theorem rd107 : cfg.read 107 = false := rfl
@[simp] theorem rd108 : cfg.read 108 = true := rfl
@[simp] theorem rd109 : cfg.read 109 = false := rfl
@[simp] theorem rd110 : cfg.read 110 = false := rfl
@[simp] theorem rd111 : cfg.read 111 = false := rfl
@[simp] theorem rd112 : cfg.read 112 = false := rfl
@[simp] theorem rd113 : cfg.read 113 = false := rfl
@[simp] theorem rd114 : cfg.read 114 = false := rfl
@[simp] theorem rd115 : cfg.read 115 = false := rfl
@[simp] theorem rd116 : cfg.read 116 = true := rfl
@[simp] theorem rd117 : cfg.read 117 = false := rfl
@[simp] theorem rd118 : cfg.read 118 = false := rfl
@[simp] theorem rd119 : cfg.read 119 = true := rfl
@[simp] theorem rd120 : cfg.read 120 = false := rfl
@[simp] theorem rd121 : cfg.read 121 = false := rfl
@[simp] theorem rd122 : cfg.read 122 = false := rfl
@[simp] theorem rd123 : cfg.read 123 = false := rfl
@[simp] theorem rd124 : cfg.read 124 = false := rfl
@[simp] theorem rd125 : cfg.read 125 = false := rfl
@[simp] theorem rd126 : cfg.read 126 = false := rfl
@[simp] theorem rd127 : cfg.read 127 = false := rfl
@[simp] theorem rd128 : cfg.read 128 = false := rfl
@[simp] theorem rd129 : cfg.read 129 = false := rfl
@[simp] theorem rd130 : cfg.read 130 = false := rfl
@[simp] theorem rd131 : cfg.read 131 = false := rfl
@[simp] theorem rd132 : cfg.read 132 = false := rfl
@[simp] theorem rd133 : cfg.read 133 = false := rfl
@[simp] theorem rd134 : cfg.read 134 = false := rfl
@[simp] theorem rd135 : cfg.read 135 = false := rfl
@[simp] theorem rd136 : cfg.read 136 = false := rfl
@[simp] theorem rd137 : cfg.read 137 = false := rfl
@[simp] theorem rd138 : cfg.read 138 = false := rfl
@[simp] theorem rd139 : cfg.read 139 = false := rfl
@[simp] theorem rd140 : cfg.read 140 = false := rfl
@[simp] theorem rd141 : cfg.read 141 = false := rfl
@[simp] theorem rd142 : cfg.read 142 = false := rfl
@[simp] theorem rd143 : cfg.read 143 = false := rfl
@[simp] theorem rd144 : cfg.read 144 = false := rfl
@[simp] theorem rd145 : cfg.read 145 = false := rfl
@[simp] theorem rd146 : cfg.read 146 = false := rfl
@[simp] theorem rd147 : cfg.read 147 = false := rfl
@[simp] theorem rd148 : cfg.read 148 = false := rfl
@[simp] theorem rd149 : cfg.read 149 = false := rfl
@[simp] theorem rd150 : cfg.read 150 = false := rfl
@[simp] theorem rd151 : cfg.read 151 = false := rfl
@[simp] theorem rd152 : cfg.read 152 = false := rfl
@[simp] theorem rd153 : cfg.read 153 = false := rfl
@[simp] theorem rd154 : cfg.read 154 = false := rfl
@[simp] theorem rd155 : cfg.read 155 = false := rfl
@[simp] theorem rd156 : cfg.read 156 = false := rfl
@[simp] theorem rd157 : cfg.read 157 = false := rfl
@[simp] theorem rd158 : cfg.read 158 = false := rfl
@[simp] theorem rd159 : cfg.read 159 = false := rfl
@[simp] theorem rd160 : cfg.read 160 = false := rfl
@[simp] theorem rd161 : cfg.read 161 = false := rfl
@[simp] theorem rd162 : cfg.read 162 = false := rfl
@[simp] theorem rd163 : cfg.read 163 = false := rfl
@[simp] theorem rd164 : cfg.read 164 = false := rfl
@[simp] theorem rd165 : cfg.read 165 = false := rfl
@[simp] theorem rd166 : cfg.read 166 = false := rfl
@[simp] theorem rd167 : cfg.read 167 = false := rfl
@[simp] theorem rd168 : cfg.read 168 = false := rfl
@[simp] theorem rd169 : cfg.read 169 = false := rfl
@[simp] theorem rd170 : cfg.read 170 = false := rfl
@[simp] theorem rd171 : cfg.read 171 = false := rfl
@[simp] theorem rd172 : cfg.read 172 = false := rfl
@[simp] theorem lz0 : cfg.live 0 = [] := rfl
@[simp] theorem lz1 : cfg.live 1 = [] := rfl
@[simp] theorem lz2 : cfg.live 2 = [] := rfl
@[simp] theorem lz3 : cfg.live 3 = [] := rfl
@[simp] theorem lz6 : cfg.live 6 = [] := rfl
@[simp] theorem lz8 : cfg.live 8 = [] := rfl
@[simp] theorem lz9 : cfg.live 9 = [] := rfl
@[simp] theorem lz11 : cfg.live 11 = [] := rfl
@[simp] theorem lz12 : cfg.live 12 = [] := rfl
@[simp] theorem lz16 : cfg.live 16 = [] := rfl
@[simp] theorem lz18 : cfg.live 18 = [] := rfl
@[simp] theorem lz28 : cfg.live 28 = [] := rfl
@[simp] theorem lz30 : cfg.live 30 = [] := rfl
@[simp] theorem lz31 : cfg.live 31 = [] := rfl
@[simp] theorem lz33 : cfg.live 33 = [] := rfl
@[simp] theorem lz35 : cfg.live 35 = [] := rfl
@[simp] theorem lz39 : cfg.live 39 = [] := rfl
@[simp] theorem lz45 : cfg.live 45 = [] := rfl
@[simp] theorem lz46 : cfg.live 46 = [] := rfl
@[simp] theorem lz48 : cfg.live 48 = [] := rfl
@[simp] theorem lz49 : cfg.live 49 = [] := rfl
@[simp] theorem lz50 : cfg.live 50 = [] := rfl
@[simp] theorem lz51 : cfg.live 51 = [] := rfl
@[simp] theorem lz53 : cfg.live 53 = [] := rfl
@[simp] theorem lz54 : cfg.live 54 = [] := rfl
@[simp] theorem lz55 : cfg.live 55 = [] := rfl
@[simp] theorem lz56 : cfg.live 56 = [] := rfl
@[simp] theorem lz57 : cfg.live 57 = [] := rfl
@[simp] theorem lz59 : cfg.live 59 = [] := rfl
@[simp] theorem lz61 : cfg.live 61 = [] := rfl
@[simp] theorem lz62 : cfg.live 62 = [] := rfl
@[simp] theorem lz63 : cfg.live 63 = [] := rfl
@[simp] theorem lz68 : cfg.live 68 = [] := rfl
@[simp] theorem lz70 : cfg.live 70 = [] := rfl
@[simp] theorem lz71 : cfg.live 71 = [] := rfl
@[simp] theorem lz73 : cfg.live 73 = [] := rfl
@[simp] theorem lz74 : cfg.live 74 = [] := rfl
@[simp] theorem lz75 : cfg.live 75 = [] := rfl
@[simp] theorem lz77 : cfg.live 77 = [] := rfl
@[simp] theorem lz81 : cfg.live 81 = [] := rfl
@[simp] theorem lz84 : cfg.live 84 = [] := rfl
@[simp] theorem lz85 : cfg.live 85 = [] := rfl
@[simp] theorem lz86 : cfg.live 86 = [] := rfl
@[simp] theorem lz88 : cfg.live 88 = [] := rfl
@[simp] theorem lz89 : cfg.live 89 = [] := rfl
@[simp] theorem lz91 : cfg.live 91 = [] := rfl
@[simp] theorem lz94 : cfg.live 94 = [] := rfl
@[simp] theorem lz95 : cfg.live 95 = [] := rfl
@[simp] theorem lz96 : cfg.live 96 = [] := rfl
@[simp] theorem lz101 : cfg.live 101 = [] := rfl
@[simp] theorem lz104 : cfg.live 104 = [] := rfl
@[simp] theorem lz107 : cfg.live 107 = [] := rfl
@[simp] theorem lz109 : cfg.live 109 = [] := rfl
@[simp] theorem lz110 : cfg.live 110 = [] := rfl
@[simp] theorem lz116 : cfg.live 116 = [] := rfl
@[simp] theorem lz117 : cfg.live 117 = [] := rfl
@[simp] theorem lz118 : cfg.live 118 = [] := rfl
@[simp] theorem lz119 : cfg.live 119 = [] := rfl
@[simp] theorem lz120 : cfg.live 120 = [] := rfl
@[simp] theorem lz123 : cfg.live 123 = [] := rfl
@[simp] theorem lz126 : cfg.live 126 = [] := rfl
@[simp] theorem lz130 : cfg.live 130 = [] := rfl
@[simp] theorem lz133 : cfg.live 133 = [] := rfl
@[simp] theorem lz136 : cfg.live 136 = [] := rfl
@[simp] theorem lz137 : cfg.live 137 = [] := rfl
@[simp] theorem lz138 : cfg.live 138 = [] := rfl
@[simp] theorem lz139 : cfg.live 139 = [] := rfl
@[simp] theorem lz140 : cfg.live 140 = [] := rfl
@[simp] theorem lz141 : cfg.live 141 = [] := rfl
@[simp] theorem lz142 : cfg.live 142 = [] := rfl
@[simp] theorem lz144 : cfg.live 144 = [] := rfl
@[simp] theorem lz145 : cfg.live 145 = [] := rfl
@[simp] theorem lz147 : cfg.live 147 = [] := rfl
@[simp] theorem lz148 : cfg.live 148 = [] := rfl
@[simp] theorem lz149 : cfg.live 149 = [] := rfl
@[simp] theorem lz150 : cfg.live 150 = [] := rfl
@[simp] theorem lz151 : cfg.live 151 = [] := rfl
@[simp] theorem lz153 : cfg.live 153 = [] := rfl
@[simp] theorem lz154 : cfg.live 154 = [] := rfl
@[simp] theorem lz156 : cfg.live 156 = [] := rfl
@[simp] theorem lz157 : cfg.live 157 = [] := rfl
@[simp] theorem lz158 : cfg.live 158 = [] := rfl
@[simp] theorem lz159 : cfg.live 159 = [] := rfl
@[simp] theorem lz160 : cfg.live 160 = [] := rfl
@[simp] theorem lz161 : cfg.live 161 = [] := rfl
@[simp] theorem lz162 : cfg.live 162 = [] := rfl
@[simp] theorem lz163 : cfg.live 163 = [] := rfl
@[simp] theorem lz164 : cfg.live 164 = [] := rfl
@[simp] theorem lz165 : cfg.live 165 = [] := rfl
@[simp] theorem lz166 : cfg.live 166 = [] := rfl
@[simp] theorem lz167 : cfg.live 167 = [] := rfl
@[simp] theorem lz168 : cfg.live 168 = [] := rfl
@[simp] theorem lz169 : cfg.live 169 = [] := rfl
@[simp] theorem lz170 : cfg.live 170 = [] := rfl
@[simp] theorem lz171 : cfg.live 171 = [] := rfl
@[simp] theorem lz172 : cfg.live 172 = [] := rfl
theorem lv4 : cfg.live 4 = [(3, .b []), (11, .p), (2, .p), (6, .p)] := rfl
theorem lv7 : cfg.live 7 = [(1, .b []), (3, .p), (2, .p)] := rfl
theorem lv10 : cfg.live 10 = [(2, .b []), (4, .b []), (7, .p), (1, .p)] := rfl
theorem lv13 : cfg.live 13 = [(6, .p), (2, .b []), (1, .p), (4, .b []), (5, .p)] := rfl
theorem lv14 : cfg.live 14 = [(2, .b []), (3, .b []), (5, .p), (6, .p), (4, .p)] := rfl
theorem lv15 : cfg.live 15 = [(1, .b []), (15, .p), (14, .p), (13, .p), (3, .m), (27, .p), (26, .p), (25, .p), (33, .p), (32, .p), (31, .p), (1015, .x 7), (1014, .x 7), (1013, .x 7), (1033, .x 17), (1032, .x 17), (1031, .x 17)] := rfl
theorem lv17 : cfg.live 17 = [(5, .p), (0, .p), (1, .p), (4, .p)] := rfl
theorem lv19 : cfg.live 19 = [(7, .p), (6, .p), (5, .s 1 [])] := rfl
theorem lv22 : cfg.live 22 = [(2, .b []), (6, .p), (5, .p), (1, .p), (7, .b []), (8, .p), (9, .p), (1007, .x 4), (1008, .x 4), (1009, .x 9)] := rfl
theorem lv24 : cfg.live 24 = [(4, .p), (1, .b []), (5, .b []), (2, .b []), (7, .p), (8, .p), (3, .p), (1005, .x 4), (1007, .x 4), (1008, .x 11)] := rfl
theorem lv25 : cfg.live 25 = [(3, .p), (1, .b []), (4, .p), (2, .b []), (1004, .x 3)] := rfl
theorem lv26 : cfg.live 26 = [(4, .b []), (6, .b []), (8, .p), (9, .p), (2, .p), (12, .p), (13, .p), (3, .b []), (15, .p), (14, .p), (11, .p), (1009, .x 8), (1013, .x 18), (1014, .x 21), (1015, .x 21)] := rfl
theorem lv27 : cfg.live 27 = [(0, .p), (8, .p), (7, .p), (1, .p), (4, .p)] := rfl
theorem lv29 : cfg.live 29 = [(0, .p), (1, .p), (5, .p), (4, .p)] := rfl
theorem lv32 : cfg.live 32 = [(1, .p), (4, .b []), (8, .b []), (9, .p), (2, .p), (10, .p), (3, .p), (1010, .x 5)] := rfl
theorem lv42 : cfg.live 42 = [(2, .b []), (5, .p), (4, .p)] := rfl
theorem lv43 : cfg.live 43 = [(1, .b []), (5, .p), (6, .p), (2, .p)] := rfl
theorem lv44 : cfg.live 44 = [(1, .b []), (2, .b []), (3, .p), (5, .p), (4, .p), (6, .b []), (7, .p), (1006, .x 9), (1007, .x 9), (1005, .x 5), (1004, .x 5)] := rfl
theorem lv47 : cfg.live 47 = [(1, .b []), (3, .p), (6, .p), (9, .p), (8, .s 1 []), (4, .p), (7, .p), (5, .s 1 []), (1008, .x 13), (1009, .x 13), (1007, .x 13)] := rfl
theorem lv72 : cfg.live 72 = [(0, .p), (3, .p), (2, .p)] := rfl
theorem lv76 : cfg.live 76 = [(0, .p), (2, .b []), (5, .p), (4, .p), (3, .p)] := rfl
theorem lv78 : cfg.live 78 = [(3, .p), (5, .p), (4, .s 1 [])] := rfl
theorem lv79 : cfg.live 79 = [(4, .p), (1, .b []), (6, .p), (5, .s 1 []), (3, .s 1 []), (1005, .x 4), (1006, .x 4)] := rfl
theorem lv80 : cfg.live 80 = [(7, .b []), (8, .p), (9, .p), (6, .p)] := rfl
theorem lv82 : cfg.live 82 = [(4, .p), (1, .b []), (3, .s 1 [])] := rfl
theorem lv83 : cfg.live 83 = [(2, .p), (7, .s 1 []), (8, .p), (9, .p), (1, .p), (12, .p), (3, .b []), (11, .s 1 []), (1009, .x 6), (1008, .x 13)] := rfl
theorem lv93 : cfg.live 93 = [(0, .p), (8, .p), (7, .p), (1, .p), (4, .p)] := rfl
theorem lv105 : cfg.live 105 = [(4, .p), (0, .p), (3, .p)] := rfl
theorem lv106 : cfg.live 106 = [(9, .s 1 []), (1, .p), (4, .b []), (12, .p), (11, .p), (10, .p)] := rfl
end Go.Proofs.YtkbdhjfjbkmkcaaGreat.Abs
