/- Which temporaries are carried round loops, function by function, and of which kind; which functions hand back what they made as it is. Printed by cfg.py. -/
import Derived.Test.YtdkknhpdjcdmfaaGreatJT29
namespace Go.Proofs.YtdkknhpdjcdmfaaGreat.Abs
open Go

def liveTab : List (List (Nat × Kd)) := [[],
  [],
  [],
  [],
  [],
  [(7, .b []), (9, .p), (12, .p), (13, .p), (2, .p), (10, .p), (11, .p), (14, .p), (15, .p), (16, .p), (6, .p)],
  [(9, .p), (12, .p), (2, .p), (10, .b []), (17, .p), (16, .p), (11, .p), (6, .p)],
  [(5, .b []), (7, .p), (8, .p), (9, .p), (4, .p)],
  [(2, .b []), (6, .p), (7, .p), (4, .p)],
  [(1, .b []), (5, .p), (3, .p), (6, .p), (8, .p), (7, .p), (4, .p), (2, .p), (1007, .x 12), (1008, .x 12), (1006, .x 7)],
  [(1, .b []), (5, .p), (3, .p), (6, .p), (7, .p), (4, .p), (2, .p), (1007, .x 10), (1006, .x 7)],
  [],
  [],
  [(1, .b []), (8, .p), (7, .p), (3, .b [6]), (2, .b [])],
  [(2, .b []), (4, .b []), (7, .p), (1, .p)],
  [(2, .b []), (6, .p), (5, .p), (1, .p), (7, .b []), (8, .p), (9, .p)],
  [(7, .b []), (2, .p), (6, .b [])],
  [],
  [],
  [(4, .p), (1, .b []), (3, .b [6]), (2, .b [])],
  [],
  [],
  [(1, .b []), (6, .p), (32, .p), (31, .p), (30, .p), (3, .b []), (8, .p), (49, .p), (48, .p), (47, .p), (5, .p), (9, .p), (4, .p), (64, .p), (63, .p), (62, .p)],
  [(1, .b []), (3, .p), (6, .p), (9, .p), (8, .s 1 []), (4, .p), (7, .p), (5, .s 1 []), (1008, .x 13), (1009, .x 13), (1007, .x 13)],
  [(4, .p), (1, .b []), (3, .s 1 []), (5, .p), (6, .p), (7, .b []), (8, .p)],
  [(0, .p), (3, .p), (74, .p), (73, .p), (72, .p), (11, .p)],
  [],
  [(0, .p), (1, .p), (5, .p), (4, .p)],
  [],
  [(12, .p), (4, .p), (5, .b []), (1, .p), (2, .p), (3, .p), (11, .s 1 [])],
  [(11, .p), (10, .p), (9, .p), (18, .p), (17, .p), (16, .p), (3, .s 2 []), (4, .p)],
  [(4, .p), (1, .b []), (5, .p), (3, .s 2 [])],
  [(6, .p), (2, .b []), (1, .p), (4, .b []), (5, .p)],
  [(2, .b []), (8, .p), (5, .b []), (1, .p), (7, .s 3 []), (4, .b [])],
  [],
  [],
  [(2, .b []), (5, .p), (1, .p), (4, .b [])],
  [],
  [],
  [(21, .p), (20, .p), (5, .p), (26, .p), (25, .p), (24, .p), (6, .p), (7, .s 1 []), (3, .p), (11, .p), (54, .p), (53, .p), (10, .b [0, 2]), (4, .s 4 []), (80, .p), (79, .p), (1026, .x 24), (1025, .x 24), (1024, .x 24), (1006, .x 24), (1007, .x 24), (1010, .x 24), (1011, .x 24), (1054, .x 24), (1053, .x 24), (1021, .x 25), (1020, .x 25), (1005, .x 25), (1003, .x 25)],
  [(1, .b []), (5, .p), (4, .p), (3, .s 4 []), (9, .p), (8, .s 4 [])],
  [(0, .p), (1, .p), (5, .p), (4, .p)],
  [(10, .p), (9, .p), (8, .p), (1, .p), (5, .p)],
  [(6, .p), (0, .p), (1, .p), (5, .p)],
  [(1, .b []), (3, .s 1 []), (10, .p), (9, .p)],
  [(4, .p), (0, .p), (5, .p), (3, .s 1 [])],
  [(2, .b []), (3, .b []), (15, .p), (14, .p), (13, .p), (5, .p), (4, .p)],
  [(6, .p), (2, .b []), (3, .b []), (5, .s 1 [])],
  [(5, .p), (0, .p), (1, .p), (4, .p)],
  [(7, .p), (6, .p), (5, .s 1 [])],
  [],
  [(1, .b []), (3, .p), (2, .p)],
  [(2, .b []), (3, .b []), (4, .p), (6, .b []), (7, .b [6])],
  [(1, .b []), (3, .p), (19, .p), (18, .p), (17, .p), (4, .s 1 []), (32, .p), (31, .p), (10, .p), (9, .s 1 []), (7, .s 1 [])],
  [(1, .b [0, 2, 0, 2]), (3, .p), (32, .p), (31, .p), (30, .p), (39, .p), (38, .p), (37, .p), (4, .b []), (5, .p), (54, .p), (53, .p), (52, .p), (9, .s 1 []), (67, .p), (66, .p), (65, .s 1 []), (73, .p), (72, .p), (71, .p), (15, .b []), (80, .p), (79, .p), (78, .p), (96, .p), (95, .p), (94, .p), (2, .b [])],
  [(2, .b []), (3, .b []), (5, .p), (6, .p), (4, .p)],
  [(4, .p), (1, .b []), (5, .b []), (2, .b []), (7, .p), (8, .p), (3, .p)],
  [(3, .p), (1, .b []), (4, .p), (2, .b [])],
  [(4, .b []), (6, .b []), (8, .p), (9, .p), (2, .p), (12, .p), (13, .p), (3, .b []), (15, .p), (14, .p), (11, .p)],
  [],
  [(1, .b []), (3, .b []), (5, .b [0, 0, 0, 2]), (6, .p), (4, .p), (8, .p), (7, .s 8 []), (2, .b [])],
  [(1, .b []), (3, .p), (35, .p), (34, .p), (9, .s 1 []), (6, .p), (67, .p), (66, .p), (65, .p), (8, .p), (11, .p), (76, .p), (75, .p), (74, .p), (12, .p), (7, .p), (116, .p), (115, .p), (114, .p), (174, .p), (173, .p), (172, .p), (4, .b2 [(2, []), (2, []), (2, [2])])],
  [(12, .p), (11, .p), (10, .p), (19, .p), (18, .p), (17, .p), (3, .p), (4, .p)],
  [(15, .p), (14, .p), (13, .p), (28, .p), (27, .p), (26, .p), (4, .p), (3, .s 1 [2])],
  [],
  [(2, .r 1), (3, .b [0, 2, 2])],
  [],
  [(0, .p), (1, .p), (13, .p), (12, .p), (4, .p)],
  [(4, .p), (1, .b []), (3, .s 1 [])],
  [(2, .p), (7, .s 1 []), (8, .p), (9, .p), (1, .p), (12, .p), (3, .b []), (11, .s 1 []), (1009, .x 6), (1008, .x 13)],
  [],
  [(1, .p), (2, .p), (0, .p)],
  [(0, .p), (6, .p), (7, .p), (8, .p), (1, .p)],
  [(6, .p), (2, .b []), (7, .p), (1, .p), (4, .p), (5, .p)],
  [(5, .b []), (1, .p), (2, .p), (12, .p), (11, .s 3 []), (3, .p), (4, .p), (15, .p), (14, .p), (10, .p)],
  [(0, .p), (1, .p), (5, .p), (6, .p)],
  [(14, .p), (13, .p), (12, .p), (20, .p), (19, .p), (18, .p), (3, .s 1 [])],
  [],
  [],
  [(8, .p), (2, .p), (7, .b []), (3, .b []), (6, .b [])],
  [(1, .b []), (5, .p), (6, .p), (8, .p), (7, .b []), (4, .b []), (2, .b [])],
  [],
  [],
  [(4, .p), (0, .p), (3, .p)],
  [(1, .b []), (4, .p), (3, .p), (5, .p), (2, .p), (1005, .x 6)],
  [],
  [(15, .p), (14, .p), (13, .p), (22, .p), (21, .p), (20, .p), (4, .p), (3, .s 1 [2])],
  [(14, .p), (13, .p), (12, .p), (21, .p), (20, .p), (19, .p), (3, .p), (5, .p), (4, .s 2 [])],
  [(0, .p), (21, .p), (20, .p), (19, .p), (2, .p), (7, .s 1 []), (8, .s 1 []), (45, .p), (44, .p), (52, .p), (51, .p), (50, .s 1 []), (61, .p), (60, .p), (59, .p), (11, .s 1 []), (1021, .x 10), (1020, .x 10), (1019, .x 10), (1008, .x 14), (1061, .x 24), (1060, .x 24), (1059, .x 24), (1011, .x 25), (1052, .x 25), (1051, .x 25), (1050, .x 25)],
  [(0, .p), (10, .p), (9, .p), (8, .p), (1, .p), (5, .p)],
  [(3, .b []), (2, .p), (8, .p), (6, .b []), (10, .p), (9, .b [0, 2])],
  [(6, .p), (0, .p), (1, .p), (5, .p)],
  [],
  [],
  [],
  [(0, .p), (3, .b []), (5, .p), (4, .s 2 []), (7, .p), (2, .s 2 [])],
  [],
  [(0, .p), (3, .b [0, 2, 0, 2]), (2, .b [])],
  [(17, .p), (16, .p), (15, .p), (4, .s 1 []), (3, .p)],
  [(1, .p), (12, .p), (11, .p), (10, .p), (0, .p), (26, .p), (25, .p), (24, .p), (6, .p), (5, .s 8 [])],
  [(0, .p), (1, .p), (4, .p)],
  [],
  [(2, .b []), (5, .p), (4, .p)],
  [(1, .b []), (5, .p), (6, .p), (2, .p)],
  [(1, .b []), (2, .b []), (3, .p), (5, .p), (4, .p), (6, .b []), (7, .p), (1006, .x 9), (1007, .x 9), (1005, .x 5), (1004, .x 5)],
  [],
  [],
  [],
  [],
  [(0, .p), (1, .p), (5, .p), (4, .p)],
  [(1, .b []), (3, .b []), (2, .b [])],
  [(6, .p), (2, .b []), (3, .b []), (5, .s 1 [])],
  [(6, .b []), (9, .b []), (12, .b [0, 0, 0, 0, 2, 2]), (13, .p), (3, .p), (2, .p), (10, .b []), (14, .b [0, 0, 0, 0, 0, 2]), (15, .p)],
  [(1, .b []), (3, .s 1 []), (13, .p), (12, .p), (23, .p), (22, .p), (21, .p)],
  [(2, .p), (3, .p), (1, .p), (0, .p)],
  [],
  [],
  [],
  [(0, .p), (1, .p), (20, .p), (19, .p), (18, .p)],
  [(0, .p), (2, .p), (3, .p)],
  [(0, .p), (11, .p), (10, .p), (9, .p), (3, .p), (27, .p), (26, .p), (25, .p), (6, .s 1 [])],
  [(0, .p), (3, .p), (5, .p), (4, .p), (2, .p)],
  [],
  [],
  [],
  [(6, .p), (9, .p), (8, .p), (7, .s 3 [])],
  [(5, .p), (0, .p), (3, .b []), (4, .p)],
  [(0, .p), (8, .p), (7, .p), (1, .p), (4, .p)],
  [(3, .b []), (7, .b [0, 0, 0, 0, 0, 5]), (8, .p), (1, .p), (5, .b []), (6, .b [])],
  [],
  [],
  [],
  [],
  [],
  [(0, .p), (2, .b []), (5, .p), (4, .p), (3, .p)],
  [],
  [],
  [],
  [(8, .p), (3, .b []), (2, .p), (1, .p), (7, .s 1 [])],
  [(3, .p), (1, .p), (9, .p), (2, .p), (4, .b []), (8, .p)],
  [(0, .p), (8, .p), (7, .p), (1, .p), (4, .p)],
  [(6, .p), (8, .p), (1, .p), (0, .p), (7, .p), (2, .p)],
  [(5, .p), (1, .p), (0, .p), (4, .p)],
  [],
  [],
  [],
  [],
  [],
  [(0, .p), (5, .s 8 [])],
  [],
  [(0, .p), (3, .p), (2, .p)],
  [],
  [],
  [],
  [],
  [(3, .p), (5, .p), (4, .s 1 [])],
  [(4, .p), (1, .b []), (6, .p), (5, .s 1 []), (3, .s 1 [])],
  [(1, .p), (4, .b []), (8, .b []), (9, .p), (2, .p), (10, .p), (3, .p)],
  [(7, .b []), (8, .p), (9, .p), (6, .p)],
  [],
  [],
  [(2, .b []), (3, .b []), (5, .b [0, 3, 2]), (6, .p), (8, .p), (7, .p), (4, .b [])],
  [(2, .b []), (3, .b []), (5, .p), (4, .p)],
  [(5, .p), (0, .p), (1, .p), (4, .b [])],
  [(7, .p), (3, .b []), (1, .p), (2, .p), (6, .p)],
  [(6, .p), (0, .p), (1, .p), (5, .p)],
  [],
  [(2, .p), (1, .p), (0, .p), (3, .p), (8, .p), (9, .p)],
  [],
  [],
  [],
  [],
  [(4, .p), (0, .p), (3, .p)],
  [],
  [(3, .b []), (6, .b []), (5, .b []), (10, .p), (9, .s 3 []), (4, .b []), (7, .b [])],
  [],
  [],
  [],
  [],
  [(10, .p), (1, .p), (3, .p), (9, .s 1 []), (11, .p), (0, .p), (13, .p), (12, .p), (2, .p)],
  [(1, .p), (8, .p), (2, .p), (9, .p), (3, .p), (0, .p)],
  [(2, .p), (1, .p), (3, .p), (10, .p), (11, .p), (4, .p), (0, .p), (13, .p), (14, .p), (15, .p), (17, .p), (18, .p), (19, .p), (20, .p), (21, .p), (22, .p)],
  [(0, .p), (4, .p), (3, .p)],
  [],
  [],
  [(9, .s 1 []), (1, .p), (4, .b []), (12, .p), (11, .p), (10, .p)],
  [(6, .p), (2, .b []), (5, .s 3 []), (7, .p), (8, .p), (3, .b [])],
  [(1, .p), (6, .p), (2, .p), (7, .p), (0, .p)],
  [(8, .p), (9, .p), (0, .p), (6, .p), (10, .p), (7, .p)],
  [(1, .p), (6, .p), (9, .p), (7, .b []), (8, .p), (0, .p)],
  [],
  [(6, .p), (7, .p), (0, .p)],
  [(1, .p), (8, .p), (7, .p), (2, .p), (0, .p), (9, .p), (10, .p), (6, .p)],
  [(0, .p), (1, .p), (9, .p), (10, .p)],
  [(0, .p), (1, .p), (10, .p), (11, .p)],
  [],
  [],
  [],
  [(2, .p), (10, .p), (11, .p), (0, .p), (4, .p)],
  [],
  [(0, .p), (4, .p), (5, .p), (2, .p), (3, .p)],
  [],
  [],
  [(5, .b []), (6, .b []), (8, .p), (3, .b []), (1, .p), (7, .b [])],
  [(8, .p), (2, .p), (0, .p), (3, .p)],
  [],
  [],
  [],
  [],
  [],
  [(10, .p), (3, .p), (0, .p), (1, .p), (2, .p)],
  [],
  [],
  [],
  [(0, .p), (5, .b [0, 0, 0, 0, 2, 2]), (4, .b [])],
  [(0, .p), (5, .b [0, 0, 0, 0, 2]), (4, .b [])],
  [],
  [(8, .p), (2, .p), (0, .p), (7, .b [0, 0, 0, 0, 2, 2]), (6, .b [])],
  [(0, .p), (4, .p), (3, .p)],
  [],
  [],
  [],
  [],
  [(4, .p), (5, .p), (7, .p), (6, .p)],
  [],
  [],
  [(0, .p), (3, .p), (2, .p)],
  [],
  [(5, .p), (0, .p), (1, .p), (4, .p)],
  [],
  [],
  [],
  [],
  [],
  [],
  [],
  [],
  [],
  [],
  [],
  [],
  [],
  [],
  [],
  [],
  []]

def cfg : Cfg := ⟨fun f => if [].contains f then 1 else 0, fun f => liveTab.getD f [], fun f => [11, 12, 14, 15, 18, 21, 26, 27, 36, 37, 38, 41, 42, 43, 47, 48, 50, 51, 55, 56, 57, 58, 59, 67, 70, 72, 73, 74, 83, 84, 89, 91, 92, 101, 102, 103, 104, 105, 106, 107, 108, 109, 126, 129, 139, 140, 152, 157, 158, 159, 160, 162, 163, 164, 165, 168, 176, 177, 179, 197, 202, 203, 209, 212].contains f⟩
@[simp] theorem rd0 : cfg.read 0 = false := rfl
@[simp] theorem rd1 : cfg.read 1 = false := rfl
@[simp] theorem rd2 : cfg.read 2 = false := rfl
@[simp] theorem rd3 : cfg.read 3 = false := rfl
@[simp] theorem rd4 : cfg.read 4 = false := rfl
@[simp] theorem rd5 : cfg.read 5 = false := rfl
@[simp] theorem rd6 : cfg.read 6 = false := rfl
@[simp] theorem rd7 : cfg.read 7 = false := rfl
@[simp] theorem rd8 : cfg.read 8 = false := rfl
@[simp] theorem rd9 : cfg.read 9 = false := rfl
@[simp] theorem rd10 : cfg.read 10 = false := rfl
@[simp] theorem rd11 : cfg.read 11 = true := rfl
@[simp] theorem rd12 : cfg.read 12 = true := rfl
@[simp] theorem rd13 : cfg.read 13 = false := rfl
@[simp] theorem rd14 : cfg.read 14 = true := rfl
@[simp] theorem rd15 : cfg.read 15 = true := rfl
@[simp] theorem rd16 : cfg.read 16 = false := rfl
@[simp] theorem rd17 : cfg.read 17 = false := rfl
@[simp] theorem rd18 : cfg.read 18 = true := rfl
@[simp] theorem rd19 : cfg.read 19 = false := rfl
@[simp] theorem rd20 : cfg.read 20 = false := rfl
@[simp] theorem rd21 : cfg.read 21 = true := rfl
@[simp] theorem rd22 : cfg.read 22 = false := rfl
@[simp] theorem rd23 : cfg.read 23 = false := rfl
@[simp] theorem rd24 : cfg.read 24 = false := rfl
@[simp] theorem rd25 : cfg.read 25 = false := rfl
@[simp] theorem rd26 : cfg.read 26 = true := rfl
@[simp] theorem rd27 : cfg.read 27 = true := rfl
@[simp] theorem rd28 : cfg.read 28 = false := rfl
@[simp] theorem rd29 : cfg.read 29 = false := rfl
@[simp] theorem rd30 : cfg.read 30 = false := rfl
@[simp] theorem rd31 : cfg.read 31 = false := rfl
@[simp] theorem rd32 : cfg.read 32 = false := rfl
@[simp] theorem rd33 : cfg.read 33 = false := rfl
@[simp] theorem rd34 : cfg.read 34 = false := rfl
@[simp] theorem rd35 : cfg.read 35 = false := rfl
@[simp] theorem rd36 : cfg.read 36 = true := rfl
@[simp] theorem rd37 : cfg.read 37 = true := rfl
@[simp] theorem rd38 : cfg.read 38 = true := rfl
@[simp] theorem rd39 : cfg.read 39 = false := rfl
@[simp] theorem rd40 : cfg.read 40 = false := rfl
@[simp] theorem rd41 : cfg.read 41 = true := rfl
@[simp] theorem rd42 : cfg.read 42 = true := rfl
@[simp] theorem rd43 : cfg.read 43 = true := rfl
@[simp] theorem rd44 : cfg.read 44 = false := rfl
@[simp] theorem rd45 : cfg.read 45 = false := rfl
@[simp] theorem rd46 : cfg.read 46 = false := rfl
@[simp] theorem rd47 : cfg.read 47 = true := rfl
@[simp] theorem rd48 : cfg.read 48 = true := rfl
@[simp] theorem rd49 : cfg.read 49 = false := rfl
@[simp] theorem rd50 : cfg.read 50 = true := rfl
@[simp] theorem rd51 : cfg.read 51 = true := rfl
@[simp] theorem rd52 : cfg.read 52 = false := rfl
@[simp] theorem rd53 : cfg.read 53 = false := rfl
@[simp] theorem rd54 : cfg.read 54 = false := rfl
@[simp] theorem rd55 : cfg.read 55 = true := rfl
@[simp] theorem rd56 : cfg.read 56 = true := rfl
@[simp] theorem rd57 : cfg.read 57 = true := rfl
@[simp] theorem rd58 : cfg.read 58 = true := rfl
@[simp] theorem rd59 : cfg.read 59 = true := rfl
@[simp] theorem rd60 : cfg.read 60 = false := rfl
@[simp] theorem rd61 : cfg.read 61 = false := rfl
@[simp] theorem rd62 : cfg.read 62 = false := rfl
@[simp] theorem rd63 : cfg.read 63 = false := rfl
@[simp] theorem rd64 : cfg.read 64 = false := rfl
@[simp] theorem rd65 : cfg.read 65 = false := rfl
@[simp] theorem rd66 : cfg.read 66 = false := rfl
@[simp] theorem rd67 : cfg.read 67 = true := rfl
@[simp] theorem rd68 : cfg.read 68 = false := rfl
@[simp] theorem rd69 : cfg.read 69 = false := rfl
@[simp] theorem rd70 : cfg.read 70 = true := rfl
@[simp] theorem rd71 : cfg.read 71 = false := rfl
@[simp] theorem rd72 : cfg.read 72 = true := rfl
@[simp] theorem rd73 : cfg.read 73 = true := rfl
@[simp] theorem rd74 : cfg.read 74 = true := rfl
@[simp] theorem rd75 : cfg.read 75 = false := rfl
@[simp] theorem rd76 : cfg.read 76 = false := rfl
@[simp] theorem rd77 : cfg.read 77 = false := rfl
@[simp] theorem rd78 : cfg.read 78 = false := rfl
@[simp] theorem rd79 : cfg.read 79 = false := rfl
@[simp] theorem rd80 : cfg.read 80 = false := rfl
@[simp] theorem rd81 : cfg.read 81 = false := rfl
@[simp] theorem rd82 : cfg.read 82 = false := rfl
@[simp] theorem rd83 : cfg.read 83 = true := rfl
@[simp] theorem rd84 : cfg.read 84 = true := rfl
@[simp] theorem rd85 : cfg.read 85 = false := rfl
@[simp] theorem rd86 : cfg.read 86 = false := rfl
@[simp] theorem rd87 : cfg.read 87 = false := rfl
@[simp] theorem rd88 : cfg.read 88 = false := rfl
@[simp] theorem rd89 : cfg.read 89 = true := rfl
@[simp] theorem rd90 : cfg.read 90 = false := rfl
@[simp] theorem rd91 : cfg.read 91 = true := rfl
@[simp] theorem rd92 : cfg.read 92 = true := rfl
@[simp] theorem rd93 : cfg.read 93 = false := rfl
@[simp] theorem rd94 : cfg.read 94 = false := rfl
@[simp] theorem rd95 : cfg.read 95 = false := rfl
@[simp] theorem rd96 : cfg.read 96 = false := rfl
@[simp] theorem rd97 : cfg.read 97 = false := rfl
@[simp] theorem rd98 : cfg.read 98 = false := rfl
@[simp] theorem rd99 : cfg.read 99 = false := rfl
@[simp] theorem rd100 : cfg.read 100 = false := rfl
@[simp] theorem rd101 : cfg.read 101 = true := rfl
@[simp] theorem rd102 : cfg.read 102 = true := rfl
@[simp] theorem rd103 : cfg.read 103 = true := rfl
@[simp] theorem rd104 : cfg.read 104 = true := rfl
@[simp] theorem rd105 : cfg.read 105 = true := rfl
@[simp] theorem rd106 : cfg.read 106 = true := rfl
@[simp] theorem rd107 : cfg.read 107 = true := rfl
@[simp] theorem rd108 : cfg.read 108 = true := rfl
@[simp] theorem rd109 : cfg.read 109 = true := rfl
@[simp] theorem rd110 : cfg.read 110 = false := rfl
@[simp] theorem rd111 : cfg.read 111 = false := rfl
@[simp] theorem rd112 : cfg.read 112 = false := rfl
@[simp] theorem rd113 : cfg.read 113 = false := rfl
@[simp] theorem rd114 : cfg.read 114 = false := rfl
@[simp] theorem rd115 : cfg.read 115 = false := rfl
@[simp] theorem rd116 : cfg.read 116 = false := rfl
@[simp] theorem rd117 : cfg.read 117 = false := rfl
@[simp] theorem rd118 : cfg.read 118 = false := rfl
@[simp] theorem rd119 : cfg.read 119 = false := rfl
@[simp] theorem rd120 : cfg.read 120 = false := rfl
@[simp] theorem rd121 : cfg.read 121 = false := rfl
@[simp] theorem rd122 : cfg.read 122 = false := rfl
@[simp] theorem rd123 : cfg.read 123 = false := rfl
@[simp] theorem rd124 : cfg.read 124 = false := rfl
@[simp] theorem rd125 : cfg.read 125 = false := rfl
@[simp] theorem rd126 : cfg.read 126 = true := rfl
@[simp] theorem rd127 : cfg.read 127 = false := rfl
@[simp] theorem rd128 : cfg.read 128 = false := rfl
@[simp] theorem rd129 : cfg.read 129 = true := rfl
@[simp] theorem rd130 : cfg.read 130 = false := rfl
@[simp] theorem rd131 : cfg.read 131 = false := rfl
@[simp] theorem rd132 : cfg.read 132 = false := rfl
@[simp] theorem rd133 : cfg.read 133 = false := rfl
@[simp] theorem rd134 : cfg.read 134 = false := rfl
@[simp] theorem rd135 : cfg.read 135 = false := rfl
@[simp] theorem rd136 : cfg.read 136 = false := rfl
@[simp] theorem rd137 : cfg.read 137 = false := rfl
@[simp] theorem rd138 : cfg.read 138 = false := rfl
@[simp] theorem rd139 : cfg.read 139 = true := rfl
@[simp] theorem rd140 : cfg.read 140 = true := rfl
@[simp] theorem rd141 : cfg.read 141 = false := rfl
@[simp] theorem rd142 : cfg.read 142 = false := rfl
@[simp] theorem rd143 : cfg.read 143 = false := rfl
@[simp] theorem rd144 : cfg.read 144 = false := rfl
@[simp] theorem rd145 : cfg.read 145 = false := rfl
@[simp] theorem rd146 : cfg.read 146 = false := rfl
@[simp] theorem rd147 : cfg.read 147 = false := rfl
@[simp] theorem rd148 : cfg.read 148 = false := rfl
@[simp] theorem rd149 : cfg.read 149 = false := rfl
@[simp] theorem rd150 : cfg.read 150 = false := rfl
@[simp] theorem rd151 : cfg.read 151 = false := rfl
@[simp] theorem rd152 : cfg.read 152 = true := rfl
@[simp] theorem rd153 : cfg.read 153 = false := rfl
@[simp] theorem rd154 : cfg.read 154 = false := rfl
@[simp] theorem rd155 : cfg.read 155 = false := rfl
@[simp] theorem rd156 : cfg.read 156 = false := rfl
@[simp] theorem rd157 : cfg.read 157 = true := rfl
@[simp] theorem rd158 : cfg.read 158 = true := rfl
@[simp] theorem rd159 : cfg.read 159 = true := rfl
@[simp] theorem rd160 : cfg.read 160 = true := rfl
@[simp] theorem rd161 : cfg.read 161 = false := rfl
@[simp] theorem rd162 : cfg.read 162 = true := rfl
@[simp] theorem rd163 : cfg.read 163 = true := rfl
@[simp] theorem rd164 : cfg.read 164 = true := rfl
@[simp] theorem rd165 : cfg.read 165 = true := rfl
@[simp] theorem rd166 : cfg.read 166 = false := rfl
@[simp] theorem rd167 : cfg.read 167 = false := rfl
@[simp] theorem rd168 : cfg.read 168 = true := rfl
@[simp] theorem rd169 : cfg.read 169 = false := rfl
@[simp] theorem rd170 : cfg.read 170 = false := rfl
@[simp] theorem rd171 : cfg.read 171 = false := rfl
@[simp] theorem rd172 : cfg.read 172 = false := rfl
@[simp] theorem rd173 : cfg.read 173 = false := rfl
@[simp] theorem rd174 : cfg.read 174 = false := rfl
@[simp] theorem rd175 : cfg.read 175 = false := rfl
@[simp] theorem rd176 : cfg.read 176 = true := rfl
@[simp] theorem rd177 : cfg.read 177 = true := rfl
@[simp] theorem rd178 : cfg.read 178 = false := rfl
@[simp] theorem rd179 : cfg.read 179 = true := rfl
@[simp] theorem rd180 : cfg.read 180 = false := rfl
@[simp] theorem rd181 : cfg.read 181 = false := rfl
@[simp] theorem rd182 : cfg.read 182 = false := rfl
@[simp] theorem rd183 : cfg.read 183 = false := rfl
@[simp] theorem rd184 : cfg.read 184 = false := rfl
@[simp] theorem rd185 : cfg.read 185 = false := rfl
@[simp] theorem rd186 : cfg.read 186 = false := rfl
@[simp] theorem rd187 : cfg.read 187 = false := rfl
@[simp] theorem rd188 : cfg.read 188 = false := rfl
@[simp] theorem rd189 : cfg.read 189 = false := rfl
@[simp] theorem rd190 : cfg.read 190 = false := rfl
@[simp] theorem rd191 : cfg.read 191 = false := rfl
@[simp] theorem rd192 : cfg.read 192 = false := rfl
@[simp] theorem rd193 : cfg.read 193 = false := rfl
@[simp] theorem rd194 : cfg.read 194 = false := rfl
@[simp] theorem rd195 : cfg.read 195 = false := rfl
@[simp] theorem rd196 : cfg.read 196 = false := rfl
@[simp] theorem rd197 : cfg.read 197 = true := rfl
@[simp] theorem rd198 : cfg.read 198 = false := rfl
@[simp] theorem rd199 : cfg.read 199 = false := rfl
@[simp] theorem rd200 : cfg.read 200 = false := rfl
@[simp] theorem rd201 : cfg.read 201 = false := rfl
@[simp] theorem rd202 : cfg.read 202 = true := rfl
@[simp] theorem rd203 : cfg.read 203 = true := rfl
@[simp] theorem rd204 : cfg.read 204 = false := rfl
@[simp] theorem rd205 : cfg.read 205 = false := rfl
@[simp] theorem rd206 : cfg.read 206 = false := rfl
@[simp] theorem rd207 : cfg.read 207 = false := rfl
@[simp] theorem rd208 : cfg.read 208 = false := rfl
@[simp] theorem rd209 : cfg.read 209 = true := rfl
@[simp] theorem rd210 : cfg.read 210 = false := rfl
@[simp] theorem rd211 : cfg.read 211 = false := rfl
@[simp] theorem rd212 : cfg.read 212 = true := rfl
@[simp] theorem rd213 : cfg.read 213 = false := rfl
@[simp] theorem rd214 : cfg.read 214 = false := rfl
@[simp] theorem rd215 : cfg.read 215 = false := rfl
@[simp] theorem rd216 : cfg.read 216 = false := rfl
@[simp] theorem rd217 : cfg.read 217 = false := rfl
@[simp] theorem rd218 : cfg.read 218 = false := rfl
@[simp] theorem rd219 : cfg.read 219 = false := rfl
@[simp] theorem rd220 : cfg.read 220 = false := rfl
@[simp] theorem rd221 : cfg.read 221 = false := rfl
@[simp] theorem rd222 : cfg.read 222 = false := rfl
@[simp] theorem rd223 : cfg.read 223 = false := rfl
@[simp] theorem rd224 : cfg.read 224 = false := rfl
@[simp] theorem rd225 : cfg.read 225 = false := rfl
@[simp] theorem rd226 : cfg.read 226 = false := rfl
@[simp] theorem rd227 : cfg.read 227 = false := rfl
@[simp] theorem rd228 : cfg.read 228 = false := rfl
@[simp] theorem rd229 : cfg.read 229 = false := rfl
@[simp] theorem rd230 : cfg.read 230 = false := rfl
@[simp] theorem rd231 : cfg.read 231 = false := rfl
@[simp] theorem rd232 : cfg.read 232 = false := rfl
@[simp] theorem rd233 : cfg.read 233 = false := rfl
@[simp] theorem rd234 : cfg.read 234 = false := rfl
@[simp] theorem rd235 : cfg.read 235 = false := rfl
@[simp] theorem rd236 : cfg.read 236 = false := rfl
@[simp] theorem rd237 : cfg.read 237 = false := rfl
@[simp] theorem rd238 : cfg.read 238 = false := rfl
@[simp] theorem rd239 : cfg.read 239 = false := rfl
@[simp] theorem rd240 : cfg.read 240 = false := rfl
@[simp] theorem rd241 : cfg.read 241 = false := rfl
@[simp] theorem rd242 : cfg.read 242 = false := rfl
@[simp] theorem rd243 : cfg.read 243 = false := rfl
@[simp] theorem rd244 : cfg.read 244 = false := rfl
@[simp] theorem rd245 : cfg.read 245 = false := rfl
@[simp] theorem lz0 : cfg.live 0 = [] := rfl
@[simp] theorem lz1 : cfg.live 1 = [] := rfl
@[simp] theorem lz2 : cfg.live 2 = [] := rfl
@[simp] theorem lz3 : cfg.live 3 = [] := rfl
@[simp] theorem lz4 : cfg.live 4 = [] := rfl
@[simp] theorem lz11 : cfg.live 11 = [] := rfl
@[simp] theorem lz12 : cfg.live 12 = [] := rfl
@[simp] theorem lz17 : cfg.live 17 = [] := rfl
@[simp] theorem lz18 : cfg.live 18 = [] := rfl
@[simp] theorem lz20 : cfg.live 20 = [] := rfl
@[simp] theorem lz21 : cfg.live 21 = [] := rfl
@[simp] theorem lz26 : cfg.live 26 = [] := rfl
@[simp] theorem lz28 : cfg.live 28 = [] := rfl
@[simp] theorem lz34 : cfg.live 34 = [] := rfl
@[simp] theorem lz35 : cfg.live 35 = [] := rfl
@[simp] theorem lz37 : cfg.live 37 = [] := rfl
@[simp] theorem lz38 : cfg.live 38 = [] := rfl
@[simp] theorem lz50 : cfg.live 50 = [] := rfl
@[simp] theorem lz59 : cfg.live 59 = [] := rfl
@[simp] theorem lz64 : cfg.live 64 = [] := rfl
@[simp] theorem lz66 : cfg.live 66 = [] := rfl
@[simp] theorem lz70 : cfg.live 70 = [] := rfl
@[simp] theorem lz77 : cfg.live 77 = [] := rfl
@[simp] theorem lz78 : cfg.live 78 = [] := rfl
@[simp] theorem lz81 : cfg.live 81 = [] := rfl
@[simp] theorem lz82 : cfg.live 82 = [] := rfl
@[simp] theorem lz85 : cfg.live 85 = [] := rfl
@[simp] theorem lz92 : cfg.live 92 = [] := rfl
@[simp] theorem lz93 : cfg.live 93 = [] := rfl
@[simp] theorem lz94 : cfg.live 94 = [] := rfl
@[simp] theorem lz96 : cfg.live 96 = [] := rfl
@[simp] theorem lz101 : cfg.live 101 = [] := rfl
@[simp] theorem lz105 : cfg.live 105 = [] := rfl
@[simp] theorem lz106 : cfg.live 106 = [] := rfl
@[simp] theorem lz107 : cfg.live 107 = [] := rfl
@[simp] theorem lz108 : cfg.live 108 = [] := rfl
@[simp] theorem lz115 : cfg.live 115 = [] := rfl
@[simp] theorem lz116 : cfg.live 116 = [] := rfl
@[simp] theorem lz117 : cfg.live 117 = [] := rfl
@[simp] theorem lz122 : cfg.live 122 = [] := rfl
@[simp] theorem lz123 : cfg.live 123 = [] := rfl
@[simp] theorem lz124 : cfg.live 124 = [] := rfl
@[simp] theorem lz129 : cfg.live 129 = [] := rfl
@[simp] theorem lz130 : cfg.live 130 = [] := rfl
@[simp] theorem lz131 : cfg.live 131 = [] := rfl
@[simp] theorem lz132 : cfg.live 132 = [] := rfl
@[simp] theorem lz133 : cfg.live 133 = [] := rfl
@[simp] theorem lz135 : cfg.live 135 = [] := rfl
@[simp] theorem lz136 : cfg.live 136 = [] := rfl
@[simp] theorem lz137 : cfg.live 137 = [] := rfl
@[simp] theorem lz143 : cfg.live 143 = [] := rfl
@[simp] theorem lz144 : cfg.live 144 = [] := rfl
@[simp] theorem lz145 : cfg.live 145 = [] := rfl
@[simp] theorem lz146 : cfg.live 146 = [] := rfl
@[simp] theorem lz147 : cfg.live 147 = [] := rfl
@[simp] theorem lz149 : cfg.live 149 = [] := rfl
@[simp] theorem lz151 : cfg.live 151 = [] := rfl
@[simp] theorem lz152 : cfg.live 152 = [] := rfl
@[simp] theorem lz153 : cfg.live 153 = [] := rfl
@[simp] theorem lz154 : cfg.live 154 = [] := rfl
@[simp] theorem lz159 : cfg.live 159 = [] := rfl
@[simp] theorem lz160 : cfg.live 160 = [] := rfl
@[simp] theorem lz166 : cfg.live 166 = [] := rfl
@[simp] theorem lz168 : cfg.live 168 = [] := rfl
@[simp] theorem lz169 : cfg.live 169 = [] := rfl
@[simp] theorem lz170 : cfg.live 170 = [] := rfl
@[simp] theorem lz171 : cfg.live 171 = [] := rfl
@[simp] theorem lz173 : cfg.live 173 = [] := rfl
@[simp] theorem lz175 : cfg.live 175 = [] := rfl
@[simp] theorem lz176 : cfg.live 176 = [] := rfl
@[simp] theorem lz177 : cfg.live 177 = [] := rfl
@[simp] theorem lz178 : cfg.live 178 = [] := rfl
@[simp] theorem lz183 : cfg.live 183 = [] := rfl
@[simp] theorem lz184 : cfg.live 184 = [] := rfl
@[simp] theorem lz190 : cfg.live 190 = [] := rfl
@[simp] theorem lz195 : cfg.live 195 = [] := rfl
@[simp] theorem lz196 : cfg.live 196 = [] := rfl
@[simp] theorem lz197 : cfg.live 197 = [] := rfl
@[simp] theorem lz199 : cfg.live 199 = [] := rfl
@[simp] theorem lz201 : cfg.live 201 = [] := rfl
@[simp] theorem lz202 : cfg.live 202 = [] := rfl
@[simp] theorem lz205 : cfg.live 205 = [] := rfl
@[simp] theorem lz206 : cfg.live 206 = [] := rfl
@[simp] theorem lz207 : cfg.live 207 = [] := rfl
@[simp] theorem lz208 : cfg.live 208 = [] := rfl
@[simp] theorem lz209 : cfg.live 209 = [] := rfl
@[simp] theorem lz211 : cfg.live 211 = [] := rfl
@[simp] theorem lz212 : cfg.live 212 = [] := rfl
@[simp] theorem lz213 : cfg.live 213 = [] := rfl
@[simp] theorem lz216 : cfg.live 216 = [] := rfl
@[simp] theorem lz219 : cfg.live 219 = [] := rfl
@[simp] theorem lz220 : cfg.live 220 = [] := rfl
@[simp] theorem lz221 : cfg.live 221 = [] := rfl
@[simp] theorem lz222 : cfg.live 222 = [] := rfl
@[simp] theorem lz224 : cfg.live 224 = [] := rfl
@[simp] theorem lz225 : cfg.live 225 = [] := rfl
@[simp] theorem lz227 : cfg.live 227 = [] := rfl
@[simp] theorem lz229 : cfg.live 229 = [] := rfl
@[simp] theorem lz230 : cfg.live 230 = [] := rfl
@[simp] theorem lz231 : cfg.live 231 = [] := rfl
@[simp] theorem lz232 : cfg.live 232 = [] := rfl
@[simp] theorem lz233 : cfg.live 233 = [] := rfl
@[simp] theorem lz234 : cfg.live 234 = [] := rfl
@[simp] theorem lz235 : cfg.live 235 = [] := rfl
@[simp] theorem lz236 : cfg.live 236 = [] := rfl
@[simp] theorem lz237 : cfg.live 237 = [] := rfl
@[simp] theorem lz238 : cfg.live 238 = [] := rfl
@[simp] theorem lz239 : cfg.live 239 = [] := rfl
@[simp] theorem lz240 : cfg.live 240 = [] := rfl
@[simp] theorem lz241 : cfg.live 241 = [] := rfl
@[simp] theorem lz242 : cfg.live 242 = [] := rfl
@[simp] theorem lz243 : cfg.live 243 = [] := rfl
@[simp] theorem lz244 : cfg.live 244 = [] := rfl
@[simp] theorem lz245 : cfg.live 245 = [] := rfl
theorem lv8 : cfg.live 8 = [(2, .b []), (6, .p), (7, .p), (4, .p)] := rfl
theorem lv23 : cfg.live 23 = [(1, .b []), (3, .p), (6, .p), (9, .p), (8, .s 1 []), (4, .p), (7, .p), (5, .s 1 []), (1008, .x 13), (1009, .x 13), (1007, .x 13)] := rfl
theorem lv27 : cfg.live 27 = [(0, .p), (1, .p), (5, .p), (4, .p)] := rfl
theorem lv39 : cfg.live 39 = [(21, .p), (20, .p), (5, .p), (26, .p), (25, .p), (24, .p), (6, .p), (7, .s 1 []), (3, .p), (11, .p), (54, .p), (53, .p), (10, .b [0, 2]), (4, .s 4 []), (80, .p), (79, .p), (1026, .x 24), (1025, .x 24), (1024, .x 24), (1006, .x 24), (1007, .x 24), (1010, .x 24), (1011, .x 24), (1054, .x 24), (1053, .x 24), (1021, .x 25), (1020, .x 25), (1005, .x 25), (1003, .x 25)] := rfl
theorem lv40 : cfg.live 40 = [(1, .b []), (5, .p), (4, .p), (3, .s 4 []), (9, .p), (8, .s 4 [])] := rfl
theorem lv41 : cfg.live 41 = [(0, .p), (1, .p), (5, .p), (4, .p)] := rfl
theorem lv42 : cfg.live 42 = [(10, .p), (9, .p), (8, .p), (1, .p), (5, .p)] := rfl
theorem lv43 : cfg.live 43 = [(6, .p), (0, .p), (1, .p), (5, .p)] := rfl
theorem lv44 : cfg.live 44 = [(1, .b []), (3, .s 1 []), (10, .p), (9, .p)] := rfl
theorem lv45 : cfg.live 45 = [(4, .p), (0, .p), (5, .p), (3, .s 1 [])] := rfl
theorem lv46 : cfg.live 46 = [(2, .b []), (3, .b []), (15, .p), (14, .p), (13, .p), (5, .p), (4, .p)] := rfl
theorem lv47 : cfg.live 47 = [(6, .p), (2, .b []), (3, .b []), (5, .s 1 [])] := rfl
theorem lv48 : cfg.live 48 = [(5, .p), (0, .p), (1, .p), (4, .p)] := rfl
theorem lv49 : cfg.live 49 = [(7, .p), (6, .p), (5, .s 1 [])] := rfl
theorem lv63 : cfg.live 63 = [(15, .p), (14, .p), (13, .p), (28, .p), (27, .p), (26, .p), (4, .p), (3, .s 1 [2])] := rfl
theorem lv65 : cfg.live 65 = [(2, .r 1), (3, .b [0, 2, 2])] := rfl
theorem lv67 : cfg.live 67 = [(0, .p), (1, .p), (13, .p), (12, .p), (4, .p)] := rfl
theorem lv68 : cfg.live 68 = [(4, .p), (1, .b []), (3, .s 1 [])] := rfl
theorem lv69 : cfg.live 69 = [(2, .p), (7, .s 1 []), (8, .p), (9, .p), (1, .p), (12, .p), (3, .b []), (11, .s 1 []), (1009, .x 6), (1008, .x 13)] := rfl
theorem lv71 : cfg.live 71 = [(1, .p), (2, .p), (0, .p)] := rfl
theorem lv84 : cfg.live 84 = [(1, .b []), (4, .p), (3, .p), (5, .p), (2, .p), (1005, .x 6)] := rfl
theorem lv86 : cfg.live 86 = [(15, .p), (14, .p), (13, .p), (22, .p), (21, .p), (20, .p), (4, .p), (3, .s 1 [2])] := rfl
theorem lv87 : cfg.live 87 = [(14, .p), (13, .p), (12, .p), (21, .p), (20, .p), (19, .p), (3, .p), (5, .p), (4, .s 2 [])] := rfl
theorem lv88 : cfg.live 88 = [(0, .p), (21, .p), (20, .p), (19, .p), (2, .p), (7, .s 1 []), (8, .s 1 []), (45, .p), (44, .p), (52, .p), (51, .p), (50, .s 1 []), (61, .p), (60, .p), (59, .p), (11, .s 1 []), (1021, .x 10), (1020, .x 10), (1019, .x 10), (1008, .x 14), (1061, .x 24), (1060, .x 24), (1059, .x 24), (1011, .x 25), (1052, .x 25), (1051, .x 25), (1050, .x 25)] := rfl
theorem lv89 : cfg.live 89 = [(0, .p), (10, .p), (9, .p), (8, .p), (1, .p), (5, .p)] := rfl
theorem lv90 : cfg.live 90 = [(3, .b []), (2, .p), (8, .p), (6, .b []), (10, .p), (9, .b [0, 2])] := rfl
theorem lv91 : cfg.live 91 = [(6, .p), (0, .p), (1, .p), (5, .p)] := rfl
theorem lv104 : cfg.live 104 = [(1, .b []), (2, .b []), (3, .p), (5, .p), (4, .p), (6, .b []), (7, .p), (1006, .x 9), (1007, .x 9), (1005, .x 5), (1004, .x 5)] := rfl
theorem lv113 : cfg.live 113 = [(1, .b []), (3, .s 1 []), (13, .p), (12, .p), (23, .p), (22, .p), (21, .p)] := rfl
theorem lv114 : cfg.live 114 = [(2, .p), (3, .p), (1, .p), (0, .p)] := rfl
theorem lv118 : cfg.live 118 = [(0, .p), (1, .p), (20, .p), (19, .p), (18, .p)] := rfl
theorem lv119 : cfg.live 119 = [(0, .p), (2, .p), (3, .p)] := rfl
theorem lv138 : cfg.live 138 = [(8, .p), (3, .b []), (2, .p), (1, .p), (7, .s 1 [])] := rfl
theorem lv139 : cfg.live 139 = [(3, .p), (1, .p), (9, .p), (2, .p), (4, .b []), (8, .p)] := rfl
theorem lv140 : cfg.live 140 = [(0, .p), (8, .p), (7, .p), (1, .p), (4, .p)] := rfl
theorem lv141 : cfg.live 141 = [(6, .p), (8, .p), (1, .p), (0, .p), (7, .p), (2, .p)] := rfl
theorem lv167 : cfg.live 167 = [(2, .p), (1, .p), (0, .p), (3, .p), (8, .p), (9, .p)] := rfl
theorem lv179 : cfg.live 179 = [(10, .p), (1, .p), (3, .p), (9, .s 1 []), (11, .p), (0, .p), (13, .p), (12, .p), (2, .p)] := rfl
theorem lv180 : cfg.live 180 = [(1, .p), (8, .p), (2, .p), (9, .p), (3, .p), (0, .p)] := rfl
theorem lv187 : cfg.live 187 = [(1, .p), (6, .p), (2, .p), (7, .p), (0, .p)] := rfl
end Go.Proofs.YtdkknhpdjcdmfaaGreat.Abs
