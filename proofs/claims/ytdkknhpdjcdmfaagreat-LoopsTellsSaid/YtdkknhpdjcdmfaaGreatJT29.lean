/- Facts of the program's types and functions. Printed by ty.py. -/
import Derived.Test.YtdkknhpdjcdmfaaGreatJT28
import Derived.Test.YtdkknhpdjcdmfaaGreatProg
namespace Go.Proofs.YtdkknhpdjcdmfaaGreat.Abs
open Go Go.Proofs

theorem tsz0 : tsize Tryz.prog 0 = some 1 := by kernel_rfl
theorem tag0 : tagg Tryz.prog 0 = some false := by kernel_rfl
theorem tsz1 : tsize Tryz.prog 1 = some 1 := by kernel_rfl
theorem tag1 : tagg Tryz.prog 1 = some false := by kernel_rfl
theorem tz1 : tzero Tryz.prog 1 = some [.nilf] := by kernel_rfl
theorem tsz2 : tsize Tryz.prog 2 = some 1 := by kernel_rfl
theorem tag2 : tagg Tryz.prog 2 = some false := by kernel_rfl
theorem tz2 : tzero Tryz.prog 2 = some [.int .i64 0] := by kernel_rfl
theorem und2 : Tryz.prog.underlying 2 = some (.int .i64) := by kernel_rfl
theorem tsz3 : tsize Tryz.prog 3 = some 1 := by kernel_rfl
theorem tag3 : tagg Tryz.prog 3 = some false := by kernel_rfl
theorem tz3 : tzero Tryz.prog 3 = some [.int .i64 0] := by kernel_rfl
theorem und3 : Tryz.prog.underlying 3 = some (.int .i64) := by kernel_rfl
theorem tsz4 : tsize Tryz.prog 4 = some 1 := by kernel_rfl
theorem tag4 : tagg Tryz.prog 4 = some false := by kernel_rfl
theorem tz4 : tzero Tryz.prog 4 = some [.bool false] := by kernel_rfl
theorem und4 : Tryz.prog.underlying 4 = some .bool := by kernel_rfl
theorem bo4 : isBo Tryz.prog 4 = true := by kernel_rfl
theorem tsz5 : tsize Tryz.prog 5 = some 1 := by kernel_rfl
theorem tag5 : tagg Tryz.prog 5 = some false := by kernel_rfl
theorem tz5 : tzero Tryz.prog 5 = some [.int .u8 0] := by kernel_rfl
theorem und5 : Tryz.prog.underlying 5 = some (.int .u8) := by kernel_rfl
theorem tsz6 : tsize Tryz.prog 6 = some 1 := by kernel_rfl
theorem tag6 : tagg Tryz.prog 6 = some false := by kernel_rfl
theorem tz6 : tzero Tryz.prog 6 = some [.int .u8 0] := by kernel_rfl
theorem und6 : Tryz.prog.underlying 6 = some (.int .u8) := by kernel_rfl
theorem tsz7 : tsize Tryz.prog 7 = some 4 := by kernel_rfl
theorem tag7 : tagg Tryz.prog 7 = some true := by kernel_rfl
theorem tz7 : tzero Tryz.prog 7 = some [.int .i64 0, .int .i64 0, .bool false, .int .u8 0] := by kernel_rfl
theorem bld7 (parts : List (Nat × V)) : buildV Tryz.prog 7 parts = (fillK [(0, 1), (1, 1), (2, 1), (3, 1)] [.int .i64 0, .int .i64 0, .bool false, .int .u8 0] parts).map .agg := build_struct (by kernel_rfl) (by kernel_rfl) parts
theorem eqi7 (xs ys : List Leaf) : eqV Tryz.prog 7 (.agg xs) (.agg ys) = eqInfo xs ys [(false, 0, 2), (false, 1, 2), (false, 2, 1), (false, 3, 2)] := eqV_info (by kernel_rfl) xs ys
theorem fo7_0 : fOff Tryz.prog 7 0 = some (0, 2) := by kernel_rfl
theorem fo7_1 : fOff Tryz.prog 7 1 = some (1, 3) := by kernel_rfl
theorem fo7_2 : fOff Tryz.prog 7 2 = some (2, 4) := by kernel_rfl
theorem fo7_3 : fOff Tryz.prog 7 3 = some (3, 6) := by kernel_rfl
theorem tsz8 : tsize Tryz.prog 8 = some 4 := by kernel_rfl
theorem tag8 : tagg Tryz.prog 8 = some true := by kernel_rfl
theorem tz8 : tzero Tryz.prog 8 = some [.int .i64 0, .int .i64 0, .bool false, .int .u8 0] := by kernel_rfl
theorem bld8 (parts : List (Nat × V)) : buildV Tryz.prog 8 parts = (fillK [(0, 1), (1, 1), (2, 1), (3, 1)] [.int .i64 0, .int .i64 0, .bool false, .int .u8 0] parts).map .agg := build_struct (by kernel_rfl) (by kernel_rfl) parts
theorem eqi8 (xs ys : List Leaf) : eqV Tryz.prog 8 (.agg xs) (.agg ys) = eqInfo xs ys [(false, 0, 2), (false, 1, 2), (false, 2, 1), (false, 3, 2)] := eqV_info (by kernel_rfl) xs ys
theorem fo8_0 : fOff Tryz.prog 8 0 = some (0, 2) := by kernel_rfl
theorem fo8_1 : fOff Tryz.prog 8 1 = some (1, 3) := by kernel_rfl
theorem fo8_2 : fOff Tryz.prog 8 2 = some (2, 4) := by kernel_rfl
theorem fo8_3 : fOff Tryz.prog 8 3 = some (3, 6) := by kernel_rfl
theorem tsz9 : tsize Tryz.prog 9 = some 1 := by kernel_rfl
theorem tag9 : tagg Tryz.prog 9 = some false := by kernel_rfl
theorem tz9 : tzero Tryz.prog 9 = some [.str []] := by kernel_rfl
theorem str9 : isStr Tryz.prog 9 = true := by kernel_rfl
theorem und9 : Tryz.prog.underlying 9 = some .string := by kernel_rfl
theorem tsz10 : tsize Tryz.prog 10 = some 1 := by kernel_rfl
theorem tag10 : tagg Tryz.prog 10 = some false := by kernel_rfl
theorem tz10 : tzero Tryz.prog 10 = some [.str []] := by kernel_rfl
theorem str10 : isStr Tryz.prog 10 = true := by kernel_rfl
theorem und10 : Tryz.prog.underlying 10 = some .string := by kernel_rfl
theorem tsz11 : tsize Tryz.prog 11 = some 1 := by kernel_rfl
theorem tag11 : tagg Tryz.prog 11 = some false := by kernel_rfl
theorem tz11 : tzero Tryz.prog 11 = some [.str []] := by kernel_rfl
theorem str11 : isStr Tryz.prog 11 = true := by kernel_rfl
theorem und11 : Tryz.prog.underlying 11 = some .string := by kernel_rfl
theorem tsz12 : tsize Tryz.prog 12 = some 1 := by kernel_rfl
theorem tag12 : tagg Tryz.prog 12 = some false := by kernel_rfl
theorem tz12 : tzero Tryz.prog 12 = some [.int .u64 0] := by kernel_rfl
theorem und12 : Tryz.prog.underlying 12 = some (.int .u64) := by kernel_rfl
theorem tsz13 : tsize Tryz.prog 13 = some 2 := by kernel_rfl
theorem tag13 : tagg Tryz.prog 13 = some true := by kernel_rfl
theorem tz13 : tzero Tryz.prog 13 = some [.str [], .int .u64 0] := by kernel_rfl
theorem bld13 (parts : List (Nat × V)) : buildV Tryz.prog 13 parts = (fillK [(0, 1), (1, 1)] [.str [], .int .u64 0] parts).map .agg := build_struct (by kernel_rfl) (by kernel_rfl) parts
theorem fo13_0 : fOff Tryz.prog 13 0 = some (0, 9) := by kernel_rfl
theorem fo13_1 : fOff Tryz.prog 13 1 = some (1, 12) := by kernel_rfl
theorem tsz14 : tsize Tryz.prog 14 = some 2 := by kernel_rfl
theorem tag14 : tagg Tryz.prog 14 = some true := by kernel_rfl
theorem tz14 : tzero Tryz.prog 14 = some [.str [], .int .u64 0] := by kernel_rfl
theorem bld14 (parts : List (Nat × V)) : buildV Tryz.prog 14 parts = (fillK [(0, 1), (1, 1)] [.str [], .int .u64 0] parts).map .agg := build_struct (by kernel_rfl) (by kernel_rfl) parts
theorem fo14_0 : fOff Tryz.prog 14 0 = some (0, 9) := by kernel_rfl
theorem fo14_1 : fOff Tryz.prog 14 1 = some (1, 12) := by kernel_rfl
theorem tsz15 : tsize Tryz.prog 15 = some 1 := by kernel_rfl
theorem tag15 : tagg Tryz.prog 15 = some false := by kernel_rfl
theorem tz15 : tzero Tryz.prog 15 = some [.nilp] := by kernel_rfl
theorem pt15 : isPt Tryz.prog 15 = true := by kernel_rfl
theorem und15 : Tryz.prog.underlying 15 = some (.pointer 285) := by kernel_rfl
theorem tsz16 : tsize Tryz.prog 16 = some 1 := by kernel_rfl
theorem tag16 : tagg Tryz.prog 16 = some false := by kernel_rfl
theorem tz16 : tzero Tryz.prog 16 = some [.nilp] := by kernel_rfl
theorem pt16 : isPt Tryz.prog 16 = true := by kernel_rfl
theorem und16 : Tryz.prog.underlying 16 = some (.pointer 288) := by kernel_rfl
theorem tsz17 : tsize Tryz.prog 17 = some 1 := by kernel_rfl
theorem tag17 : tagg Tryz.prog 17 = some false := by kernel_rfl
theorem tz17 : tzero Tryz.prog 17 = some [.nilp] := by kernel_rfl
theorem pt17 : isPt Tryz.prog 17 = true := by kernel_rfl
theorem und17 : Tryz.prog.underlying 17 = some (.pointer 296) := by kernel_rfl
theorem tsz18 : tsize Tryz.prog 18 = some 1 := by kernel_rfl
theorem tag18 : tagg Tryz.prog 18 = some true := by kernel_rfl
theorem tz18 : tzero Tryz.prog 18 = some [.nilp] := by kernel_rfl
theorem bld18 (parts : List (Nat × V)) : buildV Tryz.prog 18 parts = (fillK [(0, 1)] [.nilp] parts).map .agg := build_struct (by kernel_rfl) (by kernel_rfl) parts
theorem fo18_0 : fOff Tryz.prog 18 0 = some (0, 17) := by kernel_rfl
theorem tsz19 : tsize Tryz.prog 19 = some 1 := by kernel_rfl
theorem tag19 : tagg Tryz.prog 19 = some true := by kernel_rfl
theorem tz19 : tzero Tryz.prog 19 = some [.nilp] := by kernel_rfl
theorem bld19 (parts : List (Nat × V)) : buildV Tryz.prog 19 parts = (fillK [(0, 1)] [.nilp] parts).map .agg := build_struct (by kernel_rfl) (by kernel_rfl) parts
theorem fo19_0 : fOff Tryz.prog 19 0 = some (0, 17) := by kernel_rfl
theorem tsz20 : tsize Tryz.prog 20 = some 1 := by kernel_rfl
theorem tag20 : tagg Tryz.prog 20 = some false := by kernel_rfl
theorem tsz21 : tsize Tryz.prog 21 = some 1 := by kernel_rfl
theorem tag21 : tagg Tryz.prog 21 = some false := by kernel_rfl
theorem tz21 : tzero Tryz.prog 21 = some [.int .i32 0] := by kernel_rfl
theorem und21 : Tryz.prog.underlying 21 = some (.int .i32) := by kernel_rfl
theorem tsz22 : tsize Tryz.prog 22 = some 1 := by kernel_rfl
theorem tag22 : tagg Tryz.prog 22 = some false := by kernel_rfl
theorem tz22 : tzero Tryz.prog 22 = some [.nils] := by kernel_rfl
theorem tel22 : telem Tryz.prog 22 = some 44 := by kernel_rfl
theorem isl22 : isSl Tryz.prog 22 = true := by kernel_rfl
theorem E22 : ElemT Tryz.prog 22 5 80 [.str [], .nils, .int .i64 0, .nils, .int .i64 0] := .mk' (e := 44) (by kernel_rfl) (by kernel_rfl) (by kernel_rfl) rfl (by decide) (by decide)
theorem app22 {H : Heap} (x : V) (id sz : Nat) : appendV Tryz.prog none H 22 22 (.one (.sl id 5 sz 0 sz)) x = appK 5 80 H id sz (rowAt H id sz) (srcOf Tryz.prog H 5 22 x) := append_sl E22 x id sz
theorem apn22 {H : Heap} (x : V) : appendV Tryz.prog none H 22 22 (.one .nils) x = appN 5 80 H .nils (srcOf Tryz.prog H 5 22 x) := append_nils E22 x
theorem apz22 {H : Heap} (x : V) : appendV Tryz.prog none H 22 22 (.one .zsl) x = appN 5 80 H .zsl (srcOf Tryz.prog H 5 22 x) := append_zsl E22 x
theorem bsa22 {H : Heap} (x0 x1 x2 x3 x4 : Leaf) : buildSliceV Tryz.prog none H 22 1 [(0, .agg [x0, x1, x2, x3, x4])] = some (.one (.sl H.length 5 1 0 1), H ++ [some (.row 5 [[x0, x1, x2, x3, x4]])], []) := build_agg E22 rfl (by decide)
theorem tsz23 : tsize Tryz.prog 23 = some 1 := by kernel_rfl
theorem tag23 : tagg Tryz.prog 23 = some true := by kernel_rfl
theorem tz23 : tzero Tryz.prog 23 = some [.nils] := by kernel_rfl
theorem bld23 (parts : List (Nat × V)) : buildV Tryz.prog 23 parts = (fillK [(0, 1)] [.nils] parts).map .agg := build_struct (by kernel_rfl) (by kernel_rfl) parts
theorem fo23_0 : fOff Tryz.prog 23 0 = some (0, 22) := by kernel_rfl
theorem tsz24 : tsize Tryz.prog 24 = some 1 := by kernel_rfl
theorem tag24 : tagg Tryz.prog 24 = some true := by kernel_rfl
theorem tz24 : tzero Tryz.prog 24 = some [.nils] := by kernel_rfl
theorem bld24 (parts : List (Nat × V)) : buildV Tryz.prog 24 parts = (fillK [(0, 1)] [.nils] parts).map .agg := build_struct (by kernel_rfl) (by kernel_rfl) parts
theorem fo24_0 : fOff Tryz.prog 24 0 = some (0, 22) := by kernel_rfl
theorem tsz25 : tsize Tryz.prog 25 = some 1 := by kernel_rfl
theorem tag25 : tagg Tryz.prog 25 = some false := by kernel_rfl
theorem tz25 : tzero Tryz.prog 25 = some [.nils] := by kernel_rfl
theorem tel25 : telem Tryz.prog 25 = some 2 := by kernel_rfl
theorem isl25 : isSl Tryz.prog 25 = true := by kernel_rfl
theorem E25 : ElemT Tryz.prog 25 1 8 [.int .i64 0] := .mk' (e := 2) (by kernel_rfl) (by kernel_rfl) (by kernel_rfl) rfl (by decide) (by decide)
theorem app25 {H : Heap} (x : V) (id sz : Nat) : appendV Tryz.prog none H 25 25 (.one (.sl id 1 sz 0 sz)) x = appK 1 8 H id sz (rowAt H id sz) (srcOf Tryz.prog H 1 25 x) := append_sl E25 x id sz
theorem apn25 {H : Heap} (x : V) : appendV Tryz.prog none H 25 25 (.one .nils) x = appN 1 8 H .nils (srcOf Tryz.prog H 1 25 x) := append_nils E25 x
theorem apz25 {H : Heap} (x : V) : appendV Tryz.prog none H 25 25 (.one .zsl) x = appN 1 8 H .zsl (srcOf Tryz.prog H 1 25 x) := append_zsl E25 x
theorem bs25 {H : Heap} (x : Leaf) : buildSliceV Tryz.prog none H 25 1 [(0, .one x)] = some (.one (.sl H.length 1 1 0 1), H ++ [some (.row 1 [[x]])], []) := build_one E25 x
theorem tsz26 : tsize Tryz.prog 26 = some 1 := by kernel_rfl
theorem tag26 : tagg Tryz.prog 26 = some false := by kernel_rfl
theorem tz26 : tzero Tryz.prog 26 = some [.int .u16 0] := by kernel_rfl
theorem und26 : Tryz.prog.underlying 26 = some (.int .u16) := by kernel_rfl
theorem tsz27 : tsize Tryz.prog 27 = some 1 := by kernel_rfl
theorem tag27 : tagg Tryz.prog 27 = some false := by kernel_rfl
theorem tz27 : tzero Tryz.prog 27 = some [.nilf] := by kernel_rfl
theorem tsz28 : tsize Tryz.prog 28 = some 1 := by kernel_rfl
theorem tag28 : tagg Tryz.prog 28 = some false := by kernel_rfl
theorem tz28 : tzero Tryz.prog 28 = some [.nilf] := by kernel_rfl
theorem tsz29 : tsize Tryz.prog 29 = some 1 := by kernel_rfl
theorem tag29 : tagg Tryz.prog 29 = some false := by kernel_rfl
theorem tz29 : tzero Tryz.prog 29 = some [.nilf] := by kernel_rfl
theorem tsz30 : tsize Tryz.prog 30 = some 1 := by kernel_rfl
theorem tag30 : tagg Tryz.prog 30 = some false := by kernel_rfl
theorem tz30 : tzero Tryz.prog 30 = some [.int .i64 0] := by kernel_rfl
theorem und30 : Tryz.prog.underlying 30 = some (.int .i64) := by kernel_rfl
theorem tsz31 : tsize Tryz.prog 31 = some 2 := by kernel_rfl
theorem tag31 : tagg Tryz.prog 31 = some true := by kernel_rfl
theorem tz31 : tzero Tryz.prog 31 = some [.int .i64 0, .int .i64 0] := by kernel_rfl
theorem bld31 (parts : List (Nat × V)) : buildV Tryz.prog 31 parts = (fillK [(0, 1), (1, 1)] [.int .i64 0, .int .i64 0] parts).map .agg := build_struct (by kernel_rfl) (by kernel_rfl) parts
theorem eqi31 (xs ys : List Leaf) : eqV Tryz.prog 31 (.agg xs) (.agg ys) = eqInfo xs ys [(false, 0, 2), (false, 1, 2)] := eqV_info (by kernel_rfl) xs ys
theorem fo31_0 : fOff Tryz.prog 31 0 = some (0, 30) := by kernel_rfl
theorem fo31_1 : fOff Tryz.prog 31 1 = some (1, 3) := by kernel_rfl
theorem tsz32 : tsize Tryz.prog 32 = some 2 := by kernel_rfl
theorem tag32 : tagg Tryz.prog 32 = some true := by kernel_rfl
theorem tz32 : tzero Tryz.prog 32 = some [.int .i64 0, .int .i64 0] := by kernel_rfl
theorem bld32 (parts : List (Nat × V)) : buildV Tryz.prog 32 parts = (fillK [(0, 1), (1, 1)] [.int .i64 0, .int .i64 0] parts).map .agg := build_struct (by kernel_rfl) (by kernel_rfl) parts
theorem eqi32 (xs ys : List Leaf) : eqV Tryz.prog 32 (.agg xs) (.agg ys) = eqInfo xs ys [(false, 0, 2), (false, 1, 2)] := eqV_info (by kernel_rfl) xs ys
theorem fo32_0 : fOff Tryz.prog 32 0 = some (0, 30) := by kernel_rfl
theorem fo32_1 : fOff Tryz.prog 32 1 = some (1, 3) := by kernel_rfl
theorem tsz33 : tsize Tryz.prog 33 = some 1 := by kernel_rfl
theorem tag33 : tagg Tryz.prog 33 = some false := by kernel_rfl
theorem tz33 : tzero Tryz.prog 33 = some [.nilf] := by kernel_rfl
theorem tsz34 : tsize Tryz.prog 34 = some 1 := by kernel_rfl
theorem tag34 : tagg Tryz.prog 34 = some false := by kernel_rfl
theorem tz34 : tzero Tryz.prog 34 = some [.nilf] := by kernel_rfl
theorem tsz35 : tsize Tryz.prog 35 = some 6 := by kernel_rfl
theorem tag35 : tagg Tryz.prog 35 = some true := by kernel_rfl
theorem tz35 : tzero Tryz.prog 35 = some [.nils, .int .i64 0, .int .i64 0, .int .i64 0, .int .i64 0, .int .i64 0] := by kernel_rfl
theorem bld35 (parts : List (Nat × V)) : buildV Tryz.prog 35 parts = (fillK [(0, 1), (1, 1), (2, 1), (3, 1), (4, 1), (5, 1)] [.nils, .int .i64 0, .int .i64 0, .int .i64 0, .int .i64 0, .int .i64 0] parts).map .agg := build_struct (by kernel_rfl) (by kernel_rfl) parts
theorem fo35_0 : fOff Tryz.prog 35 0 = some (0, 25) := by kernel_rfl
theorem fo35_1 : fOff Tryz.prog 35 1 = some (1, 3) := by kernel_rfl
theorem fo35_2 : fOff Tryz.prog 35 2 = some (2, 3) := by kernel_rfl
theorem fo35_3 : fOff Tryz.prog 35 3 = some (3, 2) := by kernel_rfl
theorem fo35_4 : fOff Tryz.prog 35 4 = some (4, 3) := by kernel_rfl
theorem fo35_5 : fOff Tryz.prog 35 5 = some (5, 3) := by kernel_rfl
theorem tsz36 : tsize Tryz.prog 36 = some 6 := by kernel_rfl
theorem tag36 : tagg Tryz.prog 36 = some true := by kernel_rfl
theorem tz36 : tzero Tryz.prog 36 = some [.nils, .int .i64 0, .int .i64 0, .int .i64 0, .int .i64 0, .int .i64 0] := by kernel_rfl
theorem bld36 (parts : List (Nat × V)) : buildV Tryz.prog 36 parts = (fillK [(0, 1), (1, 1), (2, 1), (3, 1), (4, 1), (5, 1)] [.nils, .int .i64 0, .int .i64 0, .int .i64 0, .int .i64 0, .int .i64 0] parts).map .agg := build_struct (by kernel_rfl) (by kernel_rfl) parts
theorem fo36_0 : fOff Tryz.prog 36 0 = some (0, 25) := by kernel_rfl
theorem fo36_1 : fOff Tryz.prog 36 1 = some (1, 3) := by kernel_rfl
theorem fo36_2 : fOff Tryz.prog 36 2 = some (2, 3) := by kernel_rfl
theorem fo36_3 : fOff Tryz.prog 36 3 = some (3, 2) := by kernel_rfl
theorem fo36_4 : fOff Tryz.prog 36 4 = some (4, 3) := by kernel_rfl
theorem fo36_5 : fOff Tryz.prog 36 5 = some (5, 3) := by kernel_rfl
theorem tsz37 : tsize Tryz.prog 37 = some 1 := by kernel_rfl
theorem tag37 : tagg Tryz.prog 37 = some false := by kernel_rfl
theorem tz37 : tzero Tryz.prog 37 = some [.nilf] := by kernel_rfl
theorem tsz38 : tsize Tryz.prog 38 = some 1 := by kernel_rfl
theorem tag38 : tagg Tryz.prog 38 = some false := by kernel_rfl
theorem tz38 : tzero Tryz.prog 38 = some [.nilf] := by kernel_rfl
theorem tsz39 : tsize Tryz.prog 39 = some 1 := by kernel_rfl
theorem tag39 : tagg Tryz.prog 39 = some false := by kernel_rfl
theorem tz39 : tzero Tryz.prog 39 = some [.nilf] := by kernel_rfl
theorem tsz40 : tsize Tryz.prog 40 = some 1 := by kernel_rfl
theorem tag40 : tagg Tryz.prog 40 = some false := by kernel_rfl
theorem tz40 : tzero Tryz.prog 40 = some [.nilf] := by kernel_rfl
theorem tsz41 : tsize Tryz.prog 41 = some 1 := by kernel_rfl
theorem tag41 : tagg Tryz.prog 41 = some false := by kernel_rfl
theorem tz41 : tzero Tryz.prog 41 = some [.nils] := by kernel_rfl
theorem tel41 : telem Tryz.prog 41 = some 3 := by kernel_rfl
theorem isl41 : isSl Tryz.prog 41 = true := by kernel_rfl
theorem E41 : ElemT Tryz.prog 41 1 8 [.int .i64 0] := .mk' (e := 3) (by kernel_rfl) (by kernel_rfl) (by kernel_rfl) rfl (by decide) (by decide)
theorem app41 {H : Heap} (x : V) (id sz : Nat) : appendV Tryz.prog none H 41 41 (.one (.sl id 1 sz 0 sz)) x = appK 1 8 H id sz (rowAt H id sz) (srcOf Tryz.prog H 1 41 x) := append_sl E41 x id sz
theorem apn41 {H : Heap} (x : V) : appendV Tryz.prog none H 41 41 (.one .nils) x = appN 1 8 H .nils (srcOf Tryz.prog H 1 41 x) := append_nils E41 x
theorem apz41 {H : Heap} (x : V) : appendV Tryz.prog none H 41 41 (.one .zsl) x = appN 1 8 H .zsl (srcOf Tryz.prog H 1 41 x) := append_zsl E41 x
theorem bs41 {H : Heap} (x : Leaf) : buildSliceV Tryz.prog none H 41 1 [(0, .one x)] = some (.one (.sl H.length 1 1 0 1), H ++ [some (.row 1 [[x]])], []) := build_one E41 x
theorem tsz42 : tsize Tryz.prog 42 = some 1 := by kernel_rfl
theorem tag42 : tagg Tryz.prog 42 = some false := by kernel_rfl
theorem tz42 : tzero Tryz.prog 42 = some [.nils] := by kernel_rfl
theorem tel42 : telem Tryz.prog 42 = some 52 := by kernel_rfl
theorem isl42 : isSl Tryz.prog 42 = true := by kernel_rfl
theorem E42 : ElemT Tryz.prog 42 1 24 [.nils] := .mk' (e := 52) (by kernel_rfl) (by kernel_rfl) (by kernel_rfl) rfl (by decide) (by decide)
theorem app42 {H : Heap} (x : V) (id sz : Nat) : appendV Tryz.prog none H 42 42 (.one (.sl id 1 sz 0 sz)) x = appK 1 24 H id sz (rowAt H id sz) (srcOf Tryz.prog H 1 42 x) := append_sl E42 x id sz
theorem apn42 {H : Heap} (x : V) : appendV Tryz.prog none H 42 42 (.one .nils) x = appN 1 24 H .nils (srcOf Tryz.prog H 1 42 x) := append_nils E42 x
theorem apz42 {H : Heap} (x : V) : appendV Tryz.prog none H 42 42 (.one .zsl) x = appN 1 24 H .zsl (srcOf Tryz.prog H 1 42 x) := append_zsl E42 x
theorem bs42 {H : Heap} (x : Leaf) : buildSliceV Tryz.prog none H 42 1 [(0, .one x)] = some (.one (.sl H.length 1 1 0 1), H ++ [some (.row 1 [[x]])], []) := build_one E42 x
theorem tsz43 : tsize Tryz.prog 43 = some 5 := by kernel_rfl
theorem tag43 : tagg Tryz.prog 43 = some true := by kernel_rfl
theorem tz43 : tzero Tryz.prog 43 = some [.str [], .nils, .int .i64 0, .nils, .int .i64 0] := by kernel_rfl
theorem bld43 (parts : List (Nat × V)) : buildV Tryz.prog 43 parts = (fillK [(0, 1), (1, 1), (2, 1), (3, 1), (4, 1)] [.str [], .nils, .int .i64 0, .nils, .int .i64 0] parts).map .agg := build_struct (by kernel_rfl) (by kernel_rfl) parts
theorem fo43_0 : fOff Tryz.prog 43 0 = some (0, 9) := by kernel_rfl
theorem fo43_1 : fOff Tryz.prog 43 1 = some (1, 41) := by kernel_rfl
theorem fo43_2 : fOff Tryz.prog 43 2 = some (2, 3) := by kernel_rfl
theorem fo43_3 : fOff Tryz.prog 43 3 = some (3, 42) := by kernel_rfl
theorem fo43_4 : fOff Tryz.prog 43 4 = some (4, 3) := by kernel_rfl
theorem tsz44 : tsize Tryz.prog 44 = some 5 := by kernel_rfl
theorem tag44 : tagg Tryz.prog 44 = some true := by kernel_rfl
theorem tz44 : tzero Tryz.prog 44 = some [.str [], .nils, .int .i64 0, .nils, .int .i64 0] := by kernel_rfl
theorem bld44 (parts : List (Nat × V)) : buildV Tryz.prog 44 parts = (fillK [(0, 1), (1, 1), (2, 1), (3, 1), (4, 1)] [.str [], .nils, .int .i64 0, .nils, .int .i64 0] parts).map .agg := build_struct (by kernel_rfl) (by kernel_rfl) parts
theorem fo44_0 : fOff Tryz.prog 44 0 = some (0, 9) := by kernel_rfl
theorem fo44_1 : fOff Tryz.prog 44 1 = some (1, 41) := by kernel_rfl
theorem fo44_2 : fOff Tryz.prog 44 2 = some (2, 3) := by kernel_rfl
theorem fo44_3 : fOff Tryz.prog 44 3 = some (3, 42) := by kernel_rfl
theorem fo44_4 : fOff Tryz.prog 44 4 = some (4, 3) := by kernel_rfl
theorem tsz45 : tsize Tryz.prog 45 = some 1 := by kernel_rfl
theorem tag45 : tagg Tryz.prog 45 = some false := by kernel_rfl
theorem tsz46 : tsize Tryz.prog 46 = some 1 := by kernel_rfl
theorem tag46 : tagg Tryz.prog 46 = some false := by kernel_rfl
theorem tz46 : tzero Tryz.prog 46 = some [.nilf] := by kernel_rfl
theorem tsz47 : tsize Tryz.prog 47 = some 1 := by kernel_rfl
theorem tag47 : tagg Tryz.prog 47 = some false := by kernel_rfl
theorem tz47 : tzero Tryz.prog 47 = some [.nilp] := by kernel_rfl
theorem pt47 : isPt Tryz.prog 47 = true := by kernel_rfl
theorem und47 : Tryz.prog.underlying 47 = some (.pointer 107) := by kernel_rfl
theorem tsz48 : tsize Tryz.prog 48 = some 1 := by kernel_rfl
theorem tag48 : tagg Tryz.prog 48 = some false := by kernel_rfl
theorem tz48 : tzero Tryz.prog 48 = some [.nilf] := by kernel_rfl
theorem tsz49 : tsize Tryz.prog 49 = some 1 := by kernel_rfl
theorem tag49 : tagg Tryz.prog 49 = some false := by kernel_rfl
theorem tz49 : tzero Tryz.prog 49 = some [.nils] := by kernel_rfl
theorem tel49 : telem Tryz.prog 49 = some 111 := by kernel_rfl
theorem isl49 : isSl Tryz.prog 49 = true := by kernel_rfl
theorem E49 : ElemT Tryz.prog 49 1 24 [.nils] := .mk' (e := 111) (by kernel_rfl) (by kernel_rfl) (by kernel_rfl) rfl (by decide) (by decide)
theorem app49 {H : Heap} (x : V) (id sz : Nat) : appendV Tryz.prog none H 49 49 (.one (.sl id 1 sz 0 sz)) x = appK 1 24 H id sz (rowAt H id sz) (srcOf Tryz.prog H 1 49 x) := append_sl E49 x id sz
theorem apn49 {H : Heap} (x : V) : appendV Tryz.prog none H 49 49 (.one .nils) x = appN 1 24 H .nils (srcOf Tryz.prog H 1 49 x) := append_nils E49 x
theorem apz49 {H : Heap} (x : V) : appendV Tryz.prog none H 49 49 (.one .zsl) x = appN 1 24 H .zsl (srcOf Tryz.prog H 1 49 x) := append_zsl E49 x
theorem bs49 {H : Heap} (x : Leaf) : buildSliceV Tryz.prog none H 49 1 [(0, .one x)] = some (.one (.sl H.length 1 1 0 1), H ++ [some (.row 1 [[x]])], []) := build_one E49 x
theorem tsz50 : tsize Tryz.prog 50 = some 1 := by kernel_rfl
theorem tag50 : tagg Tryz.prog 50 = some false := by kernel_rfl
theorem tz50 : tzero Tryz.prog 50 = some [.nilf] := by kernel_rfl
theorem tsz51 : tsize Tryz.prog 51 = some 1 := by kernel_rfl
theorem tag51 : tagg Tryz.prog 51 = some false := by kernel_rfl
theorem tz51 : tzero Tryz.prog 51 = some [.nilf] := by kernel_rfl
theorem tsz52 : tsize Tryz.prog 52 = some 1 := by kernel_rfl
theorem tag52 : tagg Tryz.prog 52 = some false := by kernel_rfl
theorem tz52 : tzero Tryz.prog 52 = some [.nils] := by kernel_rfl
theorem tel52 : telem Tryz.prog 52 = some 72 := by kernel_rfl
theorem isl52 : isSl Tryz.prog 52 = true := by kernel_rfl
theorem E52 : ElemT Tryz.prog 52 8 104 [.int .i64 0, .int .i64 0, .int .i64 0, .int .i64 0, .nils, .nils, .str [], .int .i64 0] := .mk' (e := 72) (by kernel_rfl) (by kernel_rfl) (by kernel_rfl) rfl (by decide) (by decide)
theorem app52 {H : Heap} (x : V) (id sz : Nat) : appendV Tryz.prog none H 52 52 (.one (.sl id 8 sz 0 sz)) x = appK 8 104 H id sz (rowAt H id sz) (srcOf Tryz.prog H 8 52 x) := append_sl E52 x id sz
theorem apn52 {H : Heap} (x : V) : appendV Tryz.prog none H 52 52 (.one .nils) x = appN 8 104 H .nils (srcOf Tryz.prog H 8 52 x) := append_nils E52 x
theorem apz52 {H : Heap} (x : V) : appendV Tryz.prog none H 52 52 (.one .zsl) x = appN 8 104 H .zsl (srcOf Tryz.prog H 8 52 x) := append_zsl E52 x
theorem bsa52 {H : Heap} (x0 x1 x2 x3 x4 x5 x6 x7 : Leaf) : buildSliceV Tryz.prog none H 52 1 [(0, .agg [x0, x1, x2, x3, x4, x5, x6, x7])] = some (.one (.sl H.length 8 1 0 1), H ++ [some (.row 8 [[x0, x1, x2, x3, x4, x5, x6, x7]])], []) := build_agg E52 rfl (by decide)
theorem tsz53 : tsize Tryz.prog 53 = some 1 := by kernel_rfl
theorem tag53 : tagg Tryz.prog 53 = some false := by kernel_rfl
theorem tz53 : tzero Tryz.prog 53 = some [.nilf] := by kernel_rfl
theorem tsz54 : tsize Tryz.prog 54 = some 1 := by kernel_rfl
theorem tag54 : tagg Tryz.prog 54 = some false := by kernel_rfl
theorem tz54 : tzero Tryz.prog 54 = some [.nilf] := by kernel_rfl
theorem tsz55 : tsize Tryz.prog 55 = some 1 := by kernel_rfl
theorem tag55 : tagg Tryz.prog 55 = some false := by kernel_rfl
theorem tz55 : tzero Tryz.prog 55 = some [.nilf] := by kernel_rfl
theorem tsz56 : tsize Tryz.prog 56 = some 1 := by kernel_rfl
theorem tag56 : tagg Tryz.prog 56 = some false := by kernel_rfl
theorem tz56 : tzero Tryz.prog 56 = some [.nilf] := by kernel_rfl
theorem tsz57 : tsize Tryz.prog 57 = some 1 := by kernel_rfl
theorem tag57 : tagg Tryz.prog 57 = some false := by kernel_rfl
theorem tz57 : tzero Tryz.prog 57 = some [.nilf] := by kernel_rfl
theorem tsz58 : tsize Tryz.prog 58 = some 1 := by kernel_rfl
theorem tag58 : tagg Tryz.prog 58 = some false := by kernel_rfl
theorem tz58 : tzero Tryz.prog 58 = some [.nils] := by kernel_rfl
theorem tel58 : telem Tryz.prog 58 = some 60 := by kernel_rfl
theorem isl58 : isSl Tryz.prog 58 = true := by kernel_rfl
theorem E58 : ElemT Tryz.prog 58 2 16 [.int .i64 0, .int .i64 0] := .mk' (e := 60) (by kernel_rfl) (by kernel_rfl) (by kernel_rfl) rfl (by decide) (by decide)
theorem app58 {H : Heap} (x : V) (id sz : Nat) : appendV Tryz.prog none H 58 58 (.one (.sl id 2 sz 0 sz)) x = appK 2 16 H id sz (rowAt H id sz) (srcOf Tryz.prog H 2 58 x) := append_sl E58 x id sz
theorem apn58 {H : Heap} (x : V) : appendV Tryz.prog none H 58 58 (.one .nils) x = appN 2 16 H .nils (srcOf Tryz.prog H 2 58 x) := append_nils E58 x
theorem apz58 {H : Heap} (x : V) : appendV Tryz.prog none H 58 58 (.one .zsl) x = appN 2 16 H .zsl (srcOf Tryz.prog H 2 58 x) := append_zsl E58 x
theorem bsa58 {H : Heap} (x0 x1 : Leaf) : buildSliceV Tryz.prog none H 58 1 [(0, .agg [x0, x1])] = some (.one (.sl H.length 2 1 0 1), H ++ [some (.row 2 [[x0, x1]])], []) := build_agg E58 rfl (by decide)
theorem tsz59 : tsize Tryz.prog 59 = some 1 := by kernel_rfl
theorem tag59 : tagg Tryz.prog 59 = some false := by kernel_rfl
theorem tz59 : tzero Tryz.prog 59 = some [.nilf] := by kernel_rfl
theorem tsz60 : tsize Tryz.prog 60 = some 2 := by kernel_rfl
theorem tag60 : tagg Tryz.prog 60 = some true := by kernel_rfl
theorem tz60 : tzero Tryz.prog 60 = some [.int .i64 0, .int .i64 0] := by kernel_rfl
theorem tsz61 : tsize Tryz.prog 61 = some 1 := by kernel_rfl
theorem tag61 : tagg Tryz.prog 61 = some false := by kernel_rfl
theorem tz61 : tzero Tryz.prog 61 = some [.nilf] := by kernel_rfl
theorem tsz62 : tsize Tryz.prog 62 = some 1 := by kernel_rfl
theorem tag62 : tagg Tryz.prog 62 = some false := by kernel_rfl
theorem tz62 : tzero Tryz.prog 62 = some [.nilf] := by kernel_rfl
theorem tsz63 : tsize Tryz.prog 63 = some 1 := by kernel_rfl
theorem tag63 : tagg Tryz.prog 63 = some false := by kernel_rfl
theorem tz63 : tzero Tryz.prog 63 = some [.nils] := by kernel_rfl
theorem tel63 : telem Tryz.prog 63 = some 70 := by kernel_rfl
theorem isl63 : isSl Tryz.prog 63 = true := by kernel_rfl
theorem E63 : ElemT Tryz.prog 63 9 128 [.str [], .nils, .int .i64 0, .nils, .int .i64 0, .nils, .int .i64 0, .int .i64 0, .int .i64 0] := .mk' (e := 70) (by kernel_rfl) (by kernel_rfl) (by kernel_rfl) rfl (by decide) (by decide)
theorem app63 {H : Heap} (x : V) (id sz : Nat) : appendV Tryz.prog none H 63 63 (.one (.sl id 9 sz 0 sz)) x = appK 9 128 H id sz (rowAt H id sz) (srcOf Tryz.prog H 9 63 x) := append_sl E63 x id sz
theorem apn63 {H : Heap} (x : V) : appendV Tryz.prog none H 63 63 (.one .nils) x = appN 9 128 H .nils (srcOf Tryz.prog H 9 63 x) := append_nils E63 x
theorem apz63 {H : Heap} (x : V) : appendV Tryz.prog none H 63 63 (.one .zsl) x = appN 9 128 H .zsl (srcOf Tryz.prog H 9 63 x) := append_zsl E63 x
theorem bsa63 {H : Heap} (x0 x1 x2 x3 x4 x5 x6 x7 x8 : Leaf) : buildSliceV Tryz.prog none H 63 1 [(0, .agg [x0, x1, x2, x3, x4, x5, x6, x7, x8])] = some (.one (.sl H.length 9 1 0 1), H ++ [some (.row 9 [[x0, x1, x2, x3, x4, x5, x6, x7, x8]])], []) := build_agg E63 rfl (by decide)
theorem tsz64 : tsize Tryz.prog 64 = some 1 := by kernel_rfl
theorem tag64 : tagg Tryz.prog 64 = some false := by kernel_rfl
theorem tz64 : tzero Tryz.prog 64 = some [.nils] := by kernel_rfl
theorem tel64 : telem Tryz.prog 64 = some 200 := by kernel_rfl
theorem isl64 : isSl Tryz.prog 64 = true := by kernel_rfl
theorem E64 : ElemT Tryz.prog 64 3 40 [.int .i64 0, .int .i64 0, .nils] := .mk' (e := 200) (by kernel_rfl) (by kernel_rfl) (by kernel_rfl) rfl (by decide) (by decide)
theorem app64 {H : Heap} (x : V) (id sz : Nat) : appendV Tryz.prog none H 64 64 (.one (.sl id 3 sz 0 sz)) x = appK 3 40 H id sz (rowAt H id sz) (srcOf Tryz.prog H 3 64 x) := append_sl E64 x id sz
theorem apn64 {H : Heap} (x : V) : appendV Tryz.prog none H 64 64 (.one .nils) x = appN 3 40 H .nils (srcOf Tryz.prog H 3 64 x) := append_nils E64 x
theorem apz64 {H : Heap} (x : V) : appendV Tryz.prog none H 64 64 (.one .zsl) x = appN 3 40 H .zsl (srcOf Tryz.prog H 3 64 x) := append_zsl E64 x
theorem bsa64 {H : Heap} (x0 x1 x2 : Leaf) : buildSliceV Tryz.prog none H 64 1 [(0, .agg [x0, x1, x2])] = some (.one (.sl H.length 3 1 0 1), H ++ [some (.row 3 [[x0, x1, x2]])], []) := build_agg E64 rfl (by decide)
theorem tsz65 : tsize Tryz.prog 65 = some 9 := by kernel_rfl
theorem tag65 : tagg Tryz.prog 65 = some true := by kernel_rfl
theorem tz65 : tzero Tryz.prog 65 = some [.nils, .nils, .nils, .nils, .int .i64 0, .int .i64 0, .int .i64 0, .int .i64 0, .int .i64 0] := by kernel_rfl
theorem bld65 (parts : List (Nat × V)) : buildV Tryz.prog 65 parts = (fillK [(0, 1), (1, 1), (2, 1), (3, 6)] [.nils, .nils, .nils, .nils, .int .i64 0, .int .i64 0, .int .i64 0, .int .i64 0, .int .i64 0] parts).map .agg := build_struct (by kernel_rfl) (by kernel_rfl) parts
theorem fo65_0 : fOff Tryz.prog 65 0 = some (0, 24) := by kernel_rfl
theorem fo65_1 : fOff Tryz.prog 65 1 = some (1, 63) := by kernel_rfl
theorem fo65_2 : fOff Tryz.prog 65 2 = some (2, 64) := by kernel_rfl
theorem fo65_3 : fOff Tryz.prog 65 3 = some (3, 36) := by kernel_rfl
theorem tsz66 : tsize Tryz.prog 66 = some 9 := by kernel_rfl
theorem tag66 : tagg Tryz.prog 66 = some true := by kernel_rfl
theorem tz66 : tzero Tryz.prog 66 = some [.nils, .nils, .nils, .nils, .int .i64 0, .int .i64 0, .int .i64 0, .int .i64 0, .int .i64 0] := by kernel_rfl
theorem bld66 (parts : List (Nat × V)) : buildV Tryz.prog 66 parts = (fillK [(0, 1), (1, 1), (2, 1), (3, 6)] [.nils, .nils, .nils, .nils, .int .i64 0, .int .i64 0, .int .i64 0, .int .i64 0, .int .i64 0] parts).map .agg := build_struct (by kernel_rfl) (by kernel_rfl) parts
theorem fo66_0 : fOff Tryz.prog 66 0 = some (0, 24) := by kernel_rfl
theorem fo66_1 : fOff Tryz.prog 66 1 = some (1, 63) := by kernel_rfl
theorem fo66_2 : fOff Tryz.prog 66 2 = some (2, 64) := by kernel_rfl
theorem fo66_3 : fOff Tryz.prog 66 3 = some (3, 36) := by kernel_rfl
theorem tsz67 : tsize Tryz.prog 67 = some 1 := by kernel_rfl
theorem tag67 : tagg Tryz.prog 67 = some false := by kernel_rfl
theorem tz67 : tzero Tryz.prog 67 = some [.nilf] := by kernel_rfl
theorem tsz68 : tsize Tryz.prog 68 = some 1 := by kernel_rfl
theorem tag68 : tagg Tryz.prog 68 = some false := by kernel_rfl
theorem tz68 : tzero Tryz.prog 68 = some [.nils] := by kernel_rfl
theorem tel68 : telem Tryz.prog 68 = some 131 := by kernel_rfl
theorem isl68 : isSl Tryz.prog 68 = true := by kernel_rfl
theorem E68 : ElemT Tryz.prog 68 4 32 [.int .i64 0, .int .i64 0, .int .i64 0, .int .i64 0] := .mk' (e := 131) (by kernel_rfl) (by kernel_rfl) (by kernel_rfl) rfl (by decide) (by decide)
theorem app68 {H : Heap} (x : V) (id sz : Nat) : appendV Tryz.prog none H 68 68 (.one (.sl id 4 sz 0 sz)) x = appK 4 32 H id sz (rowAt H id sz) (srcOf Tryz.prog H 4 68 x) := append_sl E68 x id sz
theorem apn68 {H : Heap} (x : V) : appendV Tryz.prog none H 68 68 (.one .nils) x = appN 4 32 H .nils (srcOf Tryz.prog H 4 68 x) := append_nils E68 x
theorem apz68 {H : Heap} (x : V) : appendV Tryz.prog none H 68 68 (.one .zsl) x = appN 4 32 H .zsl (srcOf Tryz.prog H 4 68 x) := append_zsl E68 x
theorem bsa68 {H : Heap} (x0 x1 x2 x3 : Leaf) : buildSliceV Tryz.prog none H 68 1 [(0, .agg [x0, x1, x2, x3])] = some (.one (.sl H.length 4 1 0 1), H ++ [some (.row 4 [[x0, x1, x2, x3]])], []) := build_agg E68 rfl (by decide)
theorem tsz69 : tsize Tryz.prog 69 = some 9 := by kernel_rfl
theorem tag69 : tagg Tryz.prog 69 = some true := by kernel_rfl
theorem tz69 : tzero Tryz.prog 69 = some [.str [], .nils, .int .i64 0, .nils, .int .i64 0, .nils, .int .i64 0, .int .i64 0, .int .i64 0] := by kernel_rfl
theorem bld69 (parts : List (Nat × V)) : buildV Tryz.prog 69 parts = (fillK [(0, 5), (5, 1), (6, 1), (7, 1), (8, 1)] [.str [], .nils, .int .i64 0, .nils, .int .i64 0, .nils, .int .i64 0, .int .i64 0, .int .i64 0] parts).map .agg := build_struct (by kernel_rfl) (by kernel_rfl) parts
theorem fo69_0 : fOff Tryz.prog 69 0 = some (0, 44) := by kernel_rfl
theorem fo69_1 : fOff Tryz.prog 69 1 = some (5, 68) := by kernel_rfl
theorem fo69_2 : fOff Tryz.prog 69 2 = some (6, 3) := by kernel_rfl
theorem fo69_3 : fOff Tryz.prog 69 3 = some (7, 3) := by kernel_rfl
theorem fo69_4 : fOff Tryz.prog 69 4 = some (8, 3) := by kernel_rfl
theorem tsz70 : tsize Tryz.prog 70 = some 9 := by kernel_rfl
theorem tag70 : tagg Tryz.prog 70 = some true := by kernel_rfl
theorem tz70 : tzero Tryz.prog 70 = some [.str [], .nils, .int .i64 0, .nils, .int .i64 0, .nils, .int .i64 0, .int .i64 0, .int .i64 0] := by kernel_rfl
theorem bld70 (parts : List (Nat × V)) : buildV Tryz.prog 70 parts = (fillK [(0, 5), (5, 1), (6, 1), (7, 1), (8, 1)] [.str [], .nils, .int .i64 0, .nils, .int .i64 0, .nils, .int .i64 0, .int .i64 0, .int .i64 0] parts).map .agg := build_struct (by kernel_rfl) (by kernel_rfl) parts
theorem fo70_0 : fOff Tryz.prog 70 0 = some (0, 44) := by kernel_rfl
theorem fo70_1 : fOff Tryz.prog 70 1 = some (5, 68) := by kernel_rfl
theorem fo70_2 : fOff Tryz.prog 70 2 = some (6, 3) := by kernel_rfl
theorem fo70_3 : fOff Tryz.prog 70 3 = some (7, 3) := by kernel_rfl
theorem fo70_4 : fOff Tryz.prog 70 4 = some (8, 3) := by kernel_rfl
theorem tsz71 : tsize Tryz.prog 71 = some 8 := by kernel_rfl
theorem tag71 : tagg Tryz.prog 71 = some true := by kernel_rfl
theorem tz71 : tzero Tryz.prog 71 = some [.int .i64 0, .int .i64 0, .int .i64 0, .int .i64 0, .nils, .nils, .str [], .int .i64 0] := by kernel_rfl
theorem bld71 (parts : List (Nat × V)) : buildV Tryz.prog 71 parts = (fillK [(0, 1), (1, 1), (2, 1), (3, 1), (4, 1), (5, 1), (6, 1), (7, 1)] [.int .i64 0, .int .i64 0, .int .i64 0, .int .i64 0, .nils, .nils, .str [], .int .i64 0] parts).map .agg := build_struct (by kernel_rfl) (by kernel_rfl) parts
theorem fo71_0 : fOff Tryz.prog 71 0 = some (0, 3) := by kernel_rfl
theorem fo71_1 : fOff Tryz.prog 71 1 = some (1, 3) := by kernel_rfl
theorem fo71_2 : fOff Tryz.prog 71 2 = some (2, 2) := by kernel_rfl
theorem fo71_3 : fOff Tryz.prog 71 3 = some (3, 3) := by kernel_rfl
theorem fo71_4 : fOff Tryz.prog 71 4 = some (4, 41) := by kernel_rfl
theorem fo71_5 : fOff Tryz.prog 71 5 = some (5, 41) := by kernel_rfl
theorem fo71_6 : fOff Tryz.prog 71 6 = some (6, 9) := by kernel_rfl
theorem fo71_7 : fOff Tryz.prog 71 7 = some (7, 3) := by kernel_rfl
theorem tsz72 : tsize Tryz.prog 72 = some 8 := by kernel_rfl
theorem tag72 : tagg Tryz.prog 72 = some true := by kernel_rfl
theorem tz72 : tzero Tryz.prog 72 = some [.int .i64 0, .int .i64 0, .int .i64 0, .int .i64 0, .nils, .nils, .str [], .int .i64 0] := by kernel_rfl
theorem bld72 (parts : List (Nat × V)) : buildV Tryz.prog 72 parts = (fillK [(0, 1), (1, 1), (2, 1), (3, 1), (4, 1), (5, 1), (6, 1), (7, 1)] [.int .i64 0, .int .i64 0, .int .i64 0, .int .i64 0, .nils, .nils, .str [], .int .i64 0] parts).map .agg := build_struct (by kernel_rfl) (by kernel_rfl) parts
theorem fo72_0 : fOff Tryz.prog 72 0 = some (0, 3) := by kernel_rfl
theorem fo72_1 : fOff Tryz.prog 72 1 = some (1, 3) := by kernel_rfl
theorem fo72_2 : fOff Tryz.prog 72 2 = some (2, 2) := by kernel_rfl
theorem fo72_3 : fOff Tryz.prog 72 3 = some (3, 3) := by kernel_rfl
theorem fo72_4 : fOff Tryz.prog 72 4 = some (4, 41) := by kernel_rfl
theorem fo72_5 : fOff Tryz.prog 72 5 = some (5, 41) := by kernel_rfl
theorem fo72_6 : fOff Tryz.prog 72 6 = some (6, 9) := by kernel_rfl
theorem fo72_7 : fOff Tryz.prog 72 7 = some (7, 3) := by kernel_rfl
theorem tsz73 : tsize Tryz.prog 73 = some 1 := by kernel_rfl
theorem tag73 : tagg Tryz.prog 73 = some false := by kernel_rfl
theorem tz73 : tzero Tryz.prog 73 = some [.nilf] := by kernel_rfl
theorem tsz74 : tsize Tryz.prog 74 = some 1 := by kernel_rfl
theorem tag74 : tagg Tryz.prog 74 = some false := by kernel_rfl
theorem tz74 : tzero Tryz.prog 74 = some [.nilf] := by kernel_rfl
theorem tsz75 : tsize Tryz.prog 75 = some 3 := by kernel_rfl
theorem tag75 : tagg Tryz.prog 75 = some true := by kernel_rfl
theorem tz75 : tzero Tryz.prog 75 = some [.int .i64 0, .int .i64 0, .int .i64 0] := by kernel_rfl
theorem bld75 (parts : List (Nat × V)) : buildV Tryz.prog 75 parts = (fillK [(0, 1), (1, 1), (2, 1)] [.int .i64 0, .int .i64 0, .int .i64 0] parts).map .agg := build_struct (by kernel_rfl) (by kernel_rfl) parts
theorem eqi75 (xs ys : List Leaf) : eqV Tryz.prog 75 (.agg xs) (.agg ys) = eqInfo xs ys [(false, 0, 2), (false, 1, 2), (false, 2, 2)] := eqV_info (by kernel_rfl) xs ys
theorem fo75_0 : fOff Tryz.prog 75 0 = some (0, 3) := by kernel_rfl
theorem fo75_1 : fOff Tryz.prog 75 1 = some (1, 2) := by kernel_rfl
theorem fo75_2 : fOff Tryz.prog 75 2 = some (2, 3) := by kernel_rfl
theorem tsz76 : tsize Tryz.prog 76 = some 3 := by kernel_rfl
theorem tag76 : tagg Tryz.prog 76 = some true := by kernel_rfl
theorem tz76 : tzero Tryz.prog 76 = some [.int .i64 0, .int .i64 0, .int .i64 0] := by kernel_rfl
theorem bld76 (parts : List (Nat × V)) : buildV Tryz.prog 76 parts = (fillK [(0, 1), (1, 1), (2, 1)] [.int .i64 0, .int .i64 0, .int .i64 0] parts).map .agg := build_struct (by kernel_rfl) (by kernel_rfl) parts
theorem eqi76 (xs ys : List Leaf) : eqV Tryz.prog 76 (.agg xs) (.agg ys) = eqInfo xs ys [(false, 0, 2), (false, 1, 2), (false, 2, 2)] := eqV_info (by kernel_rfl) xs ys
theorem fo76_0 : fOff Tryz.prog 76 0 = some (0, 3) := by kernel_rfl
theorem fo76_1 : fOff Tryz.prog 76 1 = some (1, 2) := by kernel_rfl
theorem fo76_2 : fOff Tryz.prog 76 2 = some (2, 3) := by kernel_rfl
theorem tsz77 : tsize Tryz.prog 77 = some 1 := by kernel_rfl
theorem tag77 : tagg Tryz.prog 77 = some false := by kernel_rfl
theorem tz77 : tzero Tryz.prog 77 = some [.nilf] := by kernel_rfl
theorem tsz78 : tsize Tryz.prog 78 = some 1 := by kernel_rfl
theorem tag78 : tagg Tryz.prog 78 = some false := by kernel_rfl
theorem tz78 : tzero Tryz.prog 78 = some [.nilf] := by kernel_rfl
theorem tsz79 : tsize Tryz.prog 79 = some 1 := by kernel_rfl
theorem tag79 : tagg Tryz.prog 79 = some false := by kernel_rfl
theorem tz79 : tzero Tryz.prog 79 = some [.nilf] := by kernel_rfl
theorem tsz80 : tsize Tryz.prog 80 = some 1 := by kernel_rfl
theorem tag80 : tagg Tryz.prog 80 = some false := by kernel_rfl
theorem tz80 : tzero Tryz.prog 80 = some [.nilf] := by kernel_rfl
theorem tsz81 : tsize Tryz.prog 81 = some 1 := by kernel_rfl
theorem tag81 : tagg Tryz.prog 81 = some false := by kernel_rfl
theorem tz81 : tzero Tryz.prog 81 = some [.nils] := by kernel_rfl
theorem tel81 : telem Tryz.prog 81 = some 88 := by kernel_rfl
theorem isl81 : isSl Tryz.prog 81 = true := by kernel_rfl
theorem E81 : ElemT Tryz.prog 81 4 64 [.int .i64 0, .nils, .nils, .int .i64 0] := .mk' (e := 88) (by kernel_rfl) (by kernel_rfl) (by kernel_rfl) rfl (by decide) (by decide)
theorem app81 {H : Heap} (x : V) (id sz : Nat) : appendV Tryz.prog none H 81 81 (.one (.sl id 4 sz 0 sz)) x = appK 4 64 H id sz (rowAt H id sz) (srcOf Tryz.prog H 4 81 x) := append_sl E81 x id sz
theorem apn81 {H : Heap} (x : V) : appendV Tryz.prog none H 81 81 (.one .nils) x = appN 4 64 H .nils (srcOf Tryz.prog H 4 81 x) := append_nils E81 x
theorem apz81 {H : Heap} (x : V) : appendV Tryz.prog none H 81 81 (.one .zsl) x = appN 4 64 H .zsl (srcOf Tryz.prog H 4 81 x) := append_zsl E81 x
theorem bsa81 {H : Heap} (x0 x1 x2 x3 : Leaf) : buildSliceV Tryz.prog none H 81 1 [(0, .agg [x0, x1, x2, x3])] = some (.one (.sl H.length 4 1 0 1), H ++ [some (.row 4 [[x0, x1, x2, x3]])], []) := build_agg E81 rfl (by decide)
theorem tsz82 : tsize Tryz.prog 82 = some 1 := by kernel_rfl
theorem tag82 : tagg Tryz.prog 82 = some false := by kernel_rfl
theorem tz82 : tzero Tryz.prog 82 = some [.nilf] := by kernel_rfl
theorem tsz83 : tsize Tryz.prog 83 = some 1 := by kernel_rfl
theorem tag83 : tagg Tryz.prog 83 = some false := by kernel_rfl
theorem tz83 : tzero Tryz.prog 83 = some [.nilf] := by kernel_rfl
theorem tsz84 : tsize Tryz.prog 84 = some 1 := by kernel_rfl
theorem tag84 : tagg Tryz.prog 84 = some false := by kernel_rfl
theorem tz84 : tzero Tryz.prog 84 = some [.nilf] := by kernel_rfl
theorem tsz85 : tsize Tryz.prog 85 = some 1 := by kernel_rfl
theorem tag85 : tagg Tryz.prog 85 = some false := by kernel_rfl
theorem tz85 : tzero Tryz.prog 85 = some [.nilf] := by kernel_rfl
theorem tsz86 : tsize Tryz.prog 86 = some 1 := by kernel_rfl
theorem tag86 : tagg Tryz.prog 86 = some false := by kernel_rfl
theorem tz86 : tzero Tryz.prog 86 = some [.nilf] := by kernel_rfl
theorem tsz87 : tsize Tryz.prog 87 = some 4 := by kernel_rfl
theorem tag87 : tagg Tryz.prog 87 = some true := by kernel_rfl
theorem tz87 : tzero Tryz.prog 87 = some [.int .i64 0, .nils, .nils, .int .i64 0] := by kernel_rfl
theorem bld87 (parts : List (Nat × V)) : buildV Tryz.prog 87 parts = (fillK [(0, 1), (1, 1), (2, 1), (3, 1)] [.int .i64 0, .nils, .nils, .int .i64 0] parts).map .agg := build_struct (by kernel_rfl) (by kernel_rfl) parts
theorem fo87_0 : fOff Tryz.prog 87 0 = some (0, 3) := by kernel_rfl
theorem fo87_1 : fOff Tryz.prog 87 1 = some (1, 41) := by kernel_rfl
theorem fo87_2 : fOff Tryz.prog 87 2 = some (2, 41) := by kernel_rfl
theorem fo87_3 : fOff Tryz.prog 87 3 = some (3, 3) := by kernel_rfl
theorem tsz88 : tsize Tryz.prog 88 = some 4 := by kernel_rfl
theorem tag88 : tagg Tryz.prog 88 = some true := by kernel_rfl
theorem tz88 : tzero Tryz.prog 88 = some [.int .i64 0, .nils, .nils, .int .i64 0] := by kernel_rfl
theorem bld88 (parts : List (Nat × V)) : buildV Tryz.prog 88 parts = (fillK [(0, 1), (1, 1), (2, 1), (3, 1)] [.int .i64 0, .nils, .nils, .int .i64 0] parts).map .agg := build_struct (by kernel_rfl) (by kernel_rfl) parts
theorem fo88_0 : fOff Tryz.prog 88 0 = some (0, 3) := by kernel_rfl
theorem fo88_1 : fOff Tryz.prog 88 1 = some (1, 41) := by kernel_rfl
theorem fo88_2 : fOff Tryz.prog 88 2 = some (2, 41) := by kernel_rfl
theorem fo88_3 : fOff Tryz.prog 88 3 = some (3, 3) := by kernel_rfl
theorem tsz89 : tsize Tryz.prog 89 = some 1 := by kernel_rfl
theorem tag89 : tagg Tryz.prog 89 = some false := by kernel_rfl
theorem tz89 : tzero Tryz.prog 89 = some [.nilf] := by kernel_rfl
theorem tsz90 : tsize Tryz.prog 90 = some 1 := by kernel_rfl
theorem tag90 : tagg Tryz.prog 90 = some false := by kernel_rfl
theorem tz90 : tzero Tryz.prog 90 = some [.nilf] := by kernel_rfl
theorem tsz91 : tsize Tryz.prog 91 = some 1 := by kernel_rfl
theorem tag91 : tagg Tryz.prog 91 = some false := by kernel_rfl
theorem tz91 : tzero Tryz.prog 91 = some [.nilf] := by kernel_rfl
theorem tsz92 : tsize Tryz.prog 92 = some 1 := by kernel_rfl
theorem tag92 : tagg Tryz.prog 92 = some false := by kernel_rfl
theorem tz92 : tzero Tryz.prog 92 = some [.nilf] := by kernel_rfl
theorem tsz93 : tsize Tryz.prog 93 = some 1 := by kernel_rfl
theorem tag93 : tagg Tryz.prog 93 = some false := by kernel_rfl
theorem tsz94 : tsize Tryz.prog 94 = some 1 := by kernel_rfl
theorem tag94 : tagg Tryz.prog 94 = some false := by kernel_rfl
theorem tz94 : tzero Tryz.prog 94 = some [.nilf] := by kernel_rfl
theorem tsz95 : tsize Tryz.prog 95 = some 1 := by kernel_rfl
theorem tag95 : tagg Tryz.prog 95 = some false := by kernel_rfl
theorem tz95 : tzero Tryz.prog 95 = some [.nils] := by kernel_rfl
theorem tel95 : telem Tryz.prog 95 = some 41 := by kernel_rfl
theorem isl95 : isSl Tryz.prog 95 = true := by kernel_rfl
theorem E95 : ElemT Tryz.prog 95 1 24 [.nils] := .mk' (e := 41) (by kernel_rfl) (by kernel_rfl) (by kernel_rfl) rfl (by decide) (by decide)
theorem app95 {H : Heap} (x : V) (id sz : Nat) : appendV Tryz.prog none H 95 95 (.one (.sl id 1 sz 0 sz)) x = appK 1 24 H id sz (rowAt H id sz) (srcOf Tryz.prog H 1 95 x) := append_sl E95 x id sz
theorem apn95 {H : Heap} (x : V) : appendV Tryz.prog none H 95 95 (.one .nils) x = appN 1 24 H .nils (srcOf Tryz.prog H 1 95 x) := append_nils E95 x
theorem apz95 {H : Heap} (x : V) : appendV Tryz.prog none H 95 95 (.one .zsl) x = appN 1 24 H .zsl (srcOf Tryz.prog H 1 95 x) := append_zsl E95 x
theorem bs95 {H : Heap} (x : Leaf) : buildSliceV Tryz.prog none H 95 1 [(0, .one x)] = some (.one (.sl H.length 1 1 0 1), H ++ [some (.row 1 [[x]])], []) := build_one E95 x
theorem tsz96 : tsize Tryz.prog 96 = some 1 := by kernel_rfl
theorem tag96 : tagg Tryz.prog 96 = some false := by kernel_rfl
theorem tz96 : tzero Tryz.prog 96 = some [.nilf] := by kernel_rfl
theorem tsz97 : tsize Tryz.prog 97 = some 1 := by kernel_rfl
theorem tag97 : tagg Tryz.prog 97 = some false := by kernel_rfl
theorem tz97 : tzero Tryz.prog 97 = some [.nilf] := by kernel_rfl
theorem tsz98 : tsize Tryz.prog 98 = some 1 := by kernel_rfl
theorem tag98 : tagg Tryz.prog 98 = some false := by kernel_rfl
theorem tz98 : tzero Tryz.prog 98 = some [.nilf] := by kernel_rfl
theorem tsz99 : tsize Tryz.prog 99 = some 1 := by kernel_rfl
theorem tag99 : tagg Tryz.prog 99 = some false := by kernel_rfl
theorem tz99 : tzero Tryz.prog 99 = some [.nilf] := by kernel_rfl
theorem tsz100 : tsize Tryz.prog 100 = some 1 := by kernel_rfl
theorem tag100 : tagg Tryz.prog 100 = some false := by kernel_rfl
theorem tz100 : tzero Tryz.prog 100 = some [.nilf] := by kernel_rfl
theorem tsz101 : tsize Tryz.prog 101 = some 1 := by kernel_rfl
theorem tag101 : tagg Tryz.prog 101 = some false := by kernel_rfl
theorem tz101 : tzero Tryz.prog 101 = some [.nilf] := by kernel_rfl
theorem tsz102 : tsize Tryz.prog 102 = some 1 := by kernel_rfl
theorem tag102 : tagg Tryz.prog 102 = some false := by kernel_rfl
theorem tz102 : tzero Tryz.prog 102 = some [.nilp] := by kernel_rfl
theorem pt102 : isPt Tryz.prog 102 = true := by kernel_rfl
theorem und102 : Tryz.prog.underlying 102 = some (.pointer 170) := by kernel_rfl
theorem tsz103 : tsize Tryz.prog 103 = some 1 := by kernel_rfl
theorem tag103 : tagg Tryz.prog 103 = some false := by kernel_rfl
theorem tz103 : tzero Tryz.prog 103 = some [.nilf] := by kernel_rfl
theorem tsz104 : tsize Tryz.prog 104 = some 1 := by kernel_rfl
theorem tag104 : tagg Tryz.prog 104 = some false := by kernel_rfl
theorem tz104 : tzero Tryz.prog 104 = some [.nilm] := by kernel_rfl
theorem tsz105 : tsize Tryz.prog 105 = some 1 := by kernel_rfl
theorem tag105 : tagg Tryz.prog 105 = some false := by kernel_rfl
theorem tz105 : tzero Tryz.prog 105 = some [.nilf] := by kernel_rfl
theorem tsz106 : tsize Tryz.prog 106 = some 8 := by kernel_rfl
theorem tag106 : tagg Tryz.prog 106 = some true := by kernel_rfl
theorem tz106 : tzero Tryz.prog 106 = some [.str [], .nils, .int .i64 0, .nils, .int .i64 0, .nilp, .nilm, .nils] := by kernel_rfl
theorem bld106 (parts : List (Nat × V)) : buildV Tryz.prog 106 parts = (fillK [(0, 5), (5, 1), (6, 1), (7, 1)] [.str [], .nils, .int .i64 0, .nils, .int .i64 0, .nilp, .nilm, .nils] parts).map .agg := build_struct (by kernel_rfl) (by kernel_rfl) parts
theorem fo106_0 : fOff Tryz.prog 106 0 = some (0, 44) := by kernel_rfl
theorem fo106_1 : fOff Tryz.prog 106 1 = some (5, 102) := by kernel_rfl
theorem fo106_2 : fOff Tryz.prog 106 2 = some (6, 104) := by kernel_rfl
theorem fo106_3 : fOff Tryz.prog 106 3 = some (7, 95) := by kernel_rfl
theorem tsz107 : tsize Tryz.prog 107 = some 8 := by kernel_rfl
theorem tag107 : tagg Tryz.prog 107 = some true := by kernel_rfl
theorem tz107 : tzero Tryz.prog 107 = some [.str [], .nils, .int .i64 0, .nils, .int .i64 0, .nilp, .nilm, .nils] := by kernel_rfl
theorem bld107 (parts : List (Nat × V)) : buildV Tryz.prog 107 parts = (fillK [(0, 5), (5, 1), (6, 1), (7, 1)] [.str [], .nils, .int .i64 0, .nils, .int .i64 0, .nilp, .nilm, .nils] parts).map .agg := build_struct (by kernel_rfl) (by kernel_rfl) parts
theorem fo107_0 : fOff Tryz.prog 107 0 = some (0, 44) := by kernel_rfl
theorem fo107_1 : fOff Tryz.prog 107 1 = some (5, 102) := by kernel_rfl
theorem fo107_2 : fOff Tryz.prog 107 2 = some (6, 104) := by kernel_rfl
theorem fo107_3 : fOff Tryz.prog 107 3 = some (7, 95) := by kernel_rfl
theorem tsz108 : tsize Tryz.prog 108 = some 1 := by kernel_rfl
theorem tag108 : tagg Tryz.prog 108 = some false := by kernel_rfl
theorem tz108 : tzero Tryz.prog 108 = some [.nilf] := by kernel_rfl
theorem tsz109 : tsize Tryz.prog 109 = some 1 := by kernel_rfl
theorem tag109 : tagg Tryz.prog 109 = some false := by kernel_rfl
theorem tz109 : tzero Tryz.prog 109 = some [.nilf] := by kernel_rfl
theorem tsz110 : tsize Tryz.prog 110 = some 1 := by kernel_rfl
theorem tag110 : tagg Tryz.prog 110 = some false := by kernel_rfl
theorem tz110 : tzero Tryz.prog 110 = some [.nilf] := by kernel_rfl
theorem tsz111 : tsize Tryz.prog 111 = some 1 := by kernel_rfl
theorem tag111 : tagg Tryz.prog 111 = some false := by kernel_rfl
theorem tz111 : tzero Tryz.prog 111 = some [.nils] := by kernel_rfl
theorem tel111 : telem Tryz.prog 111 = some 4 := by kernel_rfl
theorem isl111 : isSl Tryz.prog 111 = true := by kernel_rfl
theorem E111 : ElemT Tryz.prog 111 1 1 [.bool false] := .mk' (e := 4) (by kernel_rfl) (by kernel_rfl) (by kernel_rfl) rfl (by decide) (by decide)
theorem app111 {H : Heap} (x : V) (id sz : Nat) : appendV Tryz.prog none H 111 111 (.one (.sl id 1 sz 0 sz)) x = appK 1 1 H id sz (rowAt H id sz) (srcOf Tryz.prog H 1 111 x) := append_sl E111 x id sz
theorem apn111 {H : Heap} (x : V) : appendV Tryz.prog none H 111 111 (.one .nils) x = appN 1 1 H .nils (srcOf Tryz.prog H 1 111 x) := append_nils E111 x
theorem apz111 {H : Heap} (x : V) : appendV Tryz.prog none H 111 111 (.one .zsl) x = appN 1 1 H .zsl (srcOf Tryz.prog H 1 111 x) := append_zsl E111 x
theorem bs111 {H : Heap} (x : Leaf) : buildSliceV Tryz.prog none H 111 1 [(0, .one x)] = some (.one (.sl H.length 1 1 0 1), H ++ [some (.row 1 [[x]])], []) := build_one E111 x
theorem tsz112 : tsize Tryz.prog 112 = some 1 := by kernel_rfl
theorem tag112 : tagg Tryz.prog 112 = some false := by kernel_rfl
theorem tz112 : tzero Tryz.prog 112 = some [.nilf] := by kernel_rfl
theorem tsz113 : tsize Tryz.prog 113 = some 1 := by kernel_rfl
theorem tag113 : tagg Tryz.prog 113 = some false := by kernel_rfl
theorem tz113 : tzero Tryz.prog 113 = some [.nilf] := by kernel_rfl
theorem tsz114 : tsize Tryz.prog 114 = some 1 := by kernel_rfl
theorem tag114 : tagg Tryz.prog 114 = some false := by kernel_rfl
theorem tsz115 : tsize Tryz.prog 115 = some 1 := by kernel_rfl
theorem tag115 : tagg Tryz.prog 115 = some false := by kernel_rfl
theorem tz115 : tzero Tryz.prog 115 = some [.nilf] := by kernel_rfl
theorem tsz116 : tsize Tryz.prog 116 = some 1 := by kernel_rfl
theorem tag116 : tagg Tryz.prog 116 = some false := by kernel_rfl
theorem tsz117 : tsize Tryz.prog 117 = some 1 := by kernel_rfl
theorem tag117 : tagg Tryz.prog 117 = some false := by kernel_rfl
theorem tz117 : tzero Tryz.prog 117 = some [.nilf] := by kernel_rfl
theorem tsz118 : tsize Tryz.prog 118 = some 1 := by kernel_rfl
theorem tag118 : tagg Tryz.prog 118 = some false := by kernel_rfl
theorem tsz119 : tsize Tryz.prog 119 = some 1 := by kernel_rfl
theorem tag119 : tagg Tryz.prog 119 = some false := by kernel_rfl
theorem tz119 : tzero Tryz.prog 119 = some [.nilf] := by kernel_rfl
theorem tsz120 : tsize Tryz.prog 120 = some 1 := by kernel_rfl
theorem tag120 : tagg Tryz.prog 120 = some false := by kernel_rfl
theorem tz120 : tzero Tryz.prog 120 = some [.nilf] := by kernel_rfl
theorem tsz121 : tsize Tryz.prog 121 = some 1 := by kernel_rfl
theorem tag121 : tagg Tryz.prog 121 = some false := by kernel_rfl
theorem tz121 : tzero Tryz.prog 121 = some [.nilf] := by kernel_rfl
theorem tsz122 : tsize Tryz.prog 122 = some 1 := by kernel_rfl
theorem tag122 : tagg Tryz.prog 122 = some false := by kernel_rfl
theorem tz122 : tzero Tryz.prog 122 = some [.nilf] := by kernel_rfl
theorem tsz123 : tsize Tryz.prog 123 = some 1 := by kernel_rfl
theorem tag123 : tagg Tryz.prog 123 = some false := by kernel_rfl
theorem tz123 : tzero Tryz.prog 123 = some [.nils] := by kernel_rfl
theorem tel123 : telem Tryz.prog 123 = some 76 := by kernel_rfl
theorem isl123 : isSl Tryz.prog 123 = true := by kernel_rfl
theorem E123 : ElemT Tryz.prog 123 3 24 [.int .i64 0, .int .i64 0, .int .i64 0] := .mk' (e := 76) (by kernel_rfl) (by kernel_rfl) (by kernel_rfl) rfl (by decide) (by decide)
theorem app123 {H : Heap} (x : V) (id sz : Nat) : appendV Tryz.prog none H 123 123 (.one (.sl id 3 sz 0 sz)) x = appK 3 24 H id sz (rowAt H id sz) (srcOf Tryz.prog H 3 123 x) := append_sl E123 x id sz
theorem apn123 {H : Heap} (x : V) : appendV Tryz.prog none H 123 123 (.one .nils) x = appN 3 24 H .nils (srcOf Tryz.prog H 3 123 x) := append_nils E123 x
theorem apz123 {H : Heap} (x : V) : appendV Tryz.prog none H 123 123 (.one .zsl) x = appN 3 24 H .zsl (srcOf Tryz.prog H 3 123 x) := append_zsl E123 x
theorem bsa123 {H : Heap} (x0 x1 x2 : Leaf) : buildSliceV Tryz.prog none H 123 1 [(0, .agg [x0, x1, x2])] = some (.one (.sl H.length 3 1 0 1), H ++ [some (.row 3 [[x0, x1, x2]])], []) := build_agg E123 rfl (by decide)
theorem tsz124 : tsize Tryz.prog 124 = some 1 := by kernel_rfl
theorem tag124 : tagg Tryz.prog 124 = some false := by kernel_rfl
theorem tz124 : tzero Tryz.prog 124 = some [.nilf] := by kernel_rfl
theorem tsz125 : tsize Tryz.prog 125 = some 1 := by kernel_rfl
theorem tag125 : tagg Tryz.prog 125 = some false := by kernel_rfl
theorem tsz126 : tsize Tryz.prog 126 = some 1 := by kernel_rfl
theorem tag126 : tagg Tryz.prog 126 = some false := by kernel_rfl
theorem tz126 : tzero Tryz.prog 126 = some [.nilf] := by kernel_rfl
theorem tsz127 : tsize Tryz.prog 127 = some 1 := by kernel_rfl
theorem tag127 : tagg Tryz.prog 127 = some false := by kernel_rfl
theorem tz127 : tzero Tryz.prog 127 = some [.nilf] := by kernel_rfl
theorem tsz128 : tsize Tryz.prog 128 = some 1 := by kernel_rfl
theorem tag128 : tagg Tryz.prog 128 = some false := by kernel_rfl
theorem tz128 : tzero Tryz.prog 128 = some [.nilf] := by kernel_rfl
theorem tsz129 : tsize Tryz.prog 129 = some 1 := by kernel_rfl
theorem tag129 : tagg Tryz.prog 129 = some false := by kernel_rfl
theorem tz129 : tzero Tryz.prog 129 = some [.nilf] := by kernel_rfl
theorem tsz130 : tsize Tryz.prog 130 = some 4 := by kernel_rfl
theorem tag130 : tagg Tryz.prog 130 = some true := by kernel_rfl
theorem tz130 : tzero Tryz.prog 130 = some [.int .i64 0, .int .i64 0, .int .i64 0, .int .i64 0] := by kernel_rfl
theorem bld130 (parts : List (Nat × V)) : buildV Tryz.prog 130 parts = (fillK [(0, 1), (1, 3)] [.int .i64 0, .int .i64 0, .int .i64 0, .int .i64 0] parts).map .agg := build_struct (by kernel_rfl) (by kernel_rfl) parts
theorem fo130_0 : fOff Tryz.prog 130 0 = some (0, 3) := by kernel_rfl
theorem fo130_1 : fOff Tryz.prog 130 1 = some (1, 76) := by kernel_rfl
theorem tsz131 : tsize Tryz.prog 131 = some 4 := by kernel_rfl
theorem tag131 : tagg Tryz.prog 131 = some true := by kernel_rfl
theorem tz131 : tzero Tryz.prog 131 = some [.int .i64 0, .int .i64 0, .int .i64 0, .int .i64 0] := by kernel_rfl
theorem bld131 (parts : List (Nat × V)) : buildV Tryz.prog 131 parts = (fillK [(0, 1), (1, 3)] [.int .i64 0, .int .i64 0, .int .i64 0, .int .i64 0] parts).map .agg := build_struct (by kernel_rfl) (by kernel_rfl) parts
theorem fo131_0 : fOff Tryz.prog 131 0 = some (0, 3) := by kernel_rfl
theorem fo131_1 : fOff Tryz.prog 131 1 = some (1, 76) := by kernel_rfl
theorem tsz132 : tsize Tryz.prog 132 = some 1 := by kernel_rfl
theorem tag132 : tagg Tryz.prog 132 = some false := by kernel_rfl
theorem tz132 : tzero Tryz.prog 132 = some [.nilf] := by kernel_rfl
theorem tsz133 : tsize Tryz.prog 133 = some 1 := by kernel_rfl
theorem tag133 : tagg Tryz.prog 133 = some false := by kernel_rfl
theorem tz133 : tzero Tryz.prog 133 = some [.nilf] := by kernel_rfl
theorem tsz134 : tsize Tryz.prog 134 = some 1 := by kernel_rfl
theorem tag134 : tagg Tryz.prog 134 = some false := by kernel_rfl
theorem tz134 : tzero Tryz.prog 134 = some [.nils] := by kernel_rfl
theorem tel134 : telem Tryz.prog 134 = some 137 := by kernel_rfl
theorem isl134 : isSl Tryz.prog 134 = true := by kernel_rfl
theorem E134 : ElemT Tryz.prog 134 2 16 [.int .i64 0, .int .i64 0] := .mk' (e := 137) (by kernel_rfl) (by kernel_rfl) (by kernel_rfl) rfl (by decide) (by decide)
theorem app134 {H : Heap} (x : V) (id sz : Nat) : appendV Tryz.prog none H 134 134 (.one (.sl id 2 sz 0 sz)) x = appK 2 16 H id sz (rowAt H id sz) (srcOf Tryz.prog H 2 134 x) := append_sl E134 x id sz
theorem apn134 {H : Heap} (x : V) : appendV Tryz.prog none H 134 134 (.one .nils) x = appN 2 16 H .nils (srcOf Tryz.prog H 2 134 x) := append_nils E134 x
theorem apz134 {H : Heap} (x : V) : appendV Tryz.prog none H 134 134 (.one .zsl) x = appN 2 16 H .zsl (srcOf Tryz.prog H 2 134 x) := append_zsl E134 x
theorem bsa134 {H : Heap} (x0 x1 : Leaf) : buildSliceV Tryz.prog none H 134 1 [(0, .agg [x0, x1])] = some (.one (.sl H.length 2 1 0 1), H ++ [some (.row 2 [[x0, x1]])], []) := build_agg E134 rfl (by decide)
theorem tsz135 : tsize Tryz.prog 135 = some 1 := by kernel_rfl
theorem tag135 : tagg Tryz.prog 135 = some false := by kernel_rfl
theorem tz135 : tzero Tryz.prog 135 = some [.nilf] := by kernel_rfl
theorem tsz136 : tsize Tryz.prog 136 = some 2 := by kernel_rfl
theorem tag136 : tagg Tryz.prog 136 = some true := by kernel_rfl
theorem tz136 : tzero Tryz.prog 136 = some [.int .i64 0, .int .i64 0] := by kernel_rfl
theorem bld136 (parts : List (Nat × V)) : buildV Tryz.prog 136 parts = (fillK [(0, 1), (1, 1)] [.int .i64 0, .int .i64 0] parts).map .agg := build_struct (by kernel_rfl) (by kernel_rfl) parts
theorem eqi136 (xs ys : List Leaf) : eqV Tryz.prog 136 (.agg xs) (.agg ys) = eqInfo xs ys [(false, 0, 2), (false, 1, 2)] := eqV_info (by kernel_rfl) xs ys
theorem fo136_0 : fOff Tryz.prog 136 0 = some (0, 3) := by kernel_rfl
theorem fo136_1 : fOff Tryz.prog 136 1 = some (1, 3) := by kernel_rfl
theorem tsz137 : tsize Tryz.prog 137 = some 2 := by kernel_rfl
theorem tag137 : tagg Tryz.prog 137 = some true := by kernel_rfl
theorem tz137 : tzero Tryz.prog 137 = some [.int .i64 0, .int .i64 0] := by kernel_rfl
theorem bld137 (parts : List (Nat × V)) : buildV Tryz.prog 137 parts = (fillK [(0, 1), (1, 1)] [.int .i64 0, .int .i64 0] parts).map .agg := build_struct (by kernel_rfl) (by kernel_rfl) parts
theorem eqi137 (xs ys : List Leaf) : eqV Tryz.prog 137 (.agg xs) (.agg ys) = eqInfo xs ys [(false, 0, 2), (false, 1, 2)] := eqV_info (by kernel_rfl) xs ys
theorem fo137_0 : fOff Tryz.prog 137 0 = some (0, 3) := by kernel_rfl
theorem fo137_1 : fOff Tryz.prog 137 1 = some (1, 3) := by kernel_rfl
theorem tsz138 : tsize Tryz.prog 138 = some 1 := by kernel_rfl
theorem tag138 : tagg Tryz.prog 138 = some false := by kernel_rfl
theorem tz138 : tzero Tryz.prog 138 = some [.nilf] := by kernel_rfl
theorem tsz139 : tsize Tryz.prog 139 = some 1 := by kernel_rfl
theorem tag139 : tagg Tryz.prog 139 = some false := by kernel_rfl
theorem tsz140 : tsize Tryz.prog 140 = some 1 := by kernel_rfl
theorem tag140 : tagg Tryz.prog 140 = some false := by kernel_rfl
theorem tz140 : tzero Tryz.prog 140 = some [.nilf] := by kernel_rfl
theorem tsz141 : tsize Tryz.prog 141 = some 1 := by kernel_rfl
theorem tag141 : tagg Tryz.prog 141 = some false := by kernel_rfl
theorem tz141 : tzero Tryz.prog 141 = some [.nilf] := by kernel_rfl
theorem tsz142 : tsize Tryz.prog 142 = some 1 := by kernel_rfl
theorem tag142 : tagg Tryz.prog 142 = some false := by kernel_rfl
theorem tz142 : tzero Tryz.prog 142 = some [.nilf] := by kernel_rfl
theorem tsz143 : tsize Tryz.prog 143 = some 1 := by kernel_rfl
theorem tag143 : tagg Tryz.prog 143 = some false := by kernel_rfl
theorem tz143 : tzero Tryz.prog 143 = some [.nils] := by kernel_rfl
theorem tel143 : telem Tryz.prog 143 = some 207 := by kernel_rfl
theorem isl143 : isSl Tryz.prog 143 = true := by kernel_rfl
theorem E143 : ElemT Tryz.prog 143 2 24 [.str [], .int .i64 0] := .mk' (e := 207) (by kernel_rfl) (by kernel_rfl) (by kernel_rfl) rfl (by decide) (by decide)
theorem app143 {H : Heap} (x : V) (id sz : Nat) : appendV Tryz.prog none H 143 143 (.one (.sl id 2 sz 0 sz)) x = appK 2 24 H id sz (rowAt H id sz) (srcOf Tryz.prog H 2 143 x) := append_sl E143 x id sz
theorem apn143 {H : Heap} (x : V) : appendV Tryz.prog none H 143 143 (.one .nils) x = appN 2 24 H .nils (srcOf Tryz.prog H 2 143 x) := append_nils E143 x
theorem apz143 {H : Heap} (x : V) : appendV Tryz.prog none H 143 143 (.one .zsl) x = appN 2 24 H .zsl (srcOf Tryz.prog H 2 143 x) := append_zsl E143 x
theorem bsa143 {H : Heap} (x0 x1 : Leaf) : buildSliceV Tryz.prog none H 143 1 [(0, .agg [x0, x1])] = some (.one (.sl H.length 2 1 0 1), H ++ [some (.row 2 [[x0, x1]])], []) := build_agg E143 rfl (by decide)
theorem tsz144 : tsize Tryz.prog 144 = some 1 := by kernel_rfl
theorem tag144 : tagg Tryz.prog 144 = some false := by kernel_rfl
theorem tsz145 : tsize Tryz.prog 145 = some 1 := by kernel_rfl
theorem tag145 : tagg Tryz.prog 145 = some false := by kernel_rfl
theorem tz145 : tzero Tryz.prog 145 = some [.nilf] := by kernel_rfl
theorem tsz146 : tsize Tryz.prog 146 = some 1 := by kernel_rfl
theorem tag146 : tagg Tryz.prog 146 = some false := by kernel_rfl
theorem tz146 : tzero Tryz.prog 146 = some [.nilp] := by kernel_rfl
theorem pt146 : isPt Tryz.prog 146 = true := by kernel_rfl
theorem und146 : Tryz.prog.underlying 146 = some (.pointer 148) := by kernel_rfl
theorem tsz147 : tsize Tryz.prog 147 = some 6 := by kernel_rfl
theorem tag147 : tagg Tryz.prog 147 = some true := by kernel_rfl
theorem tz147 : tzero Tryz.prog 147 = some [.nils, .int .i64 0, .int .i64 0, .int .i64 0, .int .i64 0, .int .i64 0] := by kernel_rfl
theorem bld147 (parts : List (Nat × V)) : buildV Tryz.prog 147 parts = (fillK [(0, 1), (1, 1), (2, 1), (3, 1), (4, 2)] [.nils, .int .i64 0, .int .i64 0, .int .i64 0, .int .i64 0, .int .i64 0] parts).map .agg := build_struct (by kernel_rfl) (by kernel_rfl) parts
theorem fo147_0 : fOff Tryz.prog 147 0 = some (0, 143) := by kernel_rfl
theorem fo147_1 : fOff Tryz.prog 147 1 = some (1, 3) := by kernel_rfl
theorem fo147_2 : fOff Tryz.prog 147 2 = some (2, 3) := by kernel_rfl
theorem fo147_3 : fOff Tryz.prog 147 3 = some (3, 3) := by kernel_rfl
theorem fo147_4 : fOff Tryz.prog 147 4 = some (4, 32) := by kernel_rfl
theorem tsz148 : tsize Tryz.prog 148 = some 6 := by kernel_rfl
theorem tag148 : tagg Tryz.prog 148 = some true := by kernel_rfl
theorem tz148 : tzero Tryz.prog 148 = some [.nils, .int .i64 0, .int .i64 0, .int .i64 0, .int .i64 0, .int .i64 0] := by kernel_rfl
theorem bld148 (parts : List (Nat × V)) : buildV Tryz.prog 148 parts = (fillK [(0, 1), (1, 1), (2, 1), (3, 1), (4, 2)] [.nils, .int .i64 0, .int .i64 0, .int .i64 0, .int .i64 0, .int .i64 0] parts).map .agg := build_struct (by kernel_rfl) (by kernel_rfl) parts
theorem fo148_0 : fOff Tryz.prog 148 0 = some (0, 143) := by kernel_rfl
theorem fo148_1 : fOff Tryz.prog 148 1 = some (1, 3) := by kernel_rfl
theorem fo148_2 : fOff Tryz.prog 148 2 = some (2, 3) := by kernel_rfl
theorem fo148_3 : fOff Tryz.prog 148 3 = some (3, 3) := by kernel_rfl
theorem fo148_4 : fOff Tryz.prog 148 4 = some (4, 32) := by kernel_rfl
theorem tsz149 : tsize Tryz.prog 149 = some 1 := by kernel_rfl
theorem tag149 : tagg Tryz.prog 149 = some false := by kernel_rfl
theorem tz149 : tzero Tryz.prog 149 = some [.nilf] := by kernel_rfl
theorem tsz150 : tsize Tryz.prog 150 = some 1 := by kernel_rfl
theorem tag150 : tagg Tryz.prog 150 = some false := by kernel_rfl
theorem tz150 : tzero Tryz.prog 150 = some [.nilp] := by kernel_rfl
theorem pt150 : isPt Tryz.prog 150 = true := by kernel_rfl
theorem und150 : Tryz.prog.underlying 150 = some (.pointer 153) := by kernel_rfl
theorem tsz151 : tsize Tryz.prog 151 = some 1 := by kernel_rfl
theorem tag151 : tagg Tryz.prog 151 = some false := by kernel_rfl
theorem tz151 : tzero Tryz.prog 151 = some [.nilm] := by kernel_rfl
theorem tsz152 : tsize Tryz.prog 152 = some 7 := by kernel_rfl
theorem tag152 : tagg Tryz.prog 152 = some true := by kernel_rfl
theorem tz152 : tzero Tryz.prog 152 = some [.str [], .nils, .int .i64 0, .nils, .int .i64 0, .nils, .nilm] := by kernel_rfl
theorem bld152 (parts : List (Nat × V)) : buildV Tryz.prog 152 parts = (fillK [(0, 5), (5, 1), (6, 1)] [.str [], .nils, .int .i64 0, .nils, .int .i64 0, .nils, .nilm] parts).map .agg := build_struct (by kernel_rfl) (by kernel_rfl) parts
theorem fo152_0 : fOff Tryz.prog 152 0 = some (0, 44) := by kernel_rfl
theorem fo152_1 : fOff Tryz.prog 152 1 = some (5, 41) := by kernel_rfl
theorem fo152_2 : fOff Tryz.prog 152 2 = some (6, 151) := by kernel_rfl
theorem tsz153 : tsize Tryz.prog 153 = some 7 := by kernel_rfl
theorem tag153 : tagg Tryz.prog 153 = some true := by kernel_rfl
theorem tz153 : tzero Tryz.prog 153 = some [.str [], .nils, .int .i64 0, .nils, .int .i64 0, .nils, .nilm] := by kernel_rfl
theorem bld153 (parts : List (Nat × V)) : buildV Tryz.prog 153 parts = (fillK [(0, 5), (5, 1), (6, 1)] [.str [], .nils, .int .i64 0, .nils, .int .i64 0, .nils, .nilm] parts).map .agg := build_struct (by kernel_rfl) (by kernel_rfl) parts
theorem fo153_0 : fOff Tryz.prog 153 0 = some (0, 44) := by kernel_rfl
theorem fo153_1 : fOff Tryz.prog 153 1 = some (5, 41) := by kernel_rfl
theorem fo153_2 : fOff Tryz.prog 153 2 = some (6, 151) := by kernel_rfl
theorem tsz154 : tsize Tryz.prog 154 = some 1 := by kernel_rfl
theorem tag154 : tagg Tryz.prog 154 = some false := by kernel_rfl
theorem tz154 : tzero Tryz.prog 154 = some [.nilf] := by kernel_rfl
theorem tsz155 : tsize Tryz.prog 155 = some 1 := by kernel_rfl
theorem tag155 : tagg Tryz.prog 155 = some false := by kernel_rfl
theorem tz155 : tzero Tryz.prog 155 = some [.nilf] := by kernel_rfl
theorem tsz156 : tsize Tryz.prog 156 = some 1 := by kernel_rfl
theorem tag156 : tagg Tryz.prog 156 = some false := by kernel_rfl
theorem tz156 : tzero Tryz.prog 156 = some [.nilf] := by kernel_rfl
theorem tsz157 : tsize Tryz.prog 157 = some 1 := by kernel_rfl
theorem tag157 : tagg Tryz.prog 157 = some false := by kernel_rfl
theorem tz157 : tzero Tryz.prog 157 = some [.nilf] := by kernel_rfl
theorem tsz158 : tsize Tryz.prog 158 = some 1 := by kernel_rfl
theorem tag158 : tagg Tryz.prog 158 = some false := by kernel_rfl
theorem tz158 : tzero Tryz.prog 158 = some [.nilf] := by kernel_rfl
theorem tsz159 : tsize Tryz.prog 159 = some 1 := by kernel_rfl
theorem tag159 : tagg Tryz.prog 159 = some false := by kernel_rfl
theorem tz159 : tzero Tryz.prog 159 = some [.nilf] := by kernel_rfl
theorem tsz160 : tsize Tryz.prog 160 = some 1 := by kernel_rfl
theorem tag160 : tagg Tryz.prog 160 = some false := by kernel_rfl
theorem tz160 : tzero Tryz.prog 160 = some [.nilf] := by kernel_rfl
theorem tsz161 : tsize Tryz.prog 161 = some 1 := by kernel_rfl
theorem tag161 : tagg Tryz.prog 161 = some false := by kernel_rfl
theorem tz161 : tzero Tryz.prog 161 = some [.nilf] := by kernel_rfl
theorem tsz162 : tsize Tryz.prog 162 = some 1 := by kernel_rfl
theorem tag162 : tagg Tryz.prog 162 = some false := by kernel_rfl
theorem tz162 : tzero Tryz.prog 162 = some [.nilf] := by kernel_rfl
theorem tsz163 : tsize Tryz.prog 163 = some 1 := by kernel_rfl
theorem tag163 : tagg Tryz.prog 163 = some false := by kernel_rfl
theorem tz163 : tzero Tryz.prog 163 = some [.nils] := by kernel_rfl
theorem tel163 : telem Tryz.prog 163 = some 248 := by kernel_rfl
theorem isl163 : isSl Tryz.prog 163 = true := by kernel_rfl
theorem E163 : ElemT Tryz.prog 163 3 24 [.int .i64 0, .int .i64 0, .int .i64 0] := .mk' (e := 248) (by kernel_rfl) (by kernel_rfl) (by kernel_rfl) rfl (by decide) (by decide)
theorem app163 {H : Heap} (x : V) (id sz : Nat) : appendV Tryz.prog none H 163 163 (.one (.sl id 3 sz 0 sz)) x = appK 3 24 H id sz (rowAt H id sz) (srcOf Tryz.prog H 3 163 x) := append_sl E163 x id sz
theorem apn163 {H : Heap} (x : V) : appendV Tryz.prog none H 163 163 (.one .nils) x = appN 3 24 H .nils (srcOf Tryz.prog H 3 163 x) := append_nils E163 x
theorem apz163 {H : Heap} (x : V) : appendV Tryz.prog none H 163 163 (.one .zsl) x = appN 3 24 H .zsl (srcOf Tryz.prog H 3 163 x) := append_zsl E163 x
theorem bsa163 {H : Heap} (x0 x1 x2 : Leaf) : buildSliceV Tryz.prog none H 163 1 [(0, .agg [x0, x1, x2])] = some (.one (.sl H.length 3 1 0 1), H ++ [some (.row 3 [[x0, x1, x2]])], []) := build_agg E163 rfl (by decide)
theorem tsz164 : tsize Tryz.prog 164 = some 3 := by kernel_rfl
theorem tag164 : tagg Tryz.prog 164 = some true := by kernel_rfl
theorem tz164 : tzero Tryz.prog 164 = some [.nils, .nils, .nils] := by kernel_rfl
theorem bld164 (parts : List (Nat × V)) : buildV Tryz.prog 164 parts = (fillK [(0, 1), (1, 1), (2, 1)] [.nils, .nils, .nils] parts).map .agg := build_struct (by kernel_rfl) (by kernel_rfl) parts
theorem fo164_0 : fOff Tryz.prog 164 0 = some (0, 163) := by kernel_rfl
theorem fo164_1 : fOff Tryz.prog 164 1 = some (1, 58) := by kernel_rfl
theorem fo164_2 : fOff Tryz.prog 164 2 = some (2, 41) := by kernel_rfl
theorem tsz165 : tsize Tryz.prog 165 = some 3 := by kernel_rfl
theorem tag165 : tagg Tryz.prog 165 = some true := by kernel_rfl
theorem tz165 : tzero Tryz.prog 165 = some [.nils, .nils, .nils] := by kernel_rfl
theorem bld165 (parts : List (Nat × V)) : buildV Tryz.prog 165 parts = (fillK [(0, 1), (1, 1), (2, 1)] [.nils, .nils, .nils] parts).map .agg := build_struct (by kernel_rfl) (by kernel_rfl) parts
theorem fo165_0 : fOff Tryz.prog 165 0 = some (0, 163) := by kernel_rfl
theorem fo165_1 : fOff Tryz.prog 165 1 = some (1, 58) := by kernel_rfl
theorem fo165_2 : fOff Tryz.prog 165 2 = some (2, 41) := by kernel_rfl
theorem tsz166 : tsize Tryz.prog 166 = some 1 := by kernel_rfl
theorem tag166 : tagg Tryz.prog 166 = some false := by kernel_rfl
theorem tz166 : tzero Tryz.prog 166 = some [.nilf] := by kernel_rfl
theorem tsz167 : tsize Tryz.prog 167 = some 1 := by kernel_rfl
theorem tag167 : tagg Tryz.prog 167 = some false := by kernel_rfl
theorem tz167 : tzero Tryz.prog 167 = some [.nilf] := by kernel_rfl
theorem tsz168 : tsize Tryz.prog 168 = some 1 := by kernel_rfl
theorem tag168 : tagg Tryz.prog 168 = some false := by kernel_rfl
theorem tz168 : tzero Tryz.prog 168 = some [.nilf] := by kernel_rfl
theorem tsz169 : tsize Tryz.prog 169 = some 3 := by kernel_rfl
theorem tag169 : tagg Tryz.prog 169 = some true := by kernel_rfl
theorem tz169 : tzero Tryz.prog 169 = some [.nils, .nils, .nils] := by kernel_rfl
theorem bld169 (parts : List (Nat × V)) : buildV Tryz.prog 169 parts = (fillK [(0, 1), (1, 1), (2, 1)] [.nils, .nils, .nils] parts).map .agg := build_struct (by kernel_rfl) (by kernel_rfl) parts
theorem fo169_0 : fOff Tryz.prog 169 0 = some (0, 41) := by kernel_rfl
theorem fo169_1 : fOff Tryz.prog 169 1 = some (1, 41) := by kernel_rfl
theorem fo169_2 : fOff Tryz.prog 169 2 = some (2, 95) := by kernel_rfl
theorem tsz170 : tsize Tryz.prog 170 = some 3 := by kernel_rfl
theorem tag170 : tagg Tryz.prog 170 = some true := by kernel_rfl
theorem tz170 : tzero Tryz.prog 170 = some [.nils, .nils, .nils] := by kernel_rfl
theorem bld170 (parts : List (Nat × V)) : buildV Tryz.prog 170 parts = (fillK [(0, 1), (1, 1), (2, 1)] [.nils, .nils, .nils] parts).map .agg := build_struct (by kernel_rfl) (by kernel_rfl) parts
theorem fo170_0 : fOff Tryz.prog 170 0 = some (0, 41) := by kernel_rfl
theorem fo170_1 : fOff Tryz.prog 170 1 = some (1, 41) := by kernel_rfl
theorem fo170_2 : fOff Tryz.prog 170 2 = some (2, 95) := by kernel_rfl
theorem tsz171 : tsize Tryz.prog 171 = some 1 := by kernel_rfl
theorem tag171 : tagg Tryz.prog 171 = some false := by kernel_rfl
theorem tz171 : tzero Tryz.prog 171 = some [.nilf] := by kernel_rfl
theorem tsz172 : tsize Tryz.prog 172 = some 1 := by kernel_rfl
theorem tag172 : tagg Tryz.prog 172 = some false := by kernel_rfl
theorem tz172 : tzero Tryz.prog 172 = some [.nilf] := by kernel_rfl
theorem tsz173 : tsize Tryz.prog 173 = some 1 := by kernel_rfl
theorem tag173 : tagg Tryz.prog 173 = some false := by kernel_rfl
theorem tz173 : tzero Tryz.prog 173 = some [.nilf] := by kernel_rfl
theorem tsz174 : tsize Tryz.prog 174 = some 1 := by kernel_rfl
theorem tag174 : tagg Tryz.prog 174 = some false := by kernel_rfl
theorem tz174 : tzero Tryz.prog 174 = some [.nilp] := by kernel_rfl
theorem pt174 : isPt Tryz.prog 174 = true := by kernel_rfl
theorem und174 : Tryz.prog.underlying 174 = some (.pointer 176) := by kernel_rfl
theorem tsz175 : tsize Tryz.prog 175 = some 3 := by kernel_rfl
theorem tag175 : tagg Tryz.prog 175 = some true := by kernel_rfl
theorem tz175 : tzero Tryz.prog 175 = some [.nils, .nils, .nils] := by kernel_rfl
theorem bld175 (parts : List (Nat × V)) : buildV Tryz.prog 175 parts = (fillK [(0, 1), (1, 1), (2, 1)] [.nils, .nils, .nils] parts).map .agg := build_struct (by kernel_rfl) (by kernel_rfl) parts
theorem fo175_0 : fOff Tryz.prog 175 0 = some (0, 95) := by kernel_rfl
theorem fo175_1 : fOff Tryz.prog 175 1 = some (1, 111) := by kernel_rfl
theorem fo175_2 : fOff Tryz.prog 175 2 = some (2, 41) := by kernel_rfl
theorem tsz176 : tsize Tryz.prog 176 = some 3 := by kernel_rfl
theorem tag176 : tagg Tryz.prog 176 = some true := by kernel_rfl
theorem tz176 : tzero Tryz.prog 176 = some [.nils, .nils, .nils] := by kernel_rfl
theorem bld176 (parts : List (Nat × V)) : buildV Tryz.prog 176 parts = (fillK [(0, 1), (1, 1), (2, 1)] [.nils, .nils, .nils] parts).map .agg := build_struct (by kernel_rfl) (by kernel_rfl) parts
theorem fo176_0 : fOff Tryz.prog 176 0 = some (0, 95) := by kernel_rfl
theorem fo176_1 : fOff Tryz.prog 176 1 = some (1, 111) := by kernel_rfl
theorem fo176_2 : fOff Tryz.prog 176 2 = some (2, 41) := by kernel_rfl
theorem tsz177 : tsize Tryz.prog 177 = some 1 := by kernel_rfl
theorem tag177 : tagg Tryz.prog 177 = some false := by kernel_rfl
theorem tz177 : tzero Tryz.prog 177 = some [.nilf] := by kernel_rfl
theorem tsz178 : tsize Tryz.prog 178 = some 1 := by kernel_rfl
theorem tag178 : tagg Tryz.prog 178 = some false := by kernel_rfl
theorem tz178 : tzero Tryz.prog 178 = some [.nilf] := by kernel_rfl
theorem tsz179 : tsize Tryz.prog 179 = some 1 := by kernel_rfl
theorem tag179 : tagg Tryz.prog 179 = some false := by kernel_rfl
theorem tz179 : tzero Tryz.prog 179 = some [.int .u64 0] := by kernel_rfl
theorem und179 : Tryz.prog.underlying 179 = some (.int .u64) := by kernel_rfl
theorem tsz180 : tsize Tryz.prog 180 = some 1 := by kernel_rfl
theorem tag180 : tagg Tryz.prog 180 = some false := by kernel_rfl
theorem tz180 : tzero Tryz.prog 180 = some [.nils] := by kernel_rfl
theorem tel180 : telem Tryz.prog 180 = some 183 := by kernel_rfl
theorem isl180 : isSl Tryz.prog 180 = true := by kernel_rfl
theorem E180 : ElemT Tryz.prog 180 3 24 [.int .i64 0, .int .i64 0, .bool false] := .mk' (e := 183) (by kernel_rfl) (by kernel_rfl) (by kernel_rfl) rfl (by decide) (by decide)
theorem app180 {H : Heap} (x : V) (id sz : Nat) : appendV Tryz.prog none H 180 180 (.one (.sl id 3 sz 0 sz)) x = appK 3 24 H id sz (rowAt H id sz) (srcOf Tryz.prog H 3 180 x) := append_sl E180 x id sz
theorem apn180 {H : Heap} (x : V) : appendV Tryz.prog none H 180 180 (.one .nils) x = appN 3 24 H .nils (srcOf Tryz.prog H 3 180 x) := append_nils E180 x
theorem apz180 {H : Heap} (x : V) : appendV Tryz.prog none H 180 180 (.one .zsl) x = appN 3 24 H .zsl (srcOf Tryz.prog H 3 180 x) := append_zsl E180 x
theorem bsa180 {H : Heap} (x0 x1 x2 : Leaf) : buildSliceV Tryz.prog none H 180 1 [(0, .agg [x0, x1, x2])] = some (.one (.sl H.length 3 1 0 1), H ++ [some (.row 3 [[x0, x1, x2]])], []) := build_agg E180 rfl (by decide)
theorem tsz181 : tsize Tryz.prog 181 = some 1 := by kernel_rfl
theorem tag181 : tagg Tryz.prog 181 = some false := by kernel_rfl
theorem tz181 : tzero Tryz.prog 181 = some [.nilf] := by kernel_rfl
theorem tsz182 : tsize Tryz.prog 182 = some 3 := by kernel_rfl
theorem tag182 : tagg Tryz.prog 182 = some true := by kernel_rfl
theorem tz182 : tzero Tryz.prog 182 = some [.int .i64 0, .int .i64 0, .bool false] := by kernel_rfl
theorem bld182 (parts : List (Nat × V)) : buildV Tryz.prog 182 parts = (fillK [(0, 1), (1, 1), (2, 1)] [.int .i64 0, .int .i64 0, .bool false] parts).map .agg := build_struct (by kernel_rfl) (by kernel_rfl) parts
theorem eqi182 (xs ys : List Leaf) : eqV Tryz.prog 182 (.agg xs) (.agg ys) = eqInfo xs ys [(false, 0, 2), (false, 1, 2), (false, 2, 1)] := eqV_info (by kernel_rfl) xs ys
theorem fo182_0 : fOff Tryz.prog 182 0 = some (0, 3) := by kernel_rfl
theorem fo182_1 : fOff Tryz.prog 182 1 = some (1, 3) := by kernel_rfl
theorem fo182_2 : fOff Tryz.prog 182 2 = some (2, 4) := by kernel_rfl
theorem tsz183 : tsize Tryz.prog 183 = some 3 := by kernel_rfl
theorem tag183 : tagg Tryz.prog 183 = some true := by kernel_rfl
theorem tz183 : tzero Tryz.prog 183 = some [.int .i64 0, .int .i64 0, .bool false] := by kernel_rfl
theorem bld183 (parts : List (Nat × V)) : buildV Tryz.prog 183 parts = (fillK [(0, 1), (1, 1), (2, 1)] [.int .i64 0, .int .i64 0, .bool false] parts).map .agg := build_struct (by kernel_rfl) (by kernel_rfl) parts
theorem eqi183 (xs ys : List Leaf) : eqV Tryz.prog 183 (.agg xs) (.agg ys) = eqInfo xs ys [(false, 0, 2), (false, 1, 2), (false, 2, 1)] := eqV_info (by kernel_rfl) xs ys
theorem fo183_0 : fOff Tryz.prog 183 0 = some (0, 3) := by kernel_rfl
theorem fo183_1 : fOff Tryz.prog 183 1 = some (1, 3) := by kernel_rfl
theorem fo183_2 : fOff Tryz.prog 183 2 = some (2, 4) := by kernel_rfl
theorem tsz184 : tsize Tryz.prog 184 = some 1 := by kernel_rfl
theorem tag184 : tagg Tryz.prog 184 = some false := by kernel_rfl
theorem tz184 : tzero Tryz.prog 184 = some [.nilf] := by kernel_rfl
theorem tsz185 : tsize Tryz.prog 185 = some 1 := by kernel_rfl
theorem tag185 : tagg Tryz.prog 185 = some false := by kernel_rfl
theorem tz185 : tzero Tryz.prog 185 = some [.nilf] := by kernel_rfl
theorem tsz186 : tsize Tryz.prog 186 = some 1 := by kernel_rfl
theorem tag186 : tagg Tryz.prog 186 = some false := by kernel_rfl
theorem tz186 : tzero Tryz.prog 186 = some [.nilf] := by kernel_rfl
theorem tsz187 : tsize Tryz.prog 187 = some 1 := by kernel_rfl
theorem tag187 : tagg Tryz.prog 187 = some false := by kernel_rfl
theorem tz187 : tzero Tryz.prog 187 = some [.nilf] := by kernel_rfl
theorem tsz188 : tsize Tryz.prog 188 = some 1 := by kernel_rfl
theorem tag188 : tagg Tryz.prog 188 = some false := by kernel_rfl
theorem tsz189 : tsize Tryz.prog 189 = some 1 := by kernel_rfl
theorem tag189 : tagg Tryz.prog 189 = some false := by kernel_rfl
theorem tz189 : tzero Tryz.prog 189 = some [.nilf] := by kernel_rfl
theorem tsz190 : tsize Tryz.prog 190 = some 1 := by kernel_rfl
theorem tag190 : tagg Tryz.prog 190 = some false := by kernel_rfl
theorem tz190 : tzero Tryz.prog 190 = some [.nilf] := by kernel_rfl
theorem tsz191 : tsize Tryz.prog 191 = some 1 := by kernel_rfl
theorem tag191 : tagg Tryz.prog 191 = some false := by kernel_rfl
theorem tz191 : tzero Tryz.prog 191 = some [.nilf] := by kernel_rfl
theorem tsz192 : tsize Tryz.prog 192 = some 2 := by kernel_rfl
theorem tag192 : tagg Tryz.prog 192 = some true := by kernel_rfl
theorem tz192 : tzero Tryz.prog 192 = some [.int .i64 0, .int .i64 0] := by kernel_rfl
theorem bld192 (parts : List (Nat × V)) : buildV Tryz.prog 192 parts = (fillK [(0, 1), (1, 1)] [.int .i64 0, .int .i64 0] parts).map .agg := build_struct (by kernel_rfl) (by kernel_rfl) parts
theorem eqi192 (xs ys : List Leaf) : eqV Tryz.prog 192 (.agg xs) (.agg ys) = eqInfo xs ys [(false, 0, 2), (false, 1, 2)] := eqV_info (by kernel_rfl) xs ys
theorem fo192_0 : fOff Tryz.prog 192 0 = some (0, 3) := by kernel_rfl
theorem fo192_1 : fOff Tryz.prog 192 1 = some (1, 3) := by kernel_rfl
theorem tsz193 : tsize Tryz.prog 193 = some 2 := by kernel_rfl
theorem tag193 : tagg Tryz.prog 193 = some true := by kernel_rfl
theorem tz193 : tzero Tryz.prog 193 = some [.int .i64 0, .int .i64 0] := by kernel_rfl
theorem bld193 (parts : List (Nat × V)) : buildV Tryz.prog 193 parts = (fillK [(0, 1), (1, 1)] [.int .i64 0, .int .i64 0] parts).map .agg := build_struct (by kernel_rfl) (by kernel_rfl) parts
theorem eqi193 (xs ys : List Leaf) : eqV Tryz.prog 193 (.agg xs) (.agg ys) = eqInfo xs ys [(false, 0, 2), (false, 1, 2)] := eqV_info (by kernel_rfl) xs ys
theorem fo193_0 : fOff Tryz.prog 193 0 = some (0, 3) := by kernel_rfl
theorem fo193_1 : fOff Tryz.prog 193 1 = some (1, 3) := by kernel_rfl
theorem tsz194 : tsize Tryz.prog 194 = some 1 := by kernel_rfl
theorem tag194 : tagg Tryz.prog 194 = some false := by kernel_rfl
theorem tsz195 : tsize Tryz.prog 195 = some 1 := by kernel_rfl
theorem tag195 : tagg Tryz.prog 195 = some false := by kernel_rfl
theorem tz195 : tzero Tryz.prog 195 = some [.nilf] := by kernel_rfl
theorem tsz196 : tsize Tryz.prog 196 = some 1 := by kernel_rfl
theorem tag196 : tagg Tryz.prog 196 = some false := by kernel_rfl
theorem tz196 : tzero Tryz.prog 196 = some [.nilf] := by kernel_rfl
theorem tsz197 : tsize Tryz.prog 197 = some 1 := by kernel_rfl
theorem tag197 : tagg Tryz.prog 197 = some false := by kernel_rfl
theorem tz197 : tzero Tryz.prog 197 = some [.nilf] := by kernel_rfl
theorem tsz198 : tsize Tryz.prog 198 = some 1 := by kernel_rfl
theorem tag198 : tagg Tryz.prog 198 = some false := by kernel_rfl
theorem tz198 : tzero Tryz.prog 198 = some [.nilf] := by kernel_rfl
theorem tsz199 : tsize Tryz.prog 199 = some 3 := by kernel_rfl
theorem tag199 : tagg Tryz.prog 199 = some true := by kernel_rfl
theorem tz199 : tzero Tryz.prog 199 = some [.int .i64 0, .int .i64 0, .nils] := by kernel_rfl
theorem bld199 (parts : List (Nat × V)) : buildV Tryz.prog 199 parts = (fillK [(0, 2), (2, 1)] [.int .i64 0, .int .i64 0, .nils] parts).map .agg := build_struct (by kernel_rfl) (by kernel_rfl) parts
theorem fo199_0 : fOff Tryz.prog 199 0 = some (0, 193) := by kernel_rfl
theorem fo199_1 : fOff Tryz.prog 199 1 = some (2, 25) := by kernel_rfl
theorem tsz200 : tsize Tryz.prog 200 = some 3 := by kernel_rfl
theorem tag200 : tagg Tryz.prog 200 = some true := by kernel_rfl
theorem tz200 : tzero Tryz.prog 200 = some [.int .i64 0, .int .i64 0, .nils] := by kernel_rfl
theorem bld200 (parts : List (Nat × V)) : buildV Tryz.prog 200 parts = (fillK [(0, 2), (2, 1)] [.int .i64 0, .int .i64 0, .nils] parts).map .agg := build_struct (by kernel_rfl) (by kernel_rfl) parts
theorem fo200_0 : fOff Tryz.prog 200 0 = some (0, 193) := by kernel_rfl
theorem fo200_1 : fOff Tryz.prog 200 1 = some (2, 25) := by kernel_rfl
theorem tsz201 : tsize Tryz.prog 201 = some 1 := by kernel_rfl
theorem tag201 : tagg Tryz.prog 201 = some false := by kernel_rfl
theorem tz201 : tzero Tryz.prog 201 = some [.nilf] := by kernel_rfl
theorem tsz202 : tsize Tryz.prog 202 = some 1 := by kernel_rfl
theorem tag202 : tagg Tryz.prog 202 = some false := by kernel_rfl
theorem tz202 : tzero Tryz.prog 202 = some [.nilf] := by kernel_rfl
theorem tsz203 : tsize Tryz.prog 203 = some 1 := by kernel_rfl
theorem tag203 : tagg Tryz.prog 203 = some false := by kernel_rfl
theorem tz203 : tzero Tryz.prog 203 = some [.nilf] := by kernel_rfl
theorem tsz204 : tsize Tryz.prog 204 = some 1 := by kernel_rfl
theorem tag204 : tagg Tryz.prog 204 = some false := by kernel_rfl
theorem tz204 : tzero Tryz.prog 204 = some [.nilf] := by kernel_rfl
theorem tsz205 : tsize Tryz.prog 205 = some 1 := by kernel_rfl
theorem tag205 : tagg Tryz.prog 205 = some false := by kernel_rfl
theorem tz205 : tzero Tryz.prog 205 = some [.nilf] := by kernel_rfl
theorem tsz206 : tsize Tryz.prog 206 = some 2 := by kernel_rfl
theorem tag206 : tagg Tryz.prog 206 = some true := by kernel_rfl
theorem tz206 : tzero Tryz.prog 206 = some [.str [], .int .i64 0] := by kernel_rfl
theorem bld206 (parts : List (Nat × V)) : buildV Tryz.prog 206 parts = (fillK [(0, 1), (1, 1)] [.str [], .int .i64 0] parts).map .agg := build_struct (by kernel_rfl) (by kernel_rfl) parts
theorem fo206_0 : fOff Tryz.prog 206 0 = some (0, 9) := by kernel_rfl
theorem fo206_1 : fOff Tryz.prog 206 1 = some (1, 3) := by kernel_rfl
theorem tsz207 : tsize Tryz.prog 207 = some 2 := by kernel_rfl
theorem tag207 : tagg Tryz.prog 207 = some true := by kernel_rfl
theorem tz207 : tzero Tryz.prog 207 = some [.str [], .int .i64 0] := by kernel_rfl
theorem bld207 (parts : List (Nat × V)) : buildV Tryz.prog 207 parts = (fillK [(0, 1), (1, 1)] [.str [], .int .i64 0] parts).map .agg := build_struct (by kernel_rfl) (by kernel_rfl) parts
theorem fo207_0 : fOff Tryz.prog 207 0 = some (0, 9) := by kernel_rfl
theorem fo207_1 : fOff Tryz.prog 207 1 = some (1, 3) := by kernel_rfl
theorem tsz208 : tsize Tryz.prog 208 = some 1 := by kernel_rfl
theorem tag208 : tagg Tryz.prog 208 = some false := by kernel_rfl
theorem tz208 : tzero Tryz.prog 208 = some [.nilf] := by kernel_rfl
theorem tsz209 : tsize Tryz.prog 209 = some 1 := by kernel_rfl
theorem tag209 : tagg Tryz.prog 209 = some false := by kernel_rfl
theorem tz209 : tzero Tryz.prog 209 = some [.nilf] := by kernel_rfl
theorem tsz210 : tsize Tryz.prog 210 = some 1 := by kernel_rfl
theorem tag210 : tagg Tryz.prog 210 = some false := by kernel_rfl
theorem tz210 : tzero Tryz.prog 210 = some [.nilf] := by kernel_rfl
theorem tsz211 : tsize Tryz.prog 211 = some 1 := by kernel_rfl
theorem tag211 : tagg Tryz.prog 211 = some false := by kernel_rfl
theorem tz211 : tzero Tryz.prog 211 = some [.nilf] := by kernel_rfl
theorem tsz212 : tsize Tryz.prog 212 = some 1 := by kernel_rfl
theorem tag212 : tagg Tryz.prog 212 = some false := by kernel_rfl
theorem tz212 : tzero Tryz.prog 212 = some [.nilf] := by kernel_rfl
theorem tsz213 : tsize Tryz.prog 213 = some 1 := by kernel_rfl
theorem tag213 : tagg Tryz.prog 213 = some false := by kernel_rfl
theorem tz213 : tzero Tryz.prog 213 = some [.nilf] := by kernel_rfl
theorem tsz214 : tsize Tryz.prog 214 = some 1 := by kernel_rfl
theorem tag214 : tagg Tryz.prog 214 = some false := by kernel_rfl
theorem tz214 : tzero Tryz.prog 214 = some [.nilf] := by kernel_rfl
theorem tsz215 : tsize Tryz.prog 215 = some 1 := by kernel_rfl
theorem tag215 : tagg Tryz.prog 215 = some false := by kernel_rfl
theorem tz215 : tzero Tryz.prog 215 = some [.nilf] := by kernel_rfl
theorem tsz216 : tsize Tryz.prog 216 = some 1 := by kernel_rfl
theorem tag216 : tagg Tryz.prog 216 = some false := by kernel_rfl
theorem tz216 : tzero Tryz.prog 216 = some [.nilf] := by kernel_rfl
theorem tsz217 : tsize Tryz.prog 217 = some 1 := by kernel_rfl
theorem tag217 : tagg Tryz.prog 217 = some false := by kernel_rfl
theorem tz217 : tzero Tryz.prog 217 = some [.nilf] := by kernel_rfl
theorem tsz218 : tsize Tryz.prog 218 = some 4 := by kernel_rfl
theorem tag218 : tagg Tryz.prog 218 = some true := by kernel_rfl
theorem tz218 : tzero Tryz.prog 218 = some [.int .i64 0, .int .i64 0, .int .i64 0, .bool false] := by kernel_rfl
theorem bld218 (parts : List (Nat × V)) : buildV Tryz.prog 218 parts = (fillK [(0, 1), (1, 1), (2, 1), (3, 1)] [.int .i64 0, .int .i64 0, .int .i64 0, .bool false] parts).map .agg := build_struct (by kernel_rfl) (by kernel_rfl) parts
theorem eqi218 (xs ys : List Leaf) : eqV Tryz.prog 218 (.agg xs) (.agg ys) = eqInfo xs ys [(false, 0, 2), (false, 1, 2), (false, 2, 2), (false, 3, 1)] := eqV_info (by kernel_rfl) xs ys
theorem fo218_0 : fOff Tryz.prog 218 0 = some (0, 3) := by kernel_rfl
theorem fo218_1 : fOff Tryz.prog 218 1 = some (1, 3) := by kernel_rfl
theorem fo218_2 : fOff Tryz.prog 218 2 = some (2, 3) := by kernel_rfl
theorem fo218_3 : fOff Tryz.prog 218 3 = some (3, 4) := by kernel_rfl
theorem tsz219 : tsize Tryz.prog 219 = some 4 := by kernel_rfl
theorem tag219 : tagg Tryz.prog 219 = some true := by kernel_rfl
theorem tz219 : tzero Tryz.prog 219 = some [.int .i64 0, .int .i64 0, .int .i64 0, .bool false] := by kernel_rfl
theorem bld219 (parts : List (Nat × V)) : buildV Tryz.prog 219 parts = (fillK [(0, 1), (1, 1), (2, 1), (3, 1)] [.int .i64 0, .int .i64 0, .int .i64 0, .bool false] parts).map .agg := build_struct (by kernel_rfl) (by kernel_rfl) parts
theorem eqi219 (xs ys : List Leaf) : eqV Tryz.prog 219 (.agg xs) (.agg ys) = eqInfo xs ys [(false, 0, 2), (false, 1, 2), (false, 2, 2), (false, 3, 1)] := eqV_info (by kernel_rfl) xs ys
theorem fo219_0 : fOff Tryz.prog 219 0 = some (0, 3) := by kernel_rfl
theorem fo219_1 : fOff Tryz.prog 219 1 = some (1, 3) := by kernel_rfl
theorem fo219_2 : fOff Tryz.prog 219 2 = some (2, 3) := by kernel_rfl
theorem fo219_3 : fOff Tryz.prog 219 3 = some (3, 4) := by kernel_rfl
theorem tsz220 : tsize Tryz.prog 220 = some 1 := by kernel_rfl
theorem tag220 : tagg Tryz.prog 220 = some false := by kernel_rfl
theorem tz220 : tzero Tryz.prog 220 = some [.nilf] := by kernel_rfl
theorem tsz221 : tsize Tryz.prog 221 = some 1 := by kernel_rfl
theorem tag221 : tagg Tryz.prog 221 = some false := by kernel_rfl
theorem tz221 : tzero Tryz.prog 221 = some [.nilf] := by kernel_rfl
theorem tsz222 : tsize Tryz.prog 222 = some 1 := by kernel_rfl
theorem tag222 : tagg Tryz.prog 222 = some false := by kernel_rfl
theorem tz222 : tzero Tryz.prog 222 = some [.nilf] := by kernel_rfl
theorem tsz223 : tsize Tryz.prog 223 = some 1 := by kernel_rfl
theorem tag223 : tagg Tryz.prog 223 = some false := by kernel_rfl
theorem tz223 : tzero Tryz.prog 223 = some [.nilf] := by kernel_rfl
theorem tsz224 : tsize Tryz.prog 224 = some 1 := by kernel_rfl
theorem tag224 : tagg Tryz.prog 224 = some false := by kernel_rfl
theorem tz224 : tzero Tryz.prog 224 = some [.nilf] := by kernel_rfl
theorem tsz225 : tsize Tryz.prog 225 = some 2 := by kernel_rfl
theorem tag225 : tagg Tryz.prog 225 = some true := by kernel_rfl
theorem tz225 : tzero Tryz.prog 225 = some [.int .i64 0, .int .i64 0] := by kernel_rfl
theorem bld225 (parts : List (Nat × V)) : buildV Tryz.prog 225 parts = (fillK [(0, 1), (1, 1)] [.int .i64 0, .int .i64 0] parts).map .agg := build_struct (by kernel_rfl) (by kernel_rfl) parts
theorem eqi225 (xs ys : List Leaf) : eqV Tryz.prog 225 (.agg xs) (.agg ys) = eqInfo xs ys [(false, 0, 2), (false, 1, 2)] := eqV_info (by kernel_rfl) xs ys
theorem fo225_0 : fOff Tryz.prog 225 0 = some (0, 3) := by kernel_rfl
theorem fo225_1 : fOff Tryz.prog 225 1 = some (1, 2) := by kernel_rfl
theorem tsz226 : tsize Tryz.prog 226 = some 2 := by kernel_rfl
theorem tag226 : tagg Tryz.prog 226 = some true := by kernel_rfl
theorem tz226 : tzero Tryz.prog 226 = some [.int .i64 0, .int .i64 0] := by kernel_rfl
theorem bld226 (parts : List (Nat × V)) : buildV Tryz.prog 226 parts = (fillK [(0, 1), (1, 1)] [.int .i64 0, .int .i64 0] parts).map .agg := build_struct (by kernel_rfl) (by kernel_rfl) parts
theorem eqi226 (xs ys : List Leaf) : eqV Tryz.prog 226 (.agg xs) (.agg ys) = eqInfo xs ys [(false, 0, 2), (false, 1, 2)] := eqV_info (by kernel_rfl) xs ys
theorem fo226_0 : fOff Tryz.prog 226 0 = some (0, 3) := by kernel_rfl
theorem fo226_1 : fOff Tryz.prog 226 1 = some (1, 2) := by kernel_rfl
theorem tsz227 : tsize Tryz.prog 227 = some 1 := by kernel_rfl
theorem tag227 : tagg Tryz.prog 227 = some false := by kernel_rfl
theorem tz227 : tzero Tryz.prog 227 = some [.nilf] := by kernel_rfl
theorem tsz228 : tsize Tryz.prog 228 = some 1 := by kernel_rfl
theorem tag228 : tagg Tryz.prog 228 = some false := by kernel_rfl
theorem tz228 : tzero Tryz.prog 228 = some [.nilf] := by kernel_rfl
theorem tsz229 : tsize Tryz.prog 229 = some 1 := by kernel_rfl
theorem tag229 : tagg Tryz.prog 229 = some false := by kernel_rfl
theorem tz229 : tzero Tryz.prog 229 = some [.nilf] := by kernel_rfl
theorem tsz230 : tsize Tryz.prog 230 = some 1 := by kernel_rfl
theorem tag230 : tagg Tryz.prog 230 = some false := by kernel_rfl
theorem tz230 : tzero Tryz.prog 230 = some [.nilf] := by kernel_rfl
theorem tsz231 : tsize Tryz.prog 231 = some 1 := by kernel_rfl
theorem tag231 : tagg Tryz.prog 231 = some false := by kernel_rfl
theorem tz231 : tzero Tryz.prog 231 = some [.nilf] := by kernel_rfl
theorem tsz232 : tsize Tryz.prog 232 = some 1 := by kernel_rfl
theorem tag232 : tagg Tryz.prog 232 = some false := by kernel_rfl
theorem tz232 : tzero Tryz.prog 232 = some [.nilf] := by kernel_rfl
theorem tsz233 : tsize Tryz.prog 233 = some 1 := by kernel_rfl
theorem tag233 : tagg Tryz.prog 233 = some false := by kernel_rfl
theorem tz233 : tzero Tryz.prog 233 = some [.nilf] := by kernel_rfl
theorem tsz234 : tsize Tryz.prog 234 = some 1 := by kernel_rfl
theorem tag234 : tagg Tryz.prog 234 = some false := by kernel_rfl
theorem tz234 : tzero Tryz.prog 234 = some [.nilf] := by kernel_rfl
theorem tsz235 : tsize Tryz.prog 235 = some 1 := by kernel_rfl
theorem tag235 : tagg Tryz.prog 235 = some false := by kernel_rfl
theorem tz235 : tzero Tryz.prog 235 = some [.nilf] := by kernel_rfl
theorem tsz236 : tsize Tryz.prog 236 = some 1 := by kernel_rfl
theorem tag236 : tagg Tryz.prog 236 = some false := by kernel_rfl
theorem tz236 : tzero Tryz.prog 236 = some [.nilf] := by kernel_rfl
theorem tsz237 : tsize Tryz.prog 237 = some 1 := by kernel_rfl
theorem tag237 : tagg Tryz.prog 237 = some false := by kernel_rfl
theorem tsz238 : tsize Tryz.prog 238 = some 1 := by kernel_rfl
theorem tag238 : tagg Tryz.prog 238 = some false := by kernel_rfl
theorem tz238 : tzero Tryz.prog 238 = some [.nilf] := by kernel_rfl
theorem tsz239 : tsize Tryz.prog 239 = some 1 := by kernel_rfl
theorem tag239 : tagg Tryz.prog 239 = some false := by kernel_rfl
theorem tz239 : tzero Tryz.prog 239 = some [.nilf] := by kernel_rfl
theorem tsz240 : tsize Tryz.prog 240 = some 1 := by kernel_rfl
theorem tag240 : tagg Tryz.prog 240 = some false := by kernel_rfl
theorem tz240 : tzero Tryz.prog 240 = some [.nilf] := by kernel_rfl
theorem tsz241 : tsize Tryz.prog 241 = some 1 := by kernel_rfl
theorem tag241 : tagg Tryz.prog 241 = some false := by kernel_rfl
theorem tz241 : tzero Tryz.prog 241 = some [.nilf] := by kernel_rfl
theorem tsz242 : tsize Tryz.prog 242 = some 1 := by kernel_rfl
theorem tag242 : tagg Tryz.prog 242 = some false := by kernel_rfl
theorem tz242 : tzero Tryz.prog 242 = some [.nilf] := by kernel_rfl
theorem tsz243 : tsize Tryz.prog 243 = some 1 := by kernel_rfl
theorem tag243 : tagg Tryz.prog 243 = some false := by kernel_rfl
theorem tz243 : tzero Tryz.prog 243 = some [.nilf] := by kernel_rfl
theorem tsz244 : tsize Tryz.prog 244 = some 1 := by kernel_rfl
theorem tag244 : tagg Tryz.prog 244 = some false := by kernel_rfl
theorem tz244 : tzero Tryz.prog 244 = some [.nilf] := by kernel_rfl
theorem tsz245 : tsize Tryz.prog 245 = some 1 := by kernel_rfl
theorem tag245 : tagg Tryz.prog 245 = some false := by kernel_rfl
theorem tz245 : tzero Tryz.prog 245 = some [.nilf] := by kernel_rfl
theorem tsz246 : tsize Tryz.prog 246 = some 1 := by kernel_rfl
theorem tag246 : tagg Tryz.prog 246 = some false := by kernel_rfl
theorem tz246 : tzero Tryz.prog 246 = some [.nilf] := by kernel_rfl
theorem tsz247 : tsize Tryz.prog 247 = some 3 := by kernel_rfl
theorem tag247 : tagg Tryz.prog 247 = some true := by kernel_rfl
theorem tz247 : tzero Tryz.prog 247 = some [.int .i64 0, .int .i64 0, .int .i64 0] := by kernel_rfl
theorem bld247 (parts : List (Nat × V)) : buildV Tryz.prog 247 parts = (fillK [(0, 1), (1, 2)] [.int .i64 0, .int .i64 0, .int .i64 0] parts).map .agg := build_struct (by kernel_rfl) (by kernel_rfl) parts
theorem fo247_0 : fOff Tryz.prog 247 0 = some (0, 3) := by kernel_rfl
theorem fo247_1 : fOff Tryz.prog 247 1 = some (1, 226) := by kernel_rfl
theorem tsz248 : tsize Tryz.prog 248 = some 3 := by kernel_rfl
theorem tag248 : tagg Tryz.prog 248 = some true := by kernel_rfl
theorem tz248 : tzero Tryz.prog 248 = some [.int .i64 0, .int .i64 0, .int .i64 0] := by kernel_rfl
theorem bld248 (parts : List (Nat × V)) : buildV Tryz.prog 248 parts = (fillK [(0, 1), (1, 2)] [.int .i64 0, .int .i64 0, .int .i64 0] parts).map .agg := build_struct (by kernel_rfl) (by kernel_rfl) parts
theorem fo248_0 : fOff Tryz.prog 248 0 = some (0, 3) := by kernel_rfl
theorem fo248_1 : fOff Tryz.prog 248 1 = some (1, 226) := by kernel_rfl
theorem tsz249 : tsize Tryz.prog 249 = some 1 := by kernel_rfl
theorem tag249 : tagg Tryz.prog 249 = some false := by kernel_rfl
theorem tz249 : tzero Tryz.prog 249 = some [.nilf] := by kernel_rfl
theorem tsz250 : tsize Tryz.prog 250 = some 1 := by kernel_rfl
theorem tag250 : tagg Tryz.prog 250 = some false := by kernel_rfl
theorem tz250 : tzero Tryz.prog 250 = some [.int .i64 0] := by kernel_rfl
theorem und250 : Tryz.prog.underlying 250 = some (.int .i64) := by kernel_rfl
theorem tsz251 : tsize Tryz.prog 251 = some 1 := by kernel_rfl
theorem tag251 : tagg Tryz.prog 251 = some false := by kernel_rfl
theorem tsz252 : tsize Tryz.prog 252 = some 1 := by kernel_rfl
theorem tag252 : tagg Tryz.prog 252 = some false := by kernel_rfl
theorem tz252 : tzero Tryz.prog 252 = some [.nilf] := by kernel_rfl
theorem tsz253 : tsize Tryz.prog 253 = some 1 := by kernel_rfl
theorem tag253 : tagg Tryz.prog 253 = some false := by kernel_rfl
theorem tz253 : tzero Tryz.prog 253 = some [.nilf] := by kernel_rfl
theorem tsz254 : tsize Tryz.prog 254 = some 1 := by kernel_rfl
theorem tag254 : tagg Tryz.prog 254 = some false := by kernel_rfl
theorem tz254 : tzero Tryz.prog 254 = some [.nilf] := by kernel_rfl
theorem tsz255 : tsize Tryz.prog 255 = some 1 := by kernel_rfl
theorem tag255 : tagg Tryz.prog 255 = some false := by kernel_rfl
theorem tz255 : tzero Tryz.prog 255 = some [.nilf] := by kernel_rfl
theorem tsz256 : tsize Tryz.prog 256 = some 1 := by kernel_rfl
theorem tag256 : tagg Tryz.prog 256 = some false := by kernel_rfl
theorem tz256 : tzero Tryz.prog 256 = some [.nilf] := by kernel_rfl
theorem tsz257 : tsize Tryz.prog 257 = some 1 := by kernel_rfl
theorem tag257 : tagg Tryz.prog 257 = some false := by kernel_rfl
theorem tz257 : tzero Tryz.prog 257 = some [.int .u32 0] := by kernel_rfl
theorem und257 : Tryz.prog.underlying 257 = some (.int .u32) := by kernel_rfl
theorem tsz258 : tsize Tryz.prog 258 = some 1 := by kernel_rfl
theorem tag258 : tagg Tryz.prog 258 = some false := by kernel_rfl
theorem tz258 : tzero Tryz.prog 258 = some [.nilf] := by kernel_rfl
theorem tsz259 : tsize Tryz.prog 259 = some 1 := by kernel_rfl
theorem tag259 : tagg Tryz.prog 259 = some false := by kernel_rfl
theorem tz259 : tzero Tryz.prog 259 = some [.int .u64 0] := by kernel_rfl
theorem und259 : Tryz.prog.underlying 259 = some (.int .u64) := by kernel_rfl
theorem tsz260 : tsize Tryz.prog 260 = some 1 := by kernel_rfl
theorem tag260 : tagg Tryz.prog 260 = some false := by kernel_rfl
theorem tz260 : tzero Tryz.prog 260 = some [.nilf] := by kernel_rfl
theorem tsz261 : tsize Tryz.prog 261 = some 1 := by kernel_rfl
theorem tag261 : tagg Tryz.prog 261 = some false := by kernel_rfl
theorem tz261 : tzero Tryz.prog 261 = some [.nils] := by kernel_rfl
theorem tel261 : telem Tryz.prog 261 = some 5 := by kernel_rfl
theorem isl261 : isSl Tryz.prog 261 = true := by kernel_rfl
theorem E261 : ElemT Tryz.prog 261 1 1 [.int .u8 0] := .mk' (e := 5) (by kernel_rfl) (by kernel_rfl) (by kernel_rfl) rfl (by decide) (by decide)
theorem app261 {H : Heap} (x : V) (id sz : Nat) : appendV Tryz.prog none H 261 261 (.one (.sl id 1 sz 0 sz)) x = appK 1 1 H id sz (rowAt H id sz) (srcOf Tryz.prog H 1 261 x) := append_sl E261 x id sz
theorem apn261 {H : Heap} (x : V) : appendV Tryz.prog none H 261 261 (.one .nils) x = appN 1 1 H .nils (srcOf Tryz.prog H 1 261 x) := append_nils E261 x
theorem apz261 {H : Heap} (x : V) : appendV Tryz.prog none H 261 261 (.one .zsl) x = appN 1 1 H .zsl (srcOf Tryz.prog H 1 261 x) := append_zsl E261 x
theorem bs261 {H : Heap} (x : Leaf) : buildSliceV Tryz.prog none H 261 1 [(0, .one x)] = some (.one (.sl H.length 1 1 0 1), H ++ [some (.row 1 [[x]])], []) := build_one E261 x
theorem tsz262 : tsize Tryz.prog 262 = some 1 := by kernel_rfl
theorem tag262 : tagg Tryz.prog 262 = some false := by kernel_rfl
theorem tz262 : tzero Tryz.prog 262 = some [.nilf] := by kernel_rfl
theorem tsz263 : tsize Tryz.prog 263 = some 1 := by kernel_rfl
theorem tag263 : tagg Tryz.prog 263 = some false := by kernel_rfl
theorem tz263 : tzero Tryz.prog 263 = some [.nilf] := by kernel_rfl
theorem tsz264 : tsize Tryz.prog 264 = some 1 := by kernel_rfl
theorem tag264 : tagg Tryz.prog 264 = some false := by kernel_rfl
theorem tz264 : tzero Tryz.prog 264 = some [.nilf] := by kernel_rfl
theorem tsz265 : tsize Tryz.prog 265 = some 1 := by kernel_rfl
theorem tag265 : tagg Tryz.prog 265 = some false := by kernel_rfl
theorem tz265 : tzero Tryz.prog 265 = some [.nilf] := by kernel_rfl
theorem tsz266 : tsize Tryz.prog 266 = some 1 := by kernel_rfl
theorem tag266 : tagg Tryz.prog 266 = some false := by kernel_rfl
theorem tz266 : tzero Tryz.prog 266 = some [.int .u64 0] := by kernel_rfl
theorem und266 : Tryz.prog.underlying 266 = some (.int .u64) := by kernel_rfl
theorem tsz267 : tsize Tryz.prog 267 = some 1 := by kernel_rfl
theorem tag267 : tagg Tryz.prog 267 = some false := by kernel_rfl
theorem tz267 : tzero Tryz.prog 267 = some [.nilf] := by kernel_rfl
theorem tsz268 : tsize Tryz.prog 268 = some 1 := by kernel_rfl
theorem tag268 : tagg Tryz.prog 268 = some false := by kernel_rfl
theorem tz268 : tzero Tryz.prog 268 = some [.nilf] := by kernel_rfl
theorem tsz269 : tsize Tryz.prog 269 = some 1 := by kernel_rfl
theorem tag269 : tagg Tryz.prog 269 = some false := by kernel_rfl
theorem tz269 : tzero Tryz.prog 269 = some [.nilf] := by kernel_rfl
theorem tsz270 : tsize Tryz.prog 270 = some 1 := by kernel_rfl
theorem tag270 : tagg Tryz.prog 270 = some false := by kernel_rfl
theorem tz270 : tzero Tryz.prog 270 = some [.nilp] := by kernel_rfl
theorem pt270 : isPt Tryz.prog 270 = true := by kernel_rfl
theorem und270 : Tryz.prog.underlying 270 = some (.pointer 3) := by kernel_rfl
theorem tsz271 : tsize Tryz.prog 271 = some 1 := by kernel_rfl
theorem tag271 : tagg Tryz.prog 271 = some false := by kernel_rfl
theorem tz271 : tzero Tryz.prog 271 = some [.nilf] := by kernel_rfl
theorem tsz272 : tsize Tryz.prog 272 = some 1 := by kernel_rfl
theorem tag272 : tagg Tryz.prog 272 = some false := by kernel_rfl
theorem tz272 : tzero Tryz.prog 272 = some [.nilf] := by kernel_rfl
theorem tsz273 : tsize Tryz.prog 273 = some 1 := by kernel_rfl
theorem tag273 : tagg Tryz.prog 273 = some false := by kernel_rfl
theorem tz273 : tzero Tryz.prog 273 = some [.nilf] := by kernel_rfl
theorem tsz274 : tsize Tryz.prog 274 = some 1 := by kernel_rfl
theorem tag274 : tagg Tryz.prog 274 = some false := by kernel_rfl
theorem tz274 : tzero Tryz.prog 274 = some [.nilf] := by kernel_rfl
theorem tsz275 : tsize Tryz.prog 275 = some 1 := by kernel_rfl
theorem tag275 : tagg Tryz.prog 275 = some false := by kernel_rfl
theorem tz275 : tzero Tryz.prog 275 = some [.nilf] := by kernel_rfl
theorem tsz276 : tsize Tryz.prog 276 = some 1 := by kernel_rfl
theorem tag276 : tagg Tryz.prog 276 = some false := by kernel_rfl
theorem tz276 : tzero Tryz.prog 276 = some [.nilp] := by kernel_rfl
theorem pt276 : isPt Tryz.prog 276 = true := by kernel_rfl
theorem und276 : Tryz.prog.underlying 276 = some (.pointer 266) := by kernel_rfl
theorem tsz277 : tsize Tryz.prog 277 = some 1 := by kernel_rfl
theorem tag277 : tagg Tryz.prog 277 = some false := by kernel_rfl
theorem tz277 : tzero Tryz.prog 277 = some [.nilf] := by kernel_rfl
theorem tsz278 : tsize Tryz.prog 278 = some 1 := by kernel_rfl
theorem tag278 : tagg Tryz.prog 278 = some false := by kernel_rfl
theorem tsz279 : tsize Tryz.prog 279 = some 1 := by kernel_rfl
theorem tag279 : tagg Tryz.prog 279 = some false := by kernel_rfl
theorem tz279 : tzero Tryz.prog 279 = some [.nilf] := by kernel_rfl
theorem tsz280 : tsize Tryz.prog 280 = some 1 := by kernel_rfl
theorem tag280 : tagg Tryz.prog 280 = some false := by kernel_rfl
theorem tsz281 : tsize Tryz.prog 281 = some 1 := by kernel_rfl
theorem tag281 : tagg Tryz.prog 281 = some false := by kernel_rfl
theorem tz281 : tzero Tryz.prog 281 = some [.nilf] := by kernel_rfl
theorem tsz282 : tsize Tryz.prog 282 = some 1 := by kernel_rfl
theorem tag282 : tagg Tryz.prog 282 = some false := by kernel_rfl
theorem tz282 : tzero Tryz.prog 282 = some [.nils] := by kernel_rfl
theorem tel282 : telem Tryz.prog 282 = some 9 := by kernel_rfl
theorem isl282 : isSl Tryz.prog 282 = true := by kernel_rfl
theorem E282 : ElemT Tryz.prog 282 1 16 [.str []] := .mk' (e := 9) (by kernel_rfl) (by kernel_rfl) (by kernel_rfl) rfl (by decide) (by decide)
theorem app282 {H : Heap} (x : V) (id sz : Nat) : appendV Tryz.prog none H 282 282 (.one (.sl id 1 sz 0 sz)) x = appK 1 16 H id sz (rowAt H id sz) (srcOf Tryz.prog H 1 282 x) := append_sl E282 x id sz
theorem apn282 {H : Heap} (x : V) : appendV Tryz.prog none H 282 282 (.one .nils) x = appN 1 16 H .nils (srcOf Tryz.prog H 1 282 x) := append_nils E282 x
theorem apz282 {H : Heap} (x : V) : appendV Tryz.prog none H 282 282 (.one .zsl) x = appN 1 16 H .zsl (srcOf Tryz.prog H 1 282 x) := append_zsl E282 x
theorem bs282 {H : Heap} (x : Leaf) : buildSliceV Tryz.prog none H 282 1 [(0, .one x)] = some (.one (.sl H.length 1 1 0 1), H ++ [some (.row 1 [[x]])], []) := build_one E282 x
theorem tsz283 : tsize Tryz.prog 283 = some 1 := by kernel_rfl
theorem tag283 : tagg Tryz.prog 283 = some false := by kernel_rfl
theorem tz283 : tzero Tryz.prog 283 = some [.nilf] := by kernel_rfl
theorem tsz284 : tsize Tryz.prog 284 = some 4 := by kernel_rfl
theorem tag284 : tagg Tryz.prog 284 = some true := by kernel_rfl
theorem tz284 : tzero Tryz.prog 284 = some [.nilp, .nilp, .nilp, .str []] := by kernel_rfl
theorem bld284 (parts : List (Nat × V)) : buildV Tryz.prog 284 parts = (fillK [(0, 1), (1, 1), (2, 1), (3, 1)] [.nilp, .nilp, .nilp, .str []] parts).map .agg := build_struct (by kernel_rfl) (by kernel_rfl) parts
theorem fo284_0 : fOff Tryz.prog 284 0 = some (0, 17) := by kernel_rfl
theorem fo284_1 : fOff Tryz.prog 284 1 = some (1, 17) := by kernel_rfl
theorem fo284_2 : fOff Tryz.prog 284 2 = some (2, 17) := by kernel_rfl
theorem fo284_3 : fOff Tryz.prog 284 3 = some (3, 9) := by kernel_rfl
theorem tsz285 : tsize Tryz.prog 285 = some 4 := by kernel_rfl
theorem tag285 : tagg Tryz.prog 285 = some true := by kernel_rfl
theorem tz285 : tzero Tryz.prog 285 = some [.nilp, .nilp, .nilp, .str []] := by kernel_rfl
theorem bld285 (parts : List (Nat × V)) : buildV Tryz.prog 285 parts = (fillK [(0, 1), (1, 1), (2, 1), (3, 1)] [.nilp, .nilp, .nilp, .str []] parts).map .agg := build_struct (by kernel_rfl) (by kernel_rfl) parts
theorem fo285_0 : fOff Tryz.prog 285 0 = some (0, 17) := by kernel_rfl
theorem fo285_1 : fOff Tryz.prog 285 1 = some (1, 17) := by kernel_rfl
theorem fo285_2 : fOff Tryz.prog 285 2 = some (2, 17) := by kernel_rfl
theorem fo285_3 : fOff Tryz.prog 285 3 = some (3, 9) := by kernel_rfl
theorem tsz286 : tsize Tryz.prog 286 = some 0 := by kernel_rfl
theorem tag286 : tagg Tryz.prog 286 = some true := by kernel_rfl
theorem tz286 : tzero Tryz.prog 286 = some [] := by kernel_rfl
theorem tsz287 : tsize Tryz.prog 287 = some 0 := by kernel_rfl
theorem tag287 : tagg Tryz.prog 287 = some true := by kernel_rfl
theorem tz287 : tzero Tryz.prog 287 = some [] := by kernel_rfl
theorem bld287 (parts : List (Nat × V)) : buildV Tryz.prog 287 parts = (fillK [(0, 0)] [] parts).map .agg := build_struct (by kernel_rfl) (by kernel_rfl) parts
theorem fo287_0 : fOff Tryz.prog 287 0 = some (0, 286) := by kernel_rfl
theorem tsz288 : tsize Tryz.prog 288 = some 0 := by kernel_rfl
theorem tag288 : tagg Tryz.prog 288 = some true := by kernel_rfl
theorem tz288 : tzero Tryz.prog 288 = some [] := by kernel_rfl
theorem bld288 (parts : List (Nat × V)) : buildV Tryz.prog 288 parts = (fillK [(0, 0)] [] parts).map .agg := build_struct (by kernel_rfl) (by kernel_rfl) parts
theorem fo288_0 : fOff Tryz.prog 288 0 = some (0, 286) := by kernel_rfl
theorem tsz289 : tsize Tryz.prog 289 = some 1 := by kernel_rfl
theorem tag289 : tagg Tryz.prog 289 = some false := by kernel_rfl
theorem tz289 : tzero Tryz.prog 289 = some [.int .u8 0] := by kernel_rfl
theorem und289 : Tryz.prog.underlying 289 = some (.int .u8) := by kernel_rfl
theorem tsz290 : tsize Tryz.prog 290 = some 1 := by kernel_rfl
theorem tag290 : tagg Tryz.prog 290 = some false := by kernel_rfl
theorem tz290 : tzero Tryz.prog 290 = some [.int .u8 0] := by kernel_rfl
theorem und290 : Tryz.prog.underlying 290 = some (.int .u8) := by kernel_rfl
theorem tsz291 : tsize Tryz.prog 291 = some 1 := by kernel_rfl
theorem tag291 : tagg Tryz.prog 291 = some false := by kernel_rfl
theorem tz291 : tzero Tryz.prog 291 = some [.nilf] := by kernel_rfl
theorem tsz292 : tsize Tryz.prog 292 = some 1 := by kernel_rfl
theorem tag292 : tagg Tryz.prog 292 = some false := by kernel_rfl
theorem tz292 : tzero Tryz.prog 292 = some [.nilp] := by kernel_rfl
theorem pt292 : isPt Tryz.prog 292 = true := by kernel_rfl
theorem und292 : Tryz.prog.underlying 292 = some (.pointer 5) := by kernel_rfl
theorem tsz293 : tsize Tryz.prog 293 = some 1 := by kernel_rfl
theorem tag293 : tagg Tryz.prog 293 = some false := by kernel_rfl
theorem tz293 : tzero Tryz.prog 293 = some [.int .i32 0] := by kernel_rfl
theorem und293 : Tryz.prog.underlying 293 = some (.int .i32) := by kernel_rfl
theorem tsz294 : tsize Tryz.prog 294 = some 1 := by kernel_rfl
theorem tag294 : tagg Tryz.prog 294 = some false := by kernel_rfl
theorem tz294 : tzero Tryz.prog 294 = some [.int .i32 0] := by kernel_rfl
theorem und294 : Tryz.prog.underlying 294 = some (.int .i32) := by kernel_rfl
theorem tsz295 : tsize Tryz.prog 295 = some 11 := by kernel_rfl
theorem tag295 : tagg Tryz.prog 295 = some true := by kernel_rfl
theorem tz295 : tzero Tryz.prog 295 = some [.int .u64 0, .int .u64 0, .int .u32 0, .int .u8 0, .int .u8 0, .int .u8 0, .int .u8 0, .nilf, .nilp, .int .i32 0, .int .i32 0] := by kernel_rfl
theorem bld295 (parts : List (Nat × V)) : buildV Tryz.prog 295 parts = (fillK [(0, 1), (1, 1), (2, 1), (3, 1), (4, 1), (5, 1), (6, 1), (7, 1), (8, 1), (9, 1), (10, 1)] [.int .u64 0, .int .u64 0, .int .u32 0, .int .u8 0, .int .u8 0, .int .u8 0, .int .u8 0, .nilf, .nilp, .int .i32 0, .int .i32 0] parts).map .agg := build_struct (by kernel_rfl) (by kernel_rfl) parts
theorem fo295_0 : fOff Tryz.prog 295 0 = some (0, 12) := by kernel_rfl
theorem fo295_1 : fOff Tryz.prog 295 1 = some (1, 12) := by kernel_rfl
theorem fo295_2 : fOff Tryz.prog 295 2 = some (2, 257) := by kernel_rfl
theorem fo295_3 : fOff Tryz.prog 295 3 = some (3, 289) := by kernel_rfl
theorem fo295_4 : fOff Tryz.prog 295 4 = some (4, 5) := by kernel_rfl
theorem fo295_5 : fOff Tryz.prog 295 5 = some (5, 5) := by kernel_rfl
theorem fo295_6 : fOff Tryz.prog 295 6 = some (6, 290) := by kernel_rfl
theorem fo295_7 : fOff Tryz.prog 295 7 = some (7, 291) := by kernel_rfl
theorem fo295_8 : fOff Tryz.prog 295 8 = some (8, 292) := by kernel_rfl
theorem fo295_9 : fOff Tryz.prog 295 9 = some (9, 293) := by kernel_rfl
theorem fo295_10 : fOff Tryz.prog 295 10 = some (10, 294) := by kernel_rfl
theorem tsz296 : tsize Tryz.prog 296 = some 11 := by kernel_rfl
theorem tag296 : tagg Tryz.prog 296 = some true := by kernel_rfl
theorem tz296 : tzero Tryz.prog 296 = some [.int .u64 0, .int .u64 0, .int .u32 0, .int .u8 0, .int .u8 0, .int .u8 0, .int .u8 0, .nilf, .nilp, .int .i32 0, .int .i32 0] := by kernel_rfl
theorem bld296 (parts : List (Nat × V)) : buildV Tryz.prog 296 parts = (fillK [(0, 1), (1, 1), (2, 1), (3, 1), (4, 1), (5, 1), (6, 1), (7, 1), (8, 1), (9, 1), (10, 1)] [.int .u64 0, .int .u64 0, .int .u32 0, .int .u8 0, .int .u8 0, .int .u8 0, .int .u8 0, .nilf, .nilp, .int .i32 0, .int .i32 0] parts).map .agg := build_struct (by kernel_rfl) (by kernel_rfl) parts
theorem fo296_0 : fOff Tryz.prog 296 0 = some (0, 12) := by kernel_rfl
theorem fo296_1 : fOff Tryz.prog 296 1 = some (1, 12) := by kernel_rfl
theorem fo296_2 : fOff Tryz.prog 296 2 = some (2, 257) := by kernel_rfl
theorem fo296_3 : fOff Tryz.prog 296 3 = some (3, 289) := by kernel_rfl
theorem fo296_4 : fOff Tryz.prog 296 4 = some (4, 5) := by kernel_rfl
theorem fo296_5 : fOff Tryz.prog 296 5 = some (5, 5) := by kernel_rfl
theorem fo296_6 : fOff Tryz.prog 296 6 = some (6, 290) := by kernel_rfl
theorem fo296_7 : fOff Tryz.prog 296 7 = some (7, 291) := by kernel_rfl
theorem fo296_8 : fOff Tryz.prog 296 8 = some (8, 292) := by kernel_rfl
theorem fo296_9 : fOff Tryz.prog 296 9 = some (9, 293) := by kernel_rfl
theorem fo296_10 : fOff Tryz.prog 296 10 = some (10, 294) := by kernel_rfl
theorem tsz297 : tsize Tryz.prog 297 = some 1 := by kernel_rfl
theorem tag297 : tagg Tryz.prog 297 = some false := by kernel_rfl
theorem tz297 : tzero Tryz.prog 297 = some [.nilp] := by kernel_rfl
theorem cal2 : callee Tryz.prog 2 = true := by kernel_rfl
theorem cal3 : callee Tryz.prog 3 = true := by kernel_rfl
theorem cal4 : callee Tryz.prog 4 = true := by kernel_rfl
theorem cal5 : callee Tryz.prog 5 = true := by kernel_rfl
theorem cal6 : callee Tryz.prog 6 = true := by kernel_rfl
theorem cal7 : callee Tryz.prog 7 = true := by kernel_rfl
theorem cal8 : callee Tryz.prog 8 = true := by kernel_rfl
theorem cal9 : callee Tryz.prog 9 = true := by kernel_rfl
theorem cal10 : callee Tryz.prog 10 = true := by kernel_rfl
theorem cal11 : callee Tryz.prog 11 = true := by kernel_rfl
theorem cal12 : callee Tryz.prog 12 = true := by kernel_rfl
theorem cal13 : callee Tryz.prog 13 = true := by kernel_rfl
theorem cal14 : callee Tryz.prog 14 = true := by kernel_rfl
theorem cal15 : callee Tryz.prog 15 = true := by kernel_rfl
theorem cal16 : callee Tryz.prog 16 = true := by kernel_rfl
theorem cal17 : callee Tryz.prog 17 = true := by kernel_rfl
theorem cal18 : callee Tryz.prog 18 = true := by kernel_rfl
theorem cal19 : callee Tryz.prog 19 = true := by kernel_rfl
theorem cal20 : callee Tryz.prog 20 = true := by kernel_rfl
theorem cal21 : callee Tryz.prog 21 = true := by kernel_rfl
theorem cal22 : callee Tryz.prog 22 = true := by kernel_rfl
theorem cal23 : callee Tryz.prog 23 = true := by kernel_rfl
theorem cal24 : callee Tryz.prog 24 = true := by kernel_rfl
theorem cal25 : callee Tryz.prog 25 = true := by kernel_rfl
theorem cal26 : callee Tryz.prog 26 = true := by kernel_rfl
theorem cal27 : callee Tryz.prog 27 = true := by kernel_rfl
theorem cal28 : callee Tryz.prog 28 = true := by kernel_rfl
theorem cal29 : callee Tryz.prog 29 = true := by kernel_rfl
theorem cal30 : callee Tryz.prog 30 = true := by kernel_rfl
theorem cal31 : callee Tryz.prog 31 = true := by kernel_rfl
theorem cal32 : callee Tryz.prog 32 = true := by kernel_rfl
theorem cal33 : callee Tryz.prog 33 = true := by kernel_rfl
theorem cal34 : callee Tryz.prog 34 = true := by kernel_rfl
theorem cal35 : callee Tryz.prog 35 = true := by kernel_rfl
theorem cal36 : callee Tryz.prog 36 = true := by kernel_rfl
theorem cal37 : callee Tryz.prog 37 = true := by kernel_rfl
theorem cal38 : callee Tryz.prog 38 = true := by kernel_rfl
theorem cal39 : callee Tryz.prog 39 = true := by kernel_rfl
theorem cal40 : callee Tryz.prog 40 = true := by kernel_rfl
theorem cal41 : callee Tryz.prog 41 = true := by kernel_rfl
theorem cal42 : callee Tryz.prog 42 = true := by kernel_rfl
theorem cal43 : callee Tryz.prog 43 = true := by kernel_rfl
theorem cal44 : callee Tryz.prog 44 = true := by kernel_rfl
theorem cal45 : callee Tryz.prog 45 = true := by kernel_rfl
theorem cal46 : callee Tryz.prog 46 = true := by kernel_rfl
theorem cal47 : callee Tryz.prog 47 = true := by kernel_rfl
theorem cal48 : callee Tryz.prog 48 = true := by kernel_rfl
theorem cal49 : callee Tryz.prog 49 = true := by kernel_rfl
theorem cal50 : callee Tryz.prog 50 = true := by kernel_rfl
theorem cal51 : callee Tryz.prog 51 = true := by kernel_rfl
theorem cal52 : callee Tryz.prog 52 = true := by kernel_rfl
theorem cal53 : callee Tryz.prog 53 = true := by kernel_rfl
theorem cal54 : callee Tryz.prog 54 = true := by kernel_rfl
theorem cal55 : callee Tryz.prog 55 = true := by kernel_rfl
theorem cal56 : callee Tryz.prog 56 = true := by kernel_rfl
theorem cal57 : callee Tryz.prog 57 = true := by kernel_rfl
theorem cal58 : callee Tryz.prog 58 = true := by kernel_rfl
theorem cal59 : callee Tryz.prog 59 = true := by kernel_rfl
theorem cal60 : callee Tryz.prog 60 = true := by kernel_rfl
theorem cal61 : callee Tryz.prog 61 = true := by kernel_rfl
theorem cal62 : callee Tryz.prog 62 = true := by kernel_rfl
theorem cal63 : callee Tryz.prog 63 = true := by kernel_rfl
theorem cal64 : callee Tryz.prog 64 = true := by kernel_rfl
theorem cal65 : callee Tryz.prog 65 = true := by kernel_rfl
theorem cal66 : callee Tryz.prog 66 = true := by kernel_rfl
theorem cal67 : callee Tryz.prog 67 = true := by kernel_rfl
theorem cal68 : callee Tryz.prog 68 = true := by kernel_rfl
theorem cal69 : callee Tryz.prog 69 = true := by kernel_rfl
theorem cal70 : callee Tryz.prog 70 = true := by kernel_rfl
theorem cal71 : callee Tryz.prog 71 = true := by kernel_rfl
theorem cal72 : callee Tryz.prog 72 = true := by kernel_rfl
theorem cal73 : callee Tryz.prog 73 = true := by kernel_rfl
theorem cal74 : callee Tryz.prog 74 = true := by kernel_rfl
theorem cal75 : callee Tryz.prog 75 = true := by kernel_rfl
theorem cal76 : callee Tryz.prog 76 = true := by kernel_rfl
theorem cal77 : callee Tryz.prog 77 = true := by kernel_rfl
theorem cal78 : callee Tryz.prog 78 = true := by kernel_rfl
theorem cal79 : callee Tryz.prog 79 = true := by kernel_rfl
theorem cal80 : callee Tryz.prog 80 = true := by kernel_rfl
theorem cal81 : callee Tryz.prog 81 = true := by kernel_rfl
theorem cal82 : callee Tryz.prog 82 = true := by kernel_rfl
theorem cal83 : callee Tryz.prog 83 = true := by kernel_rfl
theorem cal84 : callee Tryz.prog 84 = true := by kernel_rfl
theorem cal85 : callee Tryz.prog 85 = true := by kernel_rfl
theorem cal86 : callee Tryz.prog 86 = true := by kernel_rfl
theorem cal87 : callee Tryz.prog 87 = true := by kernel_rfl
theorem cal88 : callee Tryz.prog 88 = true := by kernel_rfl
theorem cal89 : callee Tryz.prog 89 = true := by kernel_rfl
theorem cal90 : callee Tryz.prog 90 = true := by kernel_rfl
theorem cal91 : callee Tryz.prog 91 = true := by kernel_rfl
theorem cal92 : callee Tryz.prog 92 = true := by kernel_rfl
theorem cal93 : callee Tryz.prog 93 = true := by kernel_rfl
theorem cal94 : callee Tryz.prog 94 = true := by kernel_rfl
theorem cal95 : callee Tryz.prog 95 = true := by kernel_rfl
theorem cal96 : callee Tryz.prog 96 = true := by kernel_rfl
theorem cal97 : callee Tryz.prog 97 = true := by kernel_rfl
theorem cal98 : callee Tryz.prog 98 = true := by kernel_rfl
theorem cal99 : callee Tryz.prog 99 = true := by kernel_rfl
theorem cal100 : callee Tryz.prog 100 = true := by kernel_rfl
theorem cal101 : callee Tryz.prog 101 = true := by kernel_rfl
theorem cal102 : callee Tryz.prog 102 = true := by kernel_rfl
theorem cal103 : callee Tryz.prog 103 = true := by kernel_rfl
theorem cal104 : callee Tryz.prog 104 = true := by kernel_rfl
theorem cal105 : callee Tryz.prog 105 = true := by kernel_rfl
theorem cal106 : callee Tryz.prog 106 = true := by kernel_rfl
theorem cal107 : callee Tryz.prog 107 = true := by kernel_rfl
theorem cal108 : callee Tryz.prog 108 = true := by kernel_rfl
theorem cal109 : callee Tryz.prog 109 = true := by kernel_rfl
theorem cal110 : callee Tryz.prog 110 = true := by kernel_rfl
theorem cal111 : callee Tryz.prog 111 = true := by kernel_rfl
theorem cal112 : callee Tryz.prog 112 = true := by kernel_rfl
theorem cal113 : callee Tryz.prog 113 = true := by kernel_rfl
theorem cal114 : callee Tryz.prog 114 = true := by kernel_rfl
theorem cal115 : callee Tryz.prog 115 = true := by kernel_rfl
theorem cal116 : callee Tryz.prog 116 = true := by kernel_rfl
theorem cal117 : callee Tryz.prog 117 = true := by kernel_rfl
theorem cal118 : callee Tryz.prog 118 = true := by kernel_rfl
theorem cal119 : callee Tryz.prog 119 = true := by kernel_rfl
theorem cal120 : callee Tryz.prog 120 = true := by kernel_rfl
theorem cal121 : callee Tryz.prog 121 = true := by kernel_rfl
theorem cal122 : callee Tryz.prog 122 = true := by kernel_rfl
theorem cal123 : callee Tryz.prog 123 = true := by kernel_rfl
theorem cal124 : callee Tryz.prog 124 = true := by kernel_rfl
theorem cal125 : callee Tryz.prog 125 = true := by kernel_rfl
theorem cal126 : callee Tryz.prog 126 = true := by kernel_rfl
theorem cal127 : callee Tryz.prog 127 = true := by kernel_rfl
theorem cal128 : callee Tryz.prog 128 = true := by kernel_rfl
theorem cal129 : callee Tryz.prog 129 = true := by kernel_rfl
theorem cal130 : callee Tryz.prog 130 = true := by kernel_rfl
theorem cal131 : callee Tryz.prog 131 = true := by kernel_rfl
theorem cal132 : callee Tryz.prog 132 = true := by kernel_rfl
theorem cal133 : callee Tryz.prog 133 = true := by kernel_rfl
theorem cal134 : callee Tryz.prog 134 = true := by kernel_rfl
theorem cal135 : callee Tryz.prog 135 = true := by kernel_rfl
theorem cal136 : callee Tryz.prog 136 = true := by kernel_rfl
theorem cal137 : callee Tryz.prog 137 = true := by kernel_rfl
theorem cal138 : callee Tryz.prog 138 = true := by kernel_rfl
theorem cal139 : callee Tryz.prog 139 = true := by kernel_rfl
theorem cal140 : callee Tryz.prog 140 = true := by kernel_rfl
theorem cal141 : callee Tryz.prog 141 = true := by kernel_rfl
theorem cal142 : callee Tryz.prog 142 = true := by kernel_rfl
theorem cal143 : callee Tryz.prog 143 = true := by kernel_rfl
theorem cal144 : callee Tryz.prog 144 = true := by kernel_rfl
theorem cal145 : callee Tryz.prog 145 = true := by kernel_rfl
theorem cal146 : callee Tryz.prog 146 = true := by kernel_rfl
theorem cal147 : callee Tryz.prog 147 = true := by kernel_rfl
theorem cal148 : callee Tryz.prog 148 = true := by kernel_rfl
theorem cal149 : callee Tryz.prog 149 = true := by kernel_rfl
theorem cal150 : callee Tryz.prog 150 = true := by kernel_rfl
theorem cal151 : callee Tryz.prog 151 = true := by kernel_rfl
theorem cal152 : callee Tryz.prog 152 = true := by kernel_rfl
theorem cal153 : callee Tryz.prog 153 = true := by kernel_rfl
theorem cal154 : callee Tryz.prog 154 = true := by kernel_rfl
theorem cal155 : callee Tryz.prog 155 = true := by kernel_rfl
theorem cal156 : callee Tryz.prog 156 = true := by kernel_rfl
theorem cal157 : callee Tryz.prog 157 = true := by kernel_rfl
theorem cal158 : callee Tryz.prog 158 = true := by kernel_rfl
theorem cal159 : callee Tryz.prog 159 = true := by kernel_rfl
theorem cal160 : callee Tryz.prog 160 = true := by kernel_rfl
theorem cal161 : callee Tryz.prog 161 = true := by kernel_rfl
theorem cal162 : callee Tryz.prog 162 = true := by kernel_rfl
theorem cal163 : callee Tryz.prog 163 = true := by kernel_rfl
theorem cal164 : callee Tryz.prog 164 = true := by kernel_rfl
theorem cal165 : callee Tryz.prog 165 = true := by kernel_rfl
theorem cal166 : callee Tryz.prog 166 = true := by kernel_rfl
theorem cal167 : callee Tryz.prog 167 = true := by kernel_rfl
theorem cal168 : callee Tryz.prog 168 = true := by kernel_rfl
theorem cal169 : callee Tryz.prog 169 = true := by kernel_rfl
theorem cal170 : callee Tryz.prog 170 = true := by kernel_rfl
theorem cal171 : callee Tryz.prog 171 = true := by kernel_rfl
theorem cal172 : callee Tryz.prog 172 = true := by kernel_rfl
theorem cal173 : callee Tryz.prog 173 = true := by kernel_rfl
theorem cal174 : callee Tryz.prog 174 = true := by kernel_rfl
theorem cal175 : callee Tryz.prog 175 = true := by kernel_rfl
theorem cal176 : callee Tryz.prog 176 = true := by kernel_rfl
theorem cal177 : callee Tryz.prog 177 = true := by kernel_rfl
theorem cal178 : callee Tryz.prog 178 = true := by kernel_rfl
theorem cal179 : callee Tryz.prog 179 = true := by kernel_rfl
theorem cal180 : callee Tryz.prog 180 = true := by kernel_rfl
theorem cal181 : callee Tryz.prog 181 = true := by kernel_rfl
theorem cal182 : callee Tryz.prog 182 = true := by kernel_rfl
theorem cal183 : callee Tryz.prog 183 = true := by kernel_rfl
theorem cal184 : callee Tryz.prog 184 = true := by kernel_rfl
theorem cal185 : callee Tryz.prog 185 = true := by kernel_rfl
theorem cal186 : callee Tryz.prog 186 = true := by kernel_rfl
theorem cal187 : callee Tryz.prog 187 = true := by kernel_rfl
theorem cal188 : callee Tryz.prog 188 = true := by kernel_rfl
theorem cal189 : callee Tryz.prog 189 = true := by kernel_rfl
theorem cal190 : callee Tryz.prog 190 = true := by kernel_rfl
theorem cal191 : callee Tryz.prog 191 = true := by kernel_rfl
theorem cal192 : callee Tryz.prog 192 = true := by kernel_rfl
theorem cal193 : callee Tryz.prog 193 = true := by kernel_rfl
theorem cal194 : callee Tryz.prog 194 = true := by kernel_rfl
theorem cal195 : callee Tryz.prog 195 = true := by kernel_rfl
theorem cal196 : callee Tryz.prog 196 = true := by kernel_rfl
theorem cal197 : callee Tryz.prog 197 = true := by kernel_rfl
theorem cal198 : callee Tryz.prog 198 = true := by kernel_rfl
theorem cal199 : callee Tryz.prog 199 = true := by kernel_rfl
theorem cal200 : callee Tryz.prog 200 = true := by kernel_rfl
theorem cal201 : callee Tryz.prog 201 = true := by kernel_rfl
theorem cal202 : callee Tryz.prog 202 = true := by kernel_rfl
theorem cal203 : callee Tryz.prog 203 = true := by kernel_rfl
theorem cal204 : callee Tryz.prog 204 = true := by kernel_rfl
theorem cal205 : callee Tryz.prog 205 = true := by kernel_rfl
theorem cal206 : callee Tryz.prog 206 = true := by kernel_rfl
theorem cal207 : callee Tryz.prog 207 = true := by kernel_rfl
theorem cal208 : callee Tryz.prog 208 = true := by kernel_rfl
theorem cal209 : callee Tryz.prog 209 = true := by kernel_rfl
theorem cal210 : callee Tryz.prog 210 = true := by kernel_rfl
theorem cal211 : callee Tryz.prog 211 = true := by kernel_rfl
theorem cal212 : callee Tryz.prog 212 = true := by kernel_rfl
theorem cal213 : callee Tryz.prog 213 = true := by kernel_rfl
theorem cal214 : callee Tryz.prog 214 = true := by kernel_rfl
theorem cal215 : callee Tryz.prog 215 = true := by kernel_rfl
theorem cal216 : callee Tryz.prog 216 = true := by kernel_rfl
theorem cal217 : callee Tryz.prog 217 = true := by kernel_rfl
theorem cal218 : callee Tryz.prog 218 = true := by kernel_rfl
theorem cal219 : callee Tryz.prog 219 = true := by kernel_rfl
theorem cal220 : callee Tryz.prog 220 = true := by kernel_rfl
theorem cal221 : callee Tryz.prog 221 = true := by kernel_rfl
theorem cal222 : callee Tryz.prog 222 = true := by kernel_rfl
theorem cal223 : callee Tryz.prog 223 = true := by kernel_rfl
theorem cal224 : callee Tryz.prog 224 = true := by kernel_rfl
theorem cal225 : callee Tryz.prog 225 = true := by kernel_rfl
theorem cal226 : callee Tryz.prog 226 = true := by kernel_rfl
theorem cal227 : callee Tryz.prog 227 = true := by kernel_rfl
theorem cal228 : callee Tryz.prog 228 = true := by kernel_rfl
attribute [simp] tsz0 tag0 tsz1 tag1 tz1 tsz2 tag2 tz2 und2 tsz3 tag3 tz3 und3 tsz4 tag4 tz4 und4 bo4 tsz5 tag5 tz5 und5 tsz6 tag6 tz6 und6 tsz7 tag7 tz7 bld7 eqi7 fo7_0 fo7_1 fo7_2 fo7_3 tsz8 tag8 tz8 bld8 eqi8 fo8_0 fo8_1 fo8_2 fo8_3 tsz9 tag9 tz9 str9 und9 tsz10 tag10 tz10 str10 und10 tsz11 tag11 tz11 str11 und11 tsz12 tag12 tz12 und12 tsz13 tag13 tz13 bld13 fo13_0 fo13_1 tsz14 tag14 tz14 bld14 fo14_0 fo14_1 tsz15 tag15 tz15 pt15 und15 tsz16 tag16 tz16 pt16 und16 tsz17 tag17 tz17 pt17 und17 tsz18 tag18 tz18 bld18 fo18_0 tsz19 tag19 tz19 bld19 fo19_0 tsz20 tag20 tsz21 tag21 tz21 und21 tsz22 tag22 tz22 tel22 isl22 app22 apn22 apz22 bsa22 tsz23 tag23 tz23 bld23 fo23_0 tsz24 tag24 tz24 bld24 fo24_0 tsz25 tag25 tz25 tel25 isl25 app25 apn25 apz25 bs25 tsz26 tag26 tz26 und26 tsz27 tag27 tz27 tsz28 tag28 tz28 tsz29 tag29 tz29 tsz30 tag30 tz30 und30 tsz31 tag31 tz31 bld31 eqi31 fo31_0 fo31_1 tsz32 tag32 tz32 bld32 eqi32 fo32_0 fo32_1 tsz33 tag33 tz33 tsz34 tag34 tz34 tsz35 tag35 tz35 bld35 fo35_0 fo35_1 fo35_2 fo35_3 fo35_4 fo35_5 tsz36 tag36 tz36 bld36 fo36_0 fo36_1 fo36_2 fo36_3 fo36_4 fo36_5 tsz37 tag37 tz37 tsz38 tag38 tz38 tsz39 tag39 tz39 tsz40 tag40 tz40 tsz41 tag41 tz41 tel41 isl41 app41 apn41 apz41 bs41 tsz42 tag42 tz42 tel42 isl42 app42 apn42 apz42 bs42 tsz43 tag43 tz43 bld43 fo43_0 fo43_1 fo43_2 fo43_3 fo43_4 tsz44 tag44 tz44 bld44 fo44_0 fo44_1 fo44_2 fo44_3 fo44_4 tsz45 tag45 tsz46 tag46 tz46 tsz47 tag47 tz47 pt47 und47 tsz48 tag48 tz48 tsz49 tag49 tz49 tel49 isl49 app49 apn49 apz49 bs49 tsz50 tag50 tz50 tsz51 tag51 tz51 tsz52 tag52 tz52 tel52 isl52 app52 apn52 apz52 bsa52 tsz53 tag53 tz53 tsz54 tag54 tz54 tsz55 tag55 tz55 tsz56 tag56 tz56 tsz57 tag57 tz57 tsz58 tag58 tz58 tel58 isl58 app58 apn58 apz58 bsa58 tsz59 tag59 tz59 tsz60 tag60 tz60 tsz61 tag61 tz61 tsz62 tag62 tz62 tsz63 tag63 tz63 tel63 isl63 app63 apn63 apz63 bsa63 tsz64 tag64 tz64 tel64 isl64 app64 apn64 apz64 bsa64 tsz65 tag65 tz65 bld65 fo65_0 fo65_1 fo65_2 fo65_3 tsz66 tag66 tz66 bld66 fo66_0 fo66_1 fo66_2 fo66_3 tsz67 tag67 tz67 tsz68 tag68 tz68 tel68 isl68 app68 apn68 apz68 bsa68 tsz69 tag69 tz69 bld69 fo69_0 fo69_1 fo69_2 fo69_3 fo69_4 tsz70 tag70 tz70 bld70 fo70_0 fo70_1 fo70_2 fo70_3 fo70_4 tsz71 tag71 tz71 bld71 fo71_0 fo71_1 fo71_2 fo71_3 fo71_4 fo71_5 fo71_6 fo71_7 tsz72 tag72 tz72 bld72 fo72_0 fo72_1 fo72_2 fo72_3 fo72_4 fo72_5 fo72_6 fo72_7 tsz73 tag73 tz73 tsz74 tag74 tz74 tsz75 tag75 tz75 bld75 eqi75 fo75_0 fo75_1 fo75_2 tsz76 tag76 tz76 bld76 eqi76 fo76_0 fo76_1 fo76_2 tsz77 tag77 tz77 tsz78 tag78 tz78 tsz79 tag79 tz79 tsz80 tag80 tz80 tsz81 tag81 tz81 tel81 isl81 app81 apn81 apz81 bsa81 tsz82 tag82 tz82 tsz83 tag83 tz83 tsz84 tag84 tz84 tsz85 tag85 tz85 tsz86 tag86 tz86 tsz87 tag87 tz87 bld87 fo87_0 fo87_1 fo87_2 fo87_3 tsz88 tag88 tz88 bld88 fo88_0 fo88_1 fo88_2 fo88_3 tsz89 tag89 tz89 tsz90 tag90 tz90 tsz91 tag91 tz91 tsz92 tag92 tz92 tsz93 tag93 tsz94 tag94 tz94 tsz95 tag95 tz95 tel95 isl95 app95 apn95 apz95 bs95 tsz96 tag96 tz96 tsz97 tag97 tz97 tsz98 tag98 tz98 tsz99 tag99 tz99 tsz100 tag100 tz100 tsz101 tag101 tz101 tsz102 tag102 tz102 pt102 und102 tsz103 tag103 tz103 tsz104 tag104 tz104 tsz105 tag105 tz105 tsz106 tag106 tz106 bld106 fo106_0 fo106_1 fo106_2 fo106_3 tsz107 tag107 tz107 bld107 fo107_0 fo107_1 fo107_2 fo107_3 tsz108 tag108 tz108 tsz109 tag109 tz109 tsz110 tag110 tz110 tsz111 tag111 tz111 tel111 isl111 app111 apn111 apz111 bs111 tsz112 tag112 tz112 tsz113 tag113 tz113 tsz114 tag114 tsz115 tag115 tz115 tsz116 tag116 tsz117 tag117 tz117 tsz118 tag118 tsz119 tag119 tz119 tsz120 tag120 tz120 tsz121 tag121 tz121 tsz122 tag122 tz122 tsz123 tag123 tz123 tel123 isl123 app123 apn123 apz123 bsa123 tsz124 tag124 tz124 tsz125 tag125 tsz126 tag126 tz126 tsz127 tag127 tz127 tsz128 tag128 tz128 tsz129 tag129 tz129 tsz130 tag130 tz130 bld130 fo130_0 fo130_1 tsz131 tag131 tz131 bld131 fo131_0 fo131_1 tsz132 tag132 tz132 tsz133 tag133 tz133 tsz134 tag134 tz134 tel134 isl134 app134 apn134 apz134 bsa134 tsz135 tag135 tz135 tsz136 tag136 tz136 bld136 eqi136 fo136_0 fo136_1 tsz137 tag137 tz137 bld137 eqi137 fo137_0 fo137_1 tsz138 tag138 tz138 tsz139 tag139 tsz140 tag140 tz140 tsz141 tag141 tz141 tsz142 tag142 tz142 tsz143 tag143 tz143 tel143 isl143 app143 apn143 apz143 bsa143 tsz144 tag144 tsz145 tag145 tz145 tsz146 tag146 tz146 pt146 und146 tsz147 tag147 tz147 bld147 fo147_0 fo147_1 fo147_2 fo147_3 fo147_4 tsz148 tag148 tz148 bld148 fo148_0 fo148_1 fo148_2 fo148_3 fo148_4 tsz149 tag149 tz149 tsz150 tag150 tz150 pt150 und150 tsz151 tag151 tz151 tsz152 tag152 tz152 bld152 fo152_0 fo152_1 fo152_2 tsz153 tag153 tz153 bld153 fo153_0 fo153_1 fo153_2 tsz154 tag154 tz154 tsz155 tag155 tz155 tsz156 tag156 tz156 tsz157 tag157 tz157 tsz158 tag158 tz158 tsz159 tag159 tz159 tsz160 tag160 tz160 tsz161 tag161 tz161 tsz162 tag162 tz162 tsz163 tag163 tz163 tel163 isl163 app163 apn163 apz163 bsa163 tsz164 tag164 tz164 bld164 fo164_0 fo164_1 fo164_2 tsz165 tag165 tz165 bld165 fo165_0 fo165_1 fo165_2 tsz166 tag166 tz166 tsz167 tag167 tz167 tsz168 tag168 tz168 tsz169 tag169 tz169 bld169 fo169_0 fo169_1 fo169_2 tsz170 tag170 tz170 bld170 fo170_0 fo170_1 fo170_2 tsz171 tag171 tz171 tsz172 tag172 tz172 tsz173 tag173 tz173 tsz174 tag174 tz174 pt174 und174 tsz175 tag175 tz175 bld175 fo175_0 fo175_1 fo175_2 tsz176 tag176 tz176 bld176 fo176_0 fo176_1 fo176_2 tsz177 tag177 tz177 tsz178 tag178 tz178 tsz179 tag179 tz179 und179 tsz180 tag180 tz180 tel180 isl180 app180 apn180 apz180 bsa180 tsz181 tag181 tz181 tsz182 tag182 tz182 bld182 eqi182 fo182_0 fo182_1 fo182_2 tsz183 tag183 tz183 bld183 eqi183 fo183_0 fo183_1 fo183_2 tsz184 tag184 tz184 tsz185 tag185 tz185 tsz186 tag186 tz186 tsz187 tag187 tz187 tsz188 tag188 tsz189 tag189 tz189 tsz190 tag190 tz190 tsz191 tag191 tz191 tsz192 tag192 tz192 bld192 eqi192 fo192_0 fo192_1 tsz193 tag193 tz193 bld193 eqi193 fo193_0 fo193_1 tsz194 tag194 tsz195 tag195 tz195 tsz196 tag196 tz196 tsz197 tag197 tz197 tsz198 tag198 tz198 tsz199 tag199 tz199 bld199 fo199_0 fo199_1 tsz200 tag200 tz200 bld200 fo200_0 fo200_1 tsz201 tag201 tz201 tsz202 tag202 tz202 tsz203 tag203 tz203 tsz204 tag204 tz204 tsz205 tag205 tz205 tsz206 tag206 tz206 bld206 fo206_0 fo206_1 tsz207 tag207 tz207 bld207 fo207_0 fo207_1 tsz208 tag208 tz208 tsz209 tag209 tz209 tsz210 tag210 tz210 tsz211 tag211 tz211 tsz212 tag212 tz212 tsz213 tag213 tz213 tsz214 tag214 tz214 tsz215 tag215 tz215 tsz216 tag216 tz216 tsz217 tag217 tz217 tsz218 tag218 tz218 bld218 eqi218 fo218_0 fo218_1 fo218_2 fo218_3 tsz219 tag219 tz219 bld219 eqi219 fo219_0 fo219_1 fo219_2 fo219_3 tsz220 tag220 tz220 tsz221 tag221 tz221 tsz222 tag222 tz222 tsz223 tag223 tz223 tsz224 tag224 tz224 tsz225 tag225 tz225 bld225 eqi225 fo225_0 fo225_1 tsz226 tag226 tz226 bld226 eqi226 fo226_0 fo226_1 tsz227 tag227 tz227 tsz228 tag228 tz228 tsz229 tag229 tz229 tsz230 tag230 tz230 tsz231 tag231 tz231 tsz232 tag232 tz232 tsz233 tag233 tz233 tsz234 tag234 tz234 tsz235 tag235 tz235 tsz236 tag236 tz236 tsz237 tag237 tsz238 tag238 tz238 tsz239 tag239 tz239 tsz240 tag240 tz240 tsz241 tag241 tz241 tsz242 tag242 tz242 tsz243 tag243 tz243 tsz244 tag244 tz244 tsz245 tag245 tz245 tsz246 tag246 tz246 tsz247 tag247 tz247 bld247 fo247_0 fo247_1 tsz248 tag248 tz248 bld248 fo248_0 fo248_1 tsz249 tag249 tz249 tsz250 tag250 tz250 und250 tsz251 tag251 tsz252 tag252 tz252 tsz253 tag253 tz253 tsz254 tag254 tz254 tsz255 tag255 tz255 tsz256 tag256 tz256 tsz257 tag257 tz257 und257 tsz258 tag258 tz258 tsz259 tag259 tz259 und259 tsz260 tag260 tz260 tsz261 tag261 tz261 tel261 isl261 app261 apn261 apz261 bs261 tsz262 tag262 tz262 tsz263 tag263 tz263 tsz264 tag264 tz264 tsz265 tag265 tz265 tsz266 tag266 tz266 und266 tsz267 tag267 tz267 tsz268 tag268 tz268 tsz269 tag269 tz269 tsz270 tag270 tz270 pt270 und270 tsz271 tag271 tz271 tsz272 tag272 tz272 tsz273 tag273 tz273 tsz274 tag274 tz274 tsz275 tag275 tz275 tsz276 tag276 tz276 pt276 und276 tsz277 tag277 tz277 tsz278 tag278 tsz279 tag279 tz279 tsz280 tag280 tsz281 tag281 tz281 tsz282 tag282 tz282 tel282 isl282 app282 apn282 apz282 bs282 tsz283 tag283 tz283 tsz284 tag284 tz284 bld284 fo284_0 fo284_1 fo284_2 fo284_3 tsz285 tag285 tz285 bld285 fo285_0 fo285_1 fo285_2 fo285_3 tsz286 tag286 tz286 tsz287 tag287 tz287 bld287 fo287_0 tsz288 tag288 tz288 bld288 fo288_0 tsz289 tag289 tz289 und289 tsz290 tag290 tz290 und290 tsz291 tag291 tz291 tsz292 tag292 tz292 pt292 und292 tsz293 tag293 tz293 und293 tsz294 tag294 tz294 und294 tsz295 tag295 tz295 bld295 fo295_0 fo295_1 fo295_2 fo295_3 fo295_4 fo295_5 fo295_6 fo295_7 fo295_8 fo295_9 fo295_10 tsz296 tag296 tz296 bld296 fo296_0 fo296_1 fo296_2 fo296_3 fo296_4 fo296_5 fo296_6 fo296_7 fo296_8 fo296_9 fo296_10 tsz297 tag297 tz297 cal2 cal3 cal4 cal5 cal6 cal7 cal8 cal9 cal10 cal11 cal12 cal13 cal14 cal15 cal16 cal17 cal18 cal19 cal20 cal21 cal22 cal23 cal24 cal25 cal26 cal27 cal28 cal29 cal30 cal31 cal32 cal33 cal34 cal35 cal36 cal37 cal38 cal39 cal40 cal41 cal42 cal43 cal44 cal45 cal46 cal47 cal48 cal49 cal50 cal51 cal52 cal53 cal54 cal55 cal56 cal57 cal58 cal59 cal60 cal61 cal62 cal63 cal64 cal65 cal66 cal67 cal68 cal69 cal70 cal71 cal72 cal73 cal74 cal75 cal76 cal77 cal78 cal79 cal80 cal81 cal82 cal83 cal84 cal85 cal86 cal87 cal88 cal89 cal90 cal91 cal92 cal93 cal94 cal95 cal96 cal97 cal98 cal99 cal100 cal101 cal102 cal103 cal104 cal105 cal106 cal107 cal108 cal109 cal110 cal111 cal112 cal113 cal114 cal115 cal116 cal117 cal118 cal119 cal120 cal121 cal122 cal123 cal124 cal125 cal126 cal127 cal128 cal129 cal130 cal131 cal132 cal133 cal134 cal135 cal136 cal137 cal138 cal139 cal140 cal141 cal142 cal143 cal144 cal145 cal146 cal147 cal148 cal149 cal150 cal151 cal152 cal153 cal154 cal155 cal156 cal157 cal158 cal159 cal160 cal161 cal162 cal163 cal164 cal165 cal166 cal167 cal168 cal169 cal170 cal171 cal172 cal173 cal174 cal175 cal176 cal177 cal178 cal179 cal180 cal181 cal182 cal183 cal184 cal185 cal186 cal187 cal188 cal189 cal190 cal191 cal192 cal193 cal194 cal195 cal196 cal197 cal198 cal199 cal200 cal201 cal202 cal203 cal204 cal205 cal206 cal207 cal208 cal209 cal210 cal211 cal212 cal213 cal214 cal215 cal216 cal217 cal218 cal219 cal220 cal221 cal222 cal223 cal224 cal225 cal226 cal227 cal228
end Go.Proofs.YtdkknhpdjcdmfaaGreat.Abs
