/- Facts of the program's types and functions. Printed by ty.py. -/
import Derived.Test.YtkbdhjfjbkmkcaaGreatJT35
import Derived.Test.YtkbdhjfjbkmkcaaGreatProg
namespace Go.Proofs.YtkbdhjfjbkmkcaaGreat.Abs
open Go Go.Proofs

theorem tsz0 : tsize Tryz.prog 0 = some 1 := by kernel_rfl
theorem tag0 : tagg Tryz.prog 0 = some false := by kernel_rfl
theorem tsz1 : tsize Tryz.prog 1 = some 1 := by kernel_rfl
theorem tag1 : tagg Tryz.prog 1 = some false := by kernel_rfl
theorem tz1 : tzero Tryz.prog 1 = some [.nilf] := by kernel_rfl
theorem tsz2 : tsize Tryz.prog 2 = some 1 := by kernel_rfl
theorem tag2 : tagg Tryz.prog 2 = some false := by kernel_rfl
theorem tz2 : tzero Tryz.prog 2 = some [.int .i64 0] := by kernel_rfl
theorem und2 : Tryz.prog.underlying 2 = some (.int .i64) := by kernel_rfl
theorem tsz3 : tsize Tryz.prog 3 = some 1 := by kernel_rfl
theorem tag3 : tagg Tryz.prog 3 = some false := by kernel_rfl
theorem tz3 : tzero Tryz.prog 3 = some [.int .i64 0] := by kernel_rfl
theorem und3 : Tryz.prog.underlying 3 = some (.int .i64) := by kernel_rfl
theorem tsz4 : tsize Tryz.prog 4 = some 1 := by kernel_rfl
theorem tag4 : tagg Tryz.prog 4 = some false := by kernel_rfl
theorem tz4 : tzero Tryz.prog 4 = some [.bool false] := by kernel_rfl
theorem und4 : Tryz.prog.underlying 4 = some .bool := by kernel_rfl
theorem bo4 : isBo Tryz.prog 4 = true := by kernel_rfl
theorem tsz5 : tsize Tryz.prog 5 = some 1 := by kernel_rfl
theorem tag5 : tagg Tryz.prog 5 = some false := by kernel_rfl
theorem tz5 : tzero Tryz.prog 5 = some [.int .u8 0] := by kernel_rfl
theorem und5 : Tryz.prog.underlying 5 = some (.int .u8) := by kernel_rfl
theorem tsz6 : tsize Tryz.prog 6 = some 1 := by kernel_rfl
theorem tag6 : tagg Tryz.prog 6 = some false := by kernel_rfl
theorem tz6 : tzero Tryz.prog 6 = some [.int .u8 0] := by kernel_rfl
theorem und6 : Tryz.prog.underlying 6 = some (.int .u8) := by kernel_rfl
theorem tsz7 : tsize Tryz.prog 7 = some 4 := by kernel_rfl
theorem tag7 : tagg Tryz.prog 7 = some true := by kernel_rfl
theorem tz7 : tzero Tryz.prog 7 = some [.int .i64 0, .int .i64 0, .bool false, .int .u8 0] := by kernel_rfl
theorem bld7 (parts : List (Nat × V)) : buildV Tryz.prog 7 parts = (fillK [(0, 1), (1, 1), (2, 1), (3, 1)] [.int .i64 0, .int .i64 0, .bool false, .int .u8 0] parts).map .agg := build_struct (by kernel_rfl) (by kernel_rfl) parts
theorem eqi7 (xs ys : List Leaf) : eqV Tryz.prog 7 (.agg xs) (.agg ys) = eqInfo xs ys [(false, 0, 2), (false, 1, 2), (false, 2, 1), (false, 3, 2)] := eqV_info (by kernel_rfl) xs ys
theorem fo7_0 : fOff Tryz.prog 7 0 = some (0, 2) := by kernel_rfl
theorem fo7_1 : fOff Tryz.prog 7 1 = some (1, 3) := by kernel_rfl
theorem fo7_2 : fOff Tryz.prog 7 2 = some (2, 4) := by kernel_rfl
theorem fo7_3 : fOff Tryz.prog 7 3 = some (3, 6) := by kernel_rfl
theorem tsz8 : tsize Tryz.prog 8 = some 4 := by kernel_rfl
theorem tag8 : tagg Tryz.prog 8 = some true := by kernel_rfl
theorem tz8 : tzero Tryz.prog 8 = some [.int .i64 0, .int .i64 0, .bool false, .int .u8 0] := by kernel_rfl
theorem bld8 (parts : List (Nat × V)) : buildV Tryz.prog 8 parts = (fillK [(0, 1), (1, 1), (2, 1), (3, 1)] [.int .i64 0, .int .i64 0, .bool false, .int .u8 0] parts).map .agg := build_struct (by kernel_rfl) (by kernel_rfl) parts
theorem eqi8 (xs ys : List Leaf) : eqV Tryz.prog 8 (.agg xs) (.agg ys) = eqInfo xs ys [(false, 0, 2), (false, 1, 2), (false, 2, 1), (false, 3, 2)] := eqV_info (by kernel_rfl) xs ys
theorem fo8_0 : fOff Tryz.prog 8 0 = some (0, 2) := by kernel_rfl
theorem fo8_1 : fOff Tryz.prog 8 1 = some (1, 3) := by kernel_rfl
theorem fo8_2 : fOff Tryz.prog 8 2 = some (2, 4) := by kernel_rfl
theorem fo8_3 : fOff Tryz.prog 8 3 = some (3, 6) := by kernel_rfl
theorem tsz9 : tsize Tryz.prog 9 = some 1 := by kernel_rfl
theorem tag9 : tagg Tryz.prog 9 = some false := by kernel_rfl
theorem tz9 : tzero Tryz.prog 9 = some [.str []] := by kernel_rfl
theorem str9 : isStr Tryz.prog 9 = true := by kernel_rfl
theorem und9 : Tryz.prog.underlying 9 = some .string := by kernel_rfl
theorem tsz10 : tsize Tryz.prog 10 = some 1 := by kernel_rfl
theorem tag10 : tagg Tryz.prog 10 = some false := by kernel_rfl
theorem tz10 : tzero Tryz.prog 10 = some [.str []] := by kernel_rfl
theorem str10 : isStr Tryz.prog 10 = true := by kernel_rfl
theorem und10 : Tryz.prog.underlying 10 = some .string := by kernel_rfl
theorem tsz11 : tsize Tryz.prog 11 = some 1 := by kernel_rfl
theorem tag11 : tagg Tryz.prog 11 = some false := by kernel_rfl
theorem tz11 : tzero Tryz.prog 11 = some [.str []] := by kernel_rfl
theorem str11 : isStr Tryz.prog 11 = true := by kernel_rfl
theorem und11 : Tryz.prog.underlying 11 = some .string := by kernel_rfl
theorem tsz12 : tsize Tryz.prog 12 = some 1 := by kernel_rfl
theorem tag12 : tagg Tryz.prog 12 = some false := by kernel_rfl
theorem tz12 : tzero Tryz.prog 12 = some [.int .u64 0] := by kernel_rfl
theorem und12 : Tryz.prog.underlying 12 = some (.int .u64) := by kernel_rfl
theorem tsz13 : tsize Tryz.prog 13 = some 2 := by kernel_rfl
theorem tag13 : tagg Tryz.prog 13 = some true := by kernel_rfl
theorem tz13 : tzero Tryz.prog 13 = some [.str [], .int .u64 0] := by kernel_rfl
theorem bld13 (parts : List (Nat × V)) : buildV Tryz.prog 13 parts = (fillK [(0, 1), (1, 1)] [.str [], .int .u64 0] parts).map .agg := build_struct (by kernel_rfl) (by kernel_rfl) parts
theorem fo13_0 : fOff Tryz.prog 13 0 = some (0, 9) := by kernel_rfl
theorem fo13_1 : fOff Tryz.prog 13 1 = some (1, 12) := by kernel_rfl
theorem tsz14 : tsize Tryz.prog 14 = some 2 := by kernel_rfl
theorem tag14 : tagg Tryz.prog 14 = some true := by kernel_rfl
theorem tz14 : tzero Tryz.prog 14 = some [.str [], .int .u64 0] := by kernel_rfl
theorem bld14 (parts : List (Nat × V)) : buildV Tryz.prog 14 parts = (fillK [(0, 1), (1, 1)] [.str [], .int .u64 0] parts).map .agg := build_struct (by kernel_rfl) (by kernel_rfl) parts
theorem fo14_0 : fOff Tryz.prog 14 0 = some (0, 9) := by kernel_rfl
theorem fo14_1 : fOff Tryz.prog 14 1 = some (1, 12) := by kernel_rfl
theorem tsz15 : tsize Tryz.prog 15 = some 1 := by kernel_rfl
theorem tag15 : tagg Tryz.prog 15 = some false := by kernel_rfl
theorem tz15 : tzero Tryz.prog 15 = some [.nilp] := by kernel_rfl
theorem pt15 : isPt Tryz.prog 15 = true := by kernel_rfl
theorem und15 : Tryz.prog.underlying 15 = some (.pointer 191) := by kernel_rfl
theorem tsz16 : tsize Tryz.prog 16 = some 1 := by kernel_rfl
theorem tag16 : tagg Tryz.prog 16 = some false := by kernel_rfl
theorem tz16 : tzero Tryz.prog 16 = some [.nilp] := by kernel_rfl
theorem pt16 : isPt Tryz.prog 16 = true := by kernel_rfl
theorem und16 : Tryz.prog.underlying 16 = some (.pointer 194) := by kernel_rfl
theorem tsz17 : tsize Tryz.prog 17 = some 1 := by kernel_rfl
theorem tag17 : tagg Tryz.prog 17 = some false := by kernel_rfl
theorem tz17 : tzero Tryz.prog 17 = some [.nilp] := by kernel_rfl
theorem pt17 : isPt Tryz.prog 17 = true := by kernel_rfl
theorem und17 : Tryz.prog.underlying 17 = some (.pointer 202) := by kernel_rfl
theorem tsz18 : tsize Tryz.prog 18 = some 1 := by kernel_rfl
theorem tag18 : tagg Tryz.prog 18 = some true := by kernel_rfl
theorem tz18 : tzero Tryz.prog 18 = some [.nilp] := by kernel_rfl
theorem bld18 (parts : List (Nat × V)) : buildV Tryz.prog 18 parts = (fillK [(0, 1)] [.nilp] parts).map .agg := build_struct (by kernel_rfl) (by kernel_rfl) parts
theorem fo18_0 : fOff Tryz.prog 18 0 = some (0, 17) := by kernel_rfl
theorem tsz19 : tsize Tryz.prog 19 = some 1 := by kernel_rfl
theorem tag19 : tagg Tryz.prog 19 = some true := by kernel_rfl
theorem tz19 : tzero Tryz.prog 19 = some [.nilp] := by kernel_rfl
theorem bld19 (parts : List (Nat × V)) : buildV Tryz.prog 19 parts = (fillK [(0, 1)] [.nilp] parts).map .agg := build_struct (by kernel_rfl) (by kernel_rfl) parts
theorem fo19_0 : fOff Tryz.prog 19 0 = some (0, 17) := by kernel_rfl
theorem tsz20 : tsize Tryz.prog 20 = some 1 := by kernel_rfl
theorem tag20 : tagg Tryz.prog 20 = some false := by kernel_rfl
theorem tsz21 : tsize Tryz.prog 21 = some 1 := by kernel_rfl
theorem tag21 : tagg Tryz.prog 21 = some false := by kernel_rfl
theorem tz21 : tzero Tryz.prog 21 = some [.int .i32 0] := by kernel_rfl
theorem und21 : Tryz.prog.underlying 21 = some (.int .i32) := by kernel_rfl
theorem tsz22 : tsize Tryz.prog 22 = some 1 := by kernel_rfl
theorem tag22 : tagg Tryz.prog 22 = some false := by kernel_rfl
theorem tz22 : tzero Tryz.prog 22 = some [.nils] := by kernel_rfl
theorem tel22 : telem Tryz.prog 22 = some 36 := by kernel_rfl
theorem isl22 : isSl Tryz.prog 22 = true := by kernel_rfl
theorem E22 : ElemT Tryz.prog 22 5 80 [.str [], .nils, .int .i64 0, .nils, .int .i64 0] := .mk' (e := 36) (by kernel_rfl) (by kernel_rfl) (by kernel_rfl) rfl (by decide) (by decide)
theorem app22 {H : Heap} (x : V) (id sz : Nat) : appendV Tryz.prog none H 22 22 (.one (.sl id 5 sz 0 sz)) x = appK 5 80 H id sz (rowAt H id sz) (srcOf Tryz.prog H 5 22 x) := append_sl E22 x id sz
theorem apn22 {H : Heap} (x : V) : appendV Tryz.prog none H 22 22 (.one .nils) x = appN 5 80 H .nils (srcOf Tryz.prog H 5 22 x) := append_nils E22 x
theorem apz22 {H : Heap} (x : V) : appendV Tryz.prog none H 22 22 (.one .zsl) x = appN 5 80 H .zsl (srcOf Tryz.prog H 5 22 x) := append_zsl E22 x
theorem bsa22 {H : Heap} (x0 x1 x2 x3 x4 : Leaf) : buildSliceV Tryz.prog none H 22 1 [(0, .agg [x0, x1, x2, x3, x4])] = some (.one (.sl H.length 5 1 0 1), H ++ [some (.row 5 [[x0, x1, x2, x3, x4]])], []) := build_agg E22 rfl (by decide)
theorem tsz23 : tsize Tryz.prog 23 = some 1 := by kernel_rfl
theorem tag23 : tagg Tryz.prog 23 = some true := by kernel_rfl
theorem tz23 : tzero Tryz.prog 23 = some [.nils] := by kernel_rfl
theorem bld23 (parts : List (Nat × V)) : buildV Tryz.prog 23 parts = (fillK [(0, 1)] [.nils] parts).map .agg := build_struct (by kernel_rfl) (by kernel_rfl) parts
theorem fo23_0 : fOff Tryz.prog 23 0 = some (0, 22) := by kernel_rfl
theorem tsz24 : tsize Tryz.prog 24 = some 1 := by kernel_rfl
theorem tag24 : tagg Tryz.prog 24 = some true := by kernel_rfl
theorem tz24 : tzero Tryz.prog 24 = some [.nils] := by kernel_rfl
theorem bld24 (parts : List (Nat × V)) : buildV Tryz.prog 24 parts = (fillK [(0, 1)] [.nils] parts).map .agg := build_struct (by kernel_rfl) (by kernel_rfl) parts
theorem fo24_0 : fOff Tryz.prog 24 0 = some (0, 22) := by kernel_rfl
theorem tsz25 : tsize Tryz.prog 25 = some 1 := by kernel_rfl
theorem tag25 : tagg Tryz.prog 25 = some false := by kernel_rfl
theorem tz25 : tzero Tryz.prog 25 = some [.nilf] := by kernel_rfl
theorem tsz26 : tsize Tryz.prog 26 = some 1 := by kernel_rfl
theorem tag26 : tagg Tryz.prog 26 = some false := by kernel_rfl
theorem tz26 : tzero Tryz.prog 26 = some [.nilf] := by kernel_rfl
theorem tsz27 : tsize Tryz.prog 27 = some 1 := by kernel_rfl
theorem tag27 : tagg Tryz.prog 27 = some false := by kernel_rfl
theorem tz27 : tzero Tryz.prog 27 = some [.int .i64 0] := by kernel_rfl
theorem und27 : Tryz.prog.underlying 27 = some (.int .i64) := by kernel_rfl
theorem tsz28 : tsize Tryz.prog 28 = some 2 := by kernel_rfl
theorem tag28 : tagg Tryz.prog 28 = some true := by kernel_rfl
theorem tz28 : tzero Tryz.prog 28 = some [.int .i64 0, .int .i64 0] := by kernel_rfl
theorem bld28 (parts : List (Nat × V)) : buildV Tryz.prog 28 parts = (fillK [(0, 1), (1, 1)] [.int .i64 0, .int .i64 0] parts).map .agg := build_struct (by kernel_rfl) (by kernel_rfl) parts
theorem eqi28 (xs ys : List Leaf) : eqV Tryz.prog 28 (.agg xs) (.agg ys) = eqInfo xs ys [(false, 0, 2), (false, 1, 2)] := eqV_info (by kernel_rfl) xs ys
theorem fo28_0 : fOff Tryz.prog 28 0 = some (0, 27) := by kernel_rfl
theorem fo28_1 : fOff Tryz.prog 28 1 = some (1, 3) := by kernel_rfl
theorem tsz29 : tsize Tryz.prog 29 = some 2 := by kernel_rfl
theorem tag29 : tagg Tryz.prog 29 = some true := by kernel_rfl
theorem tz29 : tzero Tryz.prog 29 = some [.int .i64 0, .int .i64 0] := by kernel_rfl
theorem bld29 (parts : List (Nat × V)) : buildV Tryz.prog 29 parts = (fillK [(0, 1), (1, 1)] [.int .i64 0, .int .i64 0] parts).map .agg := build_struct (by kernel_rfl) (by kernel_rfl) parts
theorem eqi29 (xs ys : List Leaf) : eqV Tryz.prog 29 (.agg xs) (.agg ys) = eqInfo xs ys [(false, 0, 2), (false, 1, 2)] := eqV_info (by kernel_rfl) xs ys
theorem fo29_0 : fOff Tryz.prog 29 0 = some (0, 27) := by kernel_rfl
theorem fo29_1 : fOff Tryz.prog 29 1 = some (1, 3) := by kernel_rfl
theorem tsz30 : tsize Tryz.prog 30 = some 1 := by kernel_rfl
theorem tag30 : tagg Tryz.prog 30 = some false := by kernel_rfl
theorem tz30 : tzero Tryz.prog 30 = some [.nilf] := by kernel_rfl
theorem tsz31 : tsize Tryz.prog 31 = some 1 := by kernel_rfl
theorem tag31 : tagg Tryz.prog 31 = some false := by kernel_rfl
theorem tz31 : tzero Tryz.prog 31 = some [.nilf] := by kernel_rfl
theorem tsz32 : tsize Tryz.prog 32 = some 1 := by kernel_rfl
theorem tag32 : tagg Tryz.prog 32 = some false := by kernel_rfl
theorem tz32 : tzero Tryz.prog 32 = some [.nilf] := by kernel_rfl
theorem tsz33 : tsize Tryz.prog 33 = some 1 := by kernel_rfl
theorem tag33 : tagg Tryz.prog 33 = some false := by kernel_rfl
theorem tz33 : tzero Tryz.prog 33 = some [.nils] := by kernel_rfl
theorem tel33 : telem Tryz.prog 33 = some 3 := by kernel_rfl
theorem isl33 : isSl Tryz.prog 33 = true := by kernel_rfl
theorem E33 : ElemT Tryz.prog 33 1 8 [.int .i64 0] := .mk' (e := 3) (by kernel_rfl) (by kernel_rfl) (by kernel_rfl) rfl (by decide) (by decide)
theorem app33 {H : Heap} (x : V) (id sz : Nat) : appendV Tryz.prog none H 33 33 (.one (.sl id 1 sz 0 sz)) x = appK 1 8 H id sz (rowAt H id sz) (srcOf Tryz.prog H 1 33 x) := append_sl E33 x id sz
theorem apn33 {H : Heap} (x : V) : appendV Tryz.prog none H 33 33 (.one .nils) x = appN 1 8 H .nils (srcOf Tryz.prog H 1 33 x) := append_nils E33 x
theorem apz33 {H : Heap} (x : V) : appendV Tryz.prog none H 33 33 (.one .zsl) x = appN 1 8 H .zsl (srcOf Tryz.prog H 1 33 x) := append_zsl E33 x
theorem bs33 {H : Heap} (x : Leaf) : buildSliceV Tryz.prog none H 33 1 [(0, .one x)] = some (.one (.sl H.length 1 1 0 1), H ++ [some (.row 1 [[x]])], []) := build_one E33 x
theorem tsz34 : tsize Tryz.prog 34 = some 1 := by kernel_rfl
theorem tag34 : tagg Tryz.prog 34 = some false := by kernel_rfl
theorem tz34 : tzero Tryz.prog 34 = some [.nils] := by kernel_rfl
theorem tel34 : telem Tryz.prog 34 = some 45 := by kernel_rfl
theorem isl34 : isSl Tryz.prog 34 = true := by kernel_rfl
theorem E34 : ElemT Tryz.prog 34 1 24 [.nils] := .mk' (e := 45) (by kernel_rfl) (by kernel_rfl) (by kernel_rfl) rfl (by decide) (by decide)
theorem app34 {H : Heap} (x : V) (id sz : Nat) : appendV Tryz.prog none H 34 34 (.one (.sl id 1 sz 0 sz)) x = appK 1 24 H id sz (rowAt H id sz) (srcOf Tryz.prog H 1 34 x) := append_sl E34 x id sz
theorem apn34 {H : Heap} (x : V) : appendV Tryz.prog none H 34 34 (.one .nils) x = appN 1 24 H .nils (srcOf Tryz.prog H 1 34 x) := append_nils E34 x
theorem apz34 {H : Heap} (x : V) : appendV Tryz.prog none H 34 34 (.one .zsl) x = appN 1 24 H .zsl (srcOf Tryz.prog H 1 34 x) := append_zsl E34 x
theorem bs34 {H : Heap} (x : Leaf) : buildSliceV Tryz.prog none H 34 1 [(0, .one x)] = some (.one (.sl H.length 1 1 0 1), H ++ [some (.row 1 [[x]])], []) := build_one E34 x
theorem tsz35 : tsize Tryz.prog 35 = some 5 := by kernel_rfl
theorem tag35 : tagg Tryz.prog 35 = some true := by kernel_rfl
theorem tz35 : tzero Tryz.prog 35 = some [.str [], .nils, .int .i64 0, .nils, .int .i64 0] := by kernel_rfl
theorem bld35 (parts : List (Nat × V)) : buildV Tryz.prog 35 parts = (fillK [(0, 1), (1, 1), (2, 1), (3, 1), (4, 1)] [.str [], .nils, .int .i64 0, .nils, .int .i64 0] parts).map .agg := build_struct (by kernel_rfl) (by kernel_rfl) parts
theorem fo35_0 : fOff Tryz.prog 35 0 = some (0, 9) := by kernel_rfl
theorem fo35_1 : fOff Tryz.prog 35 1 = some (1, 33) := by kernel_rfl
theorem fo35_2 : fOff Tryz.prog 35 2 = some (2, 3) := by kernel_rfl
theorem fo35_3 : fOff Tryz.prog 35 3 = some (3, 34) := by kernel_rfl
theorem fo35_4 : fOff Tryz.prog 35 4 = some (4, 3) := by kernel_rfl
theorem tsz36 : tsize Tryz.prog 36 = some 5 := by kernel_rfl
theorem tag36 : tagg Tryz.prog 36 = some true := by kernel_rfl
theorem tz36 : tzero Tryz.prog 36 = some [.str [], .nils, .int .i64 0, .nils, .int .i64 0] := by kernel_rfl
theorem bld36 (parts : List (Nat × V)) : buildV Tryz.prog 36 parts = (fillK [(0, 1), (1, 1), (2, 1), (3, 1), (4, 1)] [.str [], .nils, .int .i64 0, .nils, .int .i64 0] parts).map .agg := build_struct (by kernel_rfl) (by kernel_rfl) parts
theorem fo36_0 : fOff Tryz.prog 36 0 = some (0, 9) := by kernel_rfl
theorem fo36_1 : fOff Tryz.prog 36 1 = some (1, 33) := by kernel_rfl
theorem fo36_2 : fOff Tryz.prog 36 2 = some (2, 3) := by kernel_rfl
theorem fo36_3 : fOff Tryz.prog 36 3 = some (3, 34) := by kernel_rfl
theorem fo36_4 : fOff Tryz.prog 36 4 = some (4, 3) := by kernel_rfl
theorem tsz37 : tsize Tryz.prog 37 = some 1 := by kernel_rfl
theorem tag37 : tagg Tryz.prog 37 = some false := by kernel_rfl
theorem tsz38 : tsize Tryz.prog 38 = some 1 := by kernel_rfl
theorem tag38 : tagg Tryz.prog 38 = some false := by kernel_rfl
theorem tz38 : tzero Tryz.prog 38 = some [.nilf] := by kernel_rfl
theorem tsz39 : tsize Tryz.prog 39 = some 1 := by kernel_rfl
theorem tag39 : tagg Tryz.prog 39 = some false := by kernel_rfl
theorem tz39 : tzero Tryz.prog 39 = some [.nilf] := by kernel_rfl
theorem tsz40 : tsize Tryz.prog 40 = some 1 := by kernel_rfl
theorem tag40 : tagg Tryz.prog 40 = some false := by kernel_rfl
theorem tz40 : tzero Tryz.prog 40 = some [.nilm] := by kernel_rfl
theorem mpt40 : mapT Tryz.prog 40 = some (.int .i64, 3) := by kernel_rfl
theorem ism40 : isMap Tryz.prog 40 = true := by kernel_rfl
theorem tzv3 : tzeroV Tryz.prog 3 = some (.one (.int .i64 0)) := by kernel_rfl
theorem tsz41 : tsize Tryz.prog 41 = some 1 := by kernel_rfl
theorem tag41 : tagg Tryz.prog 41 = some false := by kernel_rfl
theorem tz41 : tzero Tryz.prog 41 = some [.nilf] := by kernel_rfl
theorem tsz42 : tsize Tryz.prog 42 = some 1 := by kernel_rfl
theorem tag42 : tagg Tryz.prog 42 = some false := by kernel_rfl
theorem tz42 : tzero Tryz.prog 42 = some [.nilf] := by kernel_rfl
theorem tsz43 : tsize Tryz.prog 43 = some 1 := by kernel_rfl
theorem tag43 : tagg Tryz.prog 43 = some false := by kernel_rfl
theorem tz43 : tzero Tryz.prog 43 = some [.nilf] := by kernel_rfl
theorem tsz44 : tsize Tryz.prog 44 = some 1 := by kernel_rfl
theorem tag44 : tagg Tryz.prog 44 = some false := by kernel_rfl
theorem tz44 : tzero Tryz.prog 44 = some [.nils] := by kernel_rfl
theorem tel44 : telem Tryz.prog 44 = some 5 := by kernel_rfl
theorem isl44 : isSl Tryz.prog 44 = true := by kernel_rfl
theorem E44 : ElemT Tryz.prog 44 1 1 [.int .u8 0] := .mk' (e := 5) (by kernel_rfl) (by kernel_rfl) (by kernel_rfl) rfl (by decide) (by decide)
theorem app44 {H : Heap} (x : V) (id sz : Nat) : appendV Tryz.prog none H 44 44 (.one (.sl id 1 sz 0 sz)) x = appK 1 1 H id sz (rowAt H id sz) (srcOf Tryz.prog H 1 44 x) := append_sl E44 x id sz
theorem apn44 {H : Heap} (x : V) : appendV Tryz.prog none H 44 44 (.one .nils) x = appN 1 1 H .nils (srcOf Tryz.prog H 1 44 x) := append_nils E44 x
theorem apz44 {H : Heap} (x : V) : appendV Tryz.prog none H 44 44 (.one .zsl) x = appN 1 1 H .zsl (srcOf Tryz.prog H 1 44 x) := append_zsl E44 x
theorem bs44 {H : Heap} (x : Leaf) : buildSliceV Tryz.prog none H 44 1 [(0, .one x)] = some (.one (.sl H.length 1 1 0 1), H ++ [some (.row 1 [[x]])], []) := build_one E44 x
theorem tsz45 : tsize Tryz.prog 45 = some 1 := by kernel_rfl
theorem tag45 : tagg Tryz.prog 45 = some false := by kernel_rfl
theorem tz45 : tzero Tryz.prog 45 = some [.nils] := by kernel_rfl
theorem tel45 : telem Tryz.prog 45 = some 47 := by kernel_rfl
theorem isl45 : isSl Tryz.prog 45 = true := by kernel_rfl
theorem E45 : ElemT Tryz.prog 45 8 104 [.int .i64 0, .int .i64 0, .int .i64 0, .int .i64 0, .nils, .nils, .str [], .int .i64 0] := .mk' (e := 47) (by kernel_rfl) (by kernel_rfl) (by kernel_rfl) rfl (by decide) (by decide)
theorem app45 {H : Heap} (x : V) (id sz : Nat) : appendV Tryz.prog none H 45 45 (.one (.sl id 8 sz 0 sz)) x = appK 8 104 H id sz (rowAt H id sz) (srcOf Tryz.prog H 8 45 x) := append_sl E45 x id sz
theorem apn45 {H : Heap} (x : V) : appendV Tryz.prog none H 45 45 (.one .nils) x = appN 8 104 H .nils (srcOf Tryz.prog H 8 45 x) := append_nils E45 x
theorem apz45 {H : Heap} (x : V) : appendV Tryz.prog none H 45 45 (.one .zsl) x = appN 8 104 H .zsl (srcOf Tryz.prog H 8 45 x) := append_zsl E45 x
theorem bsa45 {H : Heap} (x0 x1 x2 x3 x4 x5 x6 x7 : Leaf) : buildSliceV Tryz.prog none H 45 1 [(0, .agg [x0, x1, x2, x3, x4, x5, x6, x7])] = some (.one (.sl H.length 8 1 0 1), H ++ [some (.row 8 [[x0, x1, x2, x3, x4, x5, x6, x7]])], []) := build_agg E45 rfl (by decide)
theorem tsz46 : tsize Tryz.prog 46 = some 8 := by kernel_rfl
theorem tag46 : tagg Tryz.prog 46 = some true := by kernel_rfl
theorem tz46 : tzero Tryz.prog 46 = some [.int .i64 0, .int .i64 0, .int .i64 0, .int .i64 0, .nils, .nils, .str [], .int .i64 0] := by kernel_rfl
theorem bld46 (parts : List (Nat × V)) : buildV Tryz.prog 46 parts = (fillK [(0, 1), (1, 1), (2, 1), (3, 1), (4, 1), (5, 1), (6, 1), (7, 1)] [.int .i64 0, .int .i64 0, .int .i64 0, .int .i64 0, .nils, .nils, .str [], .int .i64 0] parts).map .agg := build_struct (by kernel_rfl) (by kernel_rfl) parts
theorem fo46_0 : fOff Tryz.prog 46 0 = some (0, 3) := by kernel_rfl
theorem fo46_1 : fOff Tryz.prog 46 1 = some (1, 3) := by kernel_rfl
theorem fo46_2 : fOff Tryz.prog 46 2 = some (2, 2) := by kernel_rfl
theorem fo46_3 : fOff Tryz.prog 46 3 = some (3, 3) := by kernel_rfl
theorem fo46_4 : fOff Tryz.prog 46 4 = some (4, 33) := by kernel_rfl
theorem fo46_5 : fOff Tryz.prog 46 5 = some (5, 33) := by kernel_rfl
theorem fo46_6 : fOff Tryz.prog 46 6 = some (6, 9) := by kernel_rfl
theorem fo46_7 : fOff Tryz.prog 46 7 = some (7, 3) := by kernel_rfl
theorem tsz47 : tsize Tryz.prog 47 = some 8 := by kernel_rfl
theorem tag47 : tagg Tryz.prog 47 = some true := by kernel_rfl
theorem tz47 : tzero Tryz.prog 47 = some [.int .i64 0, .int .i64 0, .int .i64 0, .int .i64 0, .nils, .nils, .str [], .int .i64 0] := by kernel_rfl
theorem bld47 (parts : List (Nat × V)) : buildV Tryz.prog 47 parts = (fillK [(0, 1), (1, 1), (2, 1), (3, 1), (4, 1), (5, 1), (6, 1), (7, 1)] [.int .i64 0, .int .i64 0, .int .i64 0, .int .i64 0, .nils, .nils, .str [], .int .i64 0] parts).map .agg := build_struct (by kernel_rfl) (by kernel_rfl) parts
theorem fo47_0 : fOff Tryz.prog 47 0 = some (0, 3) := by kernel_rfl
theorem fo47_1 : fOff Tryz.prog 47 1 = some (1, 3) := by kernel_rfl
theorem fo47_2 : fOff Tryz.prog 47 2 = some (2, 2) := by kernel_rfl
theorem fo47_3 : fOff Tryz.prog 47 3 = some (3, 3) := by kernel_rfl
theorem fo47_4 : fOff Tryz.prog 47 4 = some (4, 33) := by kernel_rfl
theorem fo47_5 : fOff Tryz.prog 47 5 = some (5, 33) := by kernel_rfl
theorem fo47_6 : fOff Tryz.prog 47 6 = some (6, 9) := by kernel_rfl
theorem fo47_7 : fOff Tryz.prog 47 7 = some (7, 3) := by kernel_rfl
theorem tsz48 : tsize Tryz.prog 48 = some 1 := by kernel_rfl
theorem tag48 : tagg Tryz.prog 48 = some false := by kernel_rfl
theorem tz48 : tzero Tryz.prog 48 = some [.nilf] := by kernel_rfl
theorem tsz49 : tsize Tryz.prog 49 = some 1 := by kernel_rfl
theorem tag49 : tagg Tryz.prog 49 = some false := by kernel_rfl
theorem tz49 : tzero Tryz.prog 49 = some [.nilf] := by kernel_rfl
theorem tsz50 : tsize Tryz.prog 50 = some 1 := by kernel_rfl
theorem tag50 : tagg Tryz.prog 50 = some false := by kernel_rfl
theorem tz50 : tzero Tryz.prog 50 = some [.nilf] := by kernel_rfl
theorem tsz51 : tsize Tryz.prog 51 = some 1 := by kernel_rfl
theorem tag51 : tagg Tryz.prog 51 = some false := by kernel_rfl
theorem tz51 : tzero Tryz.prog 51 = some [.nilf] := by kernel_rfl
theorem tsz52 : tsize Tryz.prog 52 = some 1 := by kernel_rfl
theorem tag52 : tagg Tryz.prog 52 = some false := by kernel_rfl
theorem tsz53 : tsize Tryz.prog 53 = some 1 := by kernel_rfl
theorem tag53 : tagg Tryz.prog 53 = some false := by kernel_rfl
theorem tz53 : tzero Tryz.prog 53 = some [.nilf] := by kernel_rfl
theorem tsz54 : tsize Tryz.prog 54 = some 1 := by kernel_rfl
theorem tag54 : tagg Tryz.prog 54 = some false := by kernel_rfl
theorem tz54 : tzero Tryz.prog 54 = some [.nilf] := by kernel_rfl
theorem tsz55 : tsize Tryz.prog 55 = some 1 := by kernel_rfl
theorem tag55 : tagg Tryz.prog 55 = some false := by kernel_rfl
theorem tz55 : tzero Tryz.prog 55 = some [.nilf] := by kernel_rfl
theorem tsz56 : tsize Tryz.prog 56 = some 1 := by kernel_rfl
theorem tag56 : tagg Tryz.prog 56 = some false := by kernel_rfl
theorem tz56 : tzero Tryz.prog 56 = some [.nilf] := by kernel_rfl
theorem tsz57 : tsize Tryz.prog 57 = some 1 := by kernel_rfl
theorem tag57 : tagg Tryz.prog 57 = some false := by kernel_rfl
theorem tz57 : tzero Tryz.prog 57 = some [.nilf] := by kernel_rfl
theorem tsz58 : tsize Tryz.prog 58 = some 1 := by kernel_rfl
theorem tag58 : tagg Tryz.prog 58 = some false := by kernel_rfl
theorem tz58 : tzero Tryz.prog 58 = some [.nilf] := by kernel_rfl
theorem tsz59 : tsize Tryz.prog 59 = some 1 := by kernel_rfl
theorem tag59 : tagg Tryz.prog 59 = some false := by kernel_rfl
theorem tz59 : tzero Tryz.prog 59 = some [.nilf] := by kernel_rfl
theorem tsz60 : tsize Tryz.prog 60 = some 1 := by kernel_rfl
theorem tag60 : tagg Tryz.prog 60 = some false := by kernel_rfl
theorem tz60 : tzero Tryz.prog 60 = some [.nilf] := by kernel_rfl
theorem tsz61 : tsize Tryz.prog 61 = some 4 := by kernel_rfl
theorem tag61 : tagg Tryz.prog 61 = some true := by kernel_rfl
theorem tz61 : tzero Tryz.prog 61 = some [.int .i64 0, .int .i64 0, .int .i64 0, .bool false] := by kernel_rfl
theorem bld61 (parts : List (Nat × V)) : buildV Tryz.prog 61 parts = (fillK [(0, 1), (1, 1), (2, 1), (3, 1)] [.int .i64 0, .int .i64 0, .int .i64 0, .bool false] parts).map .agg := build_struct (by kernel_rfl) (by kernel_rfl) parts
theorem eqi61 (xs ys : List Leaf) : eqV Tryz.prog 61 (.agg xs) (.agg ys) = eqInfo xs ys [(false, 0, 2), (false, 1, 2), (false, 2, 2), (false, 3, 1)] := eqV_info (by kernel_rfl) xs ys
theorem fo61_0 : fOff Tryz.prog 61 0 = some (0, 3) := by kernel_rfl
theorem fo61_1 : fOff Tryz.prog 61 1 = some (1, 3) := by kernel_rfl
theorem fo61_2 : fOff Tryz.prog 61 2 = some (2, 3) := by kernel_rfl
theorem fo61_3 : fOff Tryz.prog 61 3 = some (3, 4) := by kernel_rfl
theorem tsz62 : tsize Tryz.prog 62 = some 4 := by kernel_rfl
theorem tag62 : tagg Tryz.prog 62 = some true := by kernel_rfl
theorem tz62 : tzero Tryz.prog 62 = some [.int .i64 0, .int .i64 0, .int .i64 0, .bool false] := by kernel_rfl
theorem bld62 (parts : List (Nat × V)) : buildV Tryz.prog 62 parts = (fillK [(0, 1), (1, 1), (2, 1), (3, 1)] [.int .i64 0, .int .i64 0, .int .i64 0, .bool false] parts).map .agg := build_struct (by kernel_rfl) (by kernel_rfl) parts
theorem eqi62 (xs ys : List Leaf) : eqV Tryz.prog 62 (.agg xs) (.agg ys) = eqInfo xs ys [(false, 0, 2), (false, 1, 2), (false, 2, 2), (false, 3, 1)] := eqV_info (by kernel_rfl) xs ys
theorem fo62_0 : fOff Tryz.prog 62 0 = some (0, 3) := by kernel_rfl
theorem fo62_1 : fOff Tryz.prog 62 1 = some (1, 3) := by kernel_rfl
theorem fo62_2 : fOff Tryz.prog 62 2 = some (2, 3) := by kernel_rfl
theorem fo62_3 : fOff Tryz.prog 62 3 = some (3, 4) := by kernel_rfl
theorem tsz63 : tsize Tryz.prog 63 = some 1 := by kernel_rfl
theorem tag63 : tagg Tryz.prog 63 = some false := by kernel_rfl
theorem tz63 : tzero Tryz.prog 63 = some [.nilf] := by kernel_rfl
theorem tsz64 : tsize Tryz.prog 64 = some 1 := by kernel_rfl
theorem tag64 : tagg Tryz.prog 64 = some false := by kernel_rfl
theorem tz64 : tzero Tryz.prog 64 = some [.nilf] := by kernel_rfl
theorem tsz65 : tsize Tryz.prog 65 = some 1 := by kernel_rfl
theorem tag65 : tagg Tryz.prog 65 = some false := by kernel_rfl
theorem tz65 : tzero Tryz.prog 65 = some [.nils] := by kernel_rfl
theorem tel65 : telem Tryz.prog 65 = some 94 := by kernel_rfl
theorem isl65 : isSl Tryz.prog 65 = true := by kernel_rfl
theorem E65 : ElemT Tryz.prog 65 2 24 [.str [], .int .i64 0] := .mk' (e := 94) (by kernel_rfl) (by kernel_rfl) (by kernel_rfl) rfl (by decide) (by decide)
theorem app65 {H : Heap} (x : V) (id sz : Nat) : appendV Tryz.prog none H 65 65 (.one (.sl id 2 sz 0 sz)) x = appK 2 24 H id sz (rowAt H id sz) (srcOf Tryz.prog H 2 65 x) := append_sl E65 x id sz
theorem apn65 {H : Heap} (x : V) : appendV Tryz.prog none H 65 65 (.one .nils) x = appN 2 24 H .nils (srcOf Tryz.prog H 2 65 x) := append_nils E65 x
theorem apz65 {H : Heap} (x : V) : appendV Tryz.prog none H 65 65 (.one .zsl) x = appN 2 24 H .zsl (srcOf Tryz.prog H 2 65 x) := append_zsl E65 x
theorem bsa65 {H : Heap} (x0 x1 : Leaf) : buildSliceV Tryz.prog none H 65 1 [(0, .agg [x0, x1])] = some (.one (.sl H.length 2 1 0 1), H ++ [some (.row 2 [[x0, x1]])], []) := build_agg E65 rfl (by decide)
theorem tsz66 : tsize Tryz.prog 66 = some 1 := by kernel_rfl
theorem tag66 : tagg Tryz.prog 66 = some false := by kernel_rfl
theorem tsz67 : tsize Tryz.prog 67 = some 1 := by kernel_rfl
theorem tag67 : tagg Tryz.prog 67 = some false := by kernel_rfl
theorem tz67 : tzero Tryz.prog 67 = some [.nilf] := by kernel_rfl
theorem tsz68 : tsize Tryz.prog 68 = some 1 := by kernel_rfl
theorem tag68 : tagg Tryz.prog 68 = some false := by kernel_rfl
theorem tz68 : tzero Tryz.prog 68 = some [.nilp] := by kernel_rfl
theorem pt68 : isPt Tryz.prog 68 = true := by kernel_rfl
theorem und68 : Tryz.prog.underlying 68 = some (.pointer 70) := by kernel_rfl
theorem tsz69 : tsize Tryz.prog 69 = some 6 := by kernel_rfl
theorem tag69 : tagg Tryz.prog 69 = some true := by kernel_rfl
theorem tz69 : tzero Tryz.prog 69 = some [.nils, .int .i64 0, .int .i64 0, .int .i64 0, .int .i64 0, .int .i64 0] := by kernel_rfl
theorem bld69 (parts : List (Nat × V)) : buildV Tryz.prog 69 parts = (fillK [(0, 1), (1, 1), (2, 1), (3, 1), (4, 2)] [.nils, .int .i64 0, .int .i64 0, .int .i64 0, .int .i64 0, .int .i64 0] parts).map .agg := build_struct (by kernel_rfl) (by kernel_rfl) parts
theorem fo69_0 : fOff Tryz.prog 69 0 = some (0, 65) := by kernel_rfl
theorem fo69_1 : fOff Tryz.prog 69 1 = some (1, 3) := by kernel_rfl
theorem fo69_2 : fOff Tryz.prog 69 2 = some (2, 3) := by kernel_rfl
theorem fo69_3 : fOff Tryz.prog 69 3 = some (3, 3) := by kernel_rfl
theorem fo69_4 : fOff Tryz.prog 69 4 = some (4, 29) := by kernel_rfl
theorem tsz70 : tsize Tryz.prog 70 = some 6 := by kernel_rfl
theorem tag70 : tagg Tryz.prog 70 = some true := by kernel_rfl
theorem tz70 : tzero Tryz.prog 70 = some [.nils, .int .i64 0, .int .i64 0, .int .i64 0, .int .i64 0, .int .i64 0] := by kernel_rfl
theorem bld70 (parts : List (Nat × V)) : buildV Tryz.prog 70 parts = (fillK [(0, 1), (1, 1), (2, 1), (3, 1), (4, 2)] [.nils, .int .i64 0, .int .i64 0, .int .i64 0, .int .i64 0, .int .i64 0] parts).map .agg := build_struct (by kernel_rfl) (by kernel_rfl) parts
theorem fo70_0 : fOff Tryz.prog 70 0 = some (0, 65) := by kernel_rfl
theorem fo70_1 : fOff Tryz.prog 70 1 = some (1, 3) := by kernel_rfl
theorem fo70_2 : fOff Tryz.prog 70 2 = some (2, 3) := by kernel_rfl
theorem fo70_3 : fOff Tryz.prog 70 3 = some (3, 3) := by kernel_rfl
theorem fo70_4 : fOff Tryz.prog 70 4 = some (4, 29) := by kernel_rfl
theorem tsz71 : tsize Tryz.prog 71 = some 1 := by kernel_rfl
theorem tag71 : tagg Tryz.prog 71 = some false := by kernel_rfl
theorem tz71 : tzero Tryz.prog 71 = some [.nilf] := by kernel_rfl
theorem tsz72 : tsize Tryz.prog 72 = some 1 := by kernel_rfl
theorem tag72 : tagg Tryz.prog 72 = some false := by kernel_rfl
theorem tz72 : tzero Tryz.prog 72 = some [.nilf] := by kernel_rfl
theorem tsz73 : tsize Tryz.prog 73 = some 1 := by kernel_rfl
theorem tag73 : tagg Tryz.prog 73 = some false := by kernel_rfl
theorem tz73 : tzero Tryz.prog 73 = some [.nilp] := by kernel_rfl
theorem pt73 : isPt Tryz.prog 73 = true := by kernel_rfl
theorem und73 : Tryz.prog.underlying 73 = some (.pointer 78) := by kernel_rfl
theorem tsz74 : tsize Tryz.prog 74 = some 1 := by kernel_rfl
theorem tag74 : tagg Tryz.prog 74 = some false := by kernel_rfl
theorem tz74 : tzero Tryz.prog 74 = some [.nilp] := by kernel_rfl
theorem pt74 : isPt Tryz.prog 74 = true := by kernel_rfl
theorem und74 : Tryz.prog.underlying 74 = some (.pointer 135) := by kernel_rfl
theorem tsz75 : tsize Tryz.prog 75 = some 1 := by kernel_rfl
theorem tag75 : tagg Tryz.prog 75 = some false := by kernel_rfl
theorem tz75 : tzero Tryz.prog 75 = some [.nils] := by kernel_rfl
theorem tel75 : telem Tryz.prog 75 = some 33 := by kernel_rfl
theorem isl75 : isSl Tryz.prog 75 = true := by kernel_rfl
theorem E75 : ElemT Tryz.prog 75 1 24 [.nils] := .mk' (e := 33) (by kernel_rfl) (by kernel_rfl) (by kernel_rfl) rfl (by decide) (by decide)
theorem app75 {H : Heap} (x : V) (id sz : Nat) : appendV Tryz.prog none H 75 75 (.one (.sl id 1 sz 0 sz)) x = appK 1 24 H id sz (rowAt H id sz) (srcOf Tryz.prog H 1 75 x) := append_sl E75 x id sz
theorem apn75 {H : Heap} (x : V) : appendV Tryz.prog none H 75 75 (.one .nils) x = appN 1 24 H .nils (srcOf Tryz.prog H 1 75 x) := append_nils E75 x
theorem apz75 {H : Heap} (x : V) : appendV Tryz.prog none H 75 75 (.one .zsl) x = appN 1 24 H .zsl (srcOf Tryz.prog H 1 75 x) := append_zsl E75 x
theorem bs75 {H : Heap} (x : Leaf) : buildSliceV Tryz.prog none H 75 1 [(0, .one x)] = some (.one (.sl H.length 1 1 0 1), H ++ [some (.row 1 [[x]])], []) := build_one E75 x
theorem tsz76 : tsize Tryz.prog 76 = some 1 := by kernel_rfl
theorem tag76 : tagg Tryz.prog 76 = some false := by kernel_rfl
theorem tz76 : tzero Tryz.prog 76 = some [.nilm] := by kernel_rfl
theorem mpt76 : mapT Tryz.prog 76 = some (.int .i64, 108) := by kernel_rfl
theorem ism76 : isMap Tryz.prog 76 = true := by kernel_rfl
theorem tzv108 : tzeroV Tryz.prog 108 = some (.agg [.int .i64 0, .int .i64 0, .int .i64 0]) := by kernel_rfl
theorem tsz77 : tsize Tryz.prog 77 = some 10 := by kernel_rfl
theorem tag77 : tagg Tryz.prog 77 = some true := by kernel_rfl
theorem tz77 : tzero Tryz.prog 77 = some [.nils, .str [], .nils, .int .i64 0, .nils, .int .i64 0, .bool false, .nilp, .nils, .nilm] := by kernel_rfl
theorem bld77 (parts : List (Nat × V)) : buildV Tryz.prog 77 parts = (fillK [(0, 1), (1, 5), (6, 1), (7, 1), (8, 1), (9, 1)] [.nils, .str [], .nils, .int .i64 0, .nils, .int .i64 0, .bool false, .nilp, .nils, .nilm] parts).map .agg := build_struct (by kernel_rfl) (by kernel_rfl) parts
theorem fo77_0 : fOff Tryz.prog 77 0 = some (0, 24) := by kernel_rfl
theorem fo77_1 : fOff Tryz.prog 77 1 = some (1, 36) := by kernel_rfl
theorem fo77_2 : fOff Tryz.prog 77 2 = some (6, 4) := by kernel_rfl
theorem fo77_3 : fOff Tryz.prog 77 3 = some (7, 74) := by kernel_rfl
theorem fo77_4 : fOff Tryz.prog 77 4 = some (8, 75) := by kernel_rfl
theorem fo77_5 : fOff Tryz.prog 77 5 = some (9, 76) := by kernel_rfl
theorem tsz78 : tsize Tryz.prog 78 = some 10 := by kernel_rfl
theorem tag78 : tagg Tryz.prog 78 = some true := by kernel_rfl
theorem tz78 : tzero Tryz.prog 78 = some [.nils, .str [], .nils, .int .i64 0, .nils, .int .i64 0, .bool false, .nilp, .nils, .nilm] := by kernel_rfl
theorem bld78 (parts : List (Nat × V)) : buildV Tryz.prog 78 parts = (fillK [(0, 1), (1, 5), (6, 1), (7, 1), (8, 1), (9, 1)] [.nils, .str [], .nils, .int .i64 0, .nils, .int .i64 0, .bool false, .nilp, .nils, .nilm] parts).map .agg := build_struct (by kernel_rfl) (by kernel_rfl) parts
theorem fo78_0 : fOff Tryz.prog 78 0 = some (0, 24) := by kernel_rfl
theorem fo78_1 : fOff Tryz.prog 78 1 = some (1, 36) := by kernel_rfl
theorem fo78_2 : fOff Tryz.prog 78 2 = some (6, 4) := by kernel_rfl
theorem fo78_3 : fOff Tryz.prog 78 3 = some (7, 74) := by kernel_rfl
theorem fo78_4 : fOff Tryz.prog 78 4 = some (8, 75) := by kernel_rfl
theorem fo78_5 : fOff Tryz.prog 78 5 = some (9, 76) := by kernel_rfl
theorem tsz79 : tsize Tryz.prog 79 = some 1 := by kernel_rfl
theorem tag79 : tagg Tryz.prog 79 = some false := by kernel_rfl
theorem tz79 : tzero Tryz.prog 79 = some [.nilf] := by kernel_rfl
theorem tsz80 : tsize Tryz.prog 80 = some 1 := by kernel_rfl
theorem tag80 : tagg Tryz.prog 80 = some false := by kernel_rfl
theorem tz80 : tzero Tryz.prog 80 = some [.nilf] := by kernel_rfl
theorem tsz81 : tsize Tryz.prog 81 = some 1 := by kernel_rfl
theorem tag81 : tagg Tryz.prog 81 = some false := by kernel_rfl
theorem tz81 : tzero Tryz.prog 81 = some [.nilf] := by kernel_rfl
theorem tsz82 : tsize Tryz.prog 82 = some 1 := by kernel_rfl
theorem tag82 : tagg Tryz.prog 82 = some false := by kernel_rfl
theorem tz82 : tzero Tryz.prog 82 = some [.nilf] := by kernel_rfl
theorem tsz83 : tsize Tryz.prog 83 = some 1 := by kernel_rfl
theorem tag83 : tagg Tryz.prog 83 = some false := by kernel_rfl
theorem tz83 : tzero Tryz.prog 83 = some [.nilf] := by kernel_rfl
theorem tsz84 : tsize Tryz.prog 84 = some 1 := by kernel_rfl
theorem tag84 : tagg Tryz.prog 84 = some false := by kernel_rfl
theorem tz84 : tzero Tryz.prog 84 = some [.nils] := by kernel_rfl
theorem tel84 : telem Tryz.prog 84 = some 122 := by kernel_rfl
theorem isl84 : isSl Tryz.prog 84 = true := by kernel_rfl
theorem E84 : ElemT Tryz.prog 84 1 24 [.nils] := .mk' (e := 122) (by kernel_rfl) (by kernel_rfl) (by kernel_rfl) rfl (by decide) (by decide)
theorem app84 {H : Heap} (x : V) (id sz : Nat) : appendV Tryz.prog none H 84 84 (.one (.sl id 1 sz 0 sz)) x = appK 1 24 H id sz (rowAt H id sz) (srcOf Tryz.prog H 1 84 x) := append_sl E84 x id sz
theorem apn84 {H : Heap} (x : V) : appendV Tryz.prog none H 84 84 (.one .nils) x = appN 1 24 H .nils (srcOf Tryz.prog H 1 84 x) := append_nils E84 x
theorem apz84 {H : Heap} (x : V) : appendV Tryz.prog none H 84 84 (.one .zsl) x = appN 1 24 H .zsl (srcOf Tryz.prog H 1 84 x) := append_zsl E84 x
theorem bs84 {H : Heap} (x : Leaf) : buildSliceV Tryz.prog none H 84 1 [(0, .one x)] = some (.one (.sl H.length 1 1 0 1), H ++ [some (.row 1 [[x]])], []) := build_one E84 x
theorem tsz85 : tsize Tryz.prog 85 = some 1 := by kernel_rfl
theorem tag85 : tagg Tryz.prog 85 = some false := by kernel_rfl
theorem tz85 : tzero Tryz.prog 85 = some [.nilf] := by kernel_rfl
theorem tsz86 : tsize Tryz.prog 86 = some 1 := by kernel_rfl
theorem tag86 : tagg Tryz.prog 86 = some false := by kernel_rfl
theorem tz86 : tzero Tryz.prog 86 = some [.nilf] := by kernel_rfl
theorem tsz87 : tsize Tryz.prog 87 = some 1 := by kernel_rfl
theorem tag87 : tagg Tryz.prog 87 = some false := by kernel_rfl
theorem tz87 : tzero Tryz.prog 87 = some [.nilf] := by kernel_rfl
theorem tsz88 : tsize Tryz.prog 88 = some 2 := by kernel_rfl
theorem tag88 : tagg Tryz.prog 88 = some true := by kernel_rfl
theorem tz88 : tzero Tryz.prog 88 = some [.int .i64 0, .int .i64 0] := by kernel_rfl
theorem tsz89 : tsize Tryz.prog 89 = some 9 := by kernel_rfl
theorem tag89 : tagg Tryz.prog 89 = some true := by kernel_rfl
theorem tz89 : tzero Tryz.prog 89 = some [.str [], .int .i64 0, .int .i64 0, .int .i64 0, .bool false, .bool false, .bool false, .bool false, .bool false] := by kernel_rfl
theorem bld89 (parts : List (Nat × V)) : buildV Tryz.prog 89 parts = (fillK [(0, 1), (1, 2), (3, 1), (4, 1), (5, 1), (6, 1), (7, 1), (8, 1)] [.str [], .int .i64 0, .int .i64 0, .int .i64 0, .bool false, .bool false, .bool false, .bool false, .bool false] parts).map .agg := build_struct (by kernel_rfl) (by kernel_rfl) parts
theorem fo89_0 : fOff Tryz.prog 89 0 = some (0, 9) := by kernel_rfl
theorem fo89_1 : fOff Tryz.prog 89 1 = some (1, 88) := by kernel_rfl
theorem fo89_2 : fOff Tryz.prog 89 2 = some (3, 3) := by kernel_rfl
theorem fo89_3 : fOff Tryz.prog 89 3 = some (4, 4) := by kernel_rfl
theorem fo89_4 : fOff Tryz.prog 89 4 = some (5, 4) := by kernel_rfl
theorem fo89_5 : fOff Tryz.prog 89 5 = some (6, 4) := by kernel_rfl
theorem fo89_6 : fOff Tryz.prog 89 6 = some (7, 4) := by kernel_rfl
theorem fo89_7 : fOff Tryz.prog 89 7 = some (8, 4) := by kernel_rfl
theorem tsz90 : tsize Tryz.prog 90 = some 9 := by kernel_rfl
theorem tag90 : tagg Tryz.prog 90 = some true := by kernel_rfl
theorem tz90 : tzero Tryz.prog 90 = some [.str [], .int .i64 0, .int .i64 0, .int .i64 0, .bool false, .bool false, .bool false, .bool false, .bool false] := by kernel_rfl
theorem bld90 (parts : List (Nat × V)) : buildV Tryz.prog 90 parts = (fillK [(0, 1), (1, 2), (3, 1), (4, 1), (5, 1), (6, 1), (7, 1), (8, 1)] [.str [], .int .i64 0, .int .i64 0, .int .i64 0, .bool false, .bool false, .bool false, .bool false, .bool false] parts).map .agg := build_struct (by kernel_rfl) (by kernel_rfl) parts
theorem fo90_0 : fOff Tryz.prog 90 0 = some (0, 9) := by kernel_rfl
theorem fo90_1 : fOff Tryz.prog 90 1 = some (1, 88) := by kernel_rfl
theorem fo90_2 : fOff Tryz.prog 90 2 = some (3, 3) := by kernel_rfl
theorem fo90_3 : fOff Tryz.prog 90 3 = some (4, 4) := by kernel_rfl
theorem fo90_4 : fOff Tryz.prog 90 4 = some (5, 4) := by kernel_rfl
theorem fo90_5 : fOff Tryz.prog 90 5 = some (6, 4) := by kernel_rfl
theorem fo90_6 : fOff Tryz.prog 90 6 = some (7, 4) := by kernel_rfl
theorem fo90_7 : fOff Tryz.prog 90 7 = some (8, 4) := by kernel_rfl
theorem tsz91 : tsize Tryz.prog 91 = some 1 := by kernel_rfl
theorem tag91 : tagg Tryz.prog 91 = some false := by kernel_rfl
theorem tz91 : tzero Tryz.prog 91 = some [.nilf] := by kernel_rfl
theorem tsz92 : tsize Tryz.prog 92 = some 1 := by kernel_rfl
theorem tag92 : tagg Tryz.prog 92 = some false := by kernel_rfl
theorem tz92 : tzero Tryz.prog 92 = some [.nilf] := by kernel_rfl
theorem tsz93 : tsize Tryz.prog 93 = some 2 := by kernel_rfl
theorem tag93 : tagg Tryz.prog 93 = some true := by kernel_rfl
theorem tz93 : tzero Tryz.prog 93 = some [.str [], .int .i64 0] := by kernel_rfl
theorem bld93 (parts : List (Nat × V)) : buildV Tryz.prog 93 parts = (fillK [(0, 1), (1, 1)] [.str [], .int .i64 0] parts).map .agg := build_struct (by kernel_rfl) (by kernel_rfl) parts
theorem fo93_0 : fOff Tryz.prog 93 0 = some (0, 9) := by kernel_rfl
theorem fo93_1 : fOff Tryz.prog 93 1 = some (1, 3) := by kernel_rfl
theorem tsz94 : tsize Tryz.prog 94 = some 2 := by kernel_rfl
theorem tag94 : tagg Tryz.prog 94 = some true := by kernel_rfl
theorem tz94 : tzero Tryz.prog 94 = some [.str [], .int .i64 0] := by kernel_rfl
theorem bld94 (parts : List (Nat × V)) : buildV Tryz.prog 94 parts = (fillK [(0, 1), (1, 1)] [.str [], .int .i64 0] parts).map .agg := build_struct (by kernel_rfl) (by kernel_rfl) parts
theorem fo94_0 : fOff Tryz.prog 94 0 = some (0, 9) := by kernel_rfl
theorem fo94_1 : fOff Tryz.prog 94 1 = some (1, 3) := by kernel_rfl
theorem tsz95 : tsize Tryz.prog 95 = some 1 := by kernel_rfl
theorem tag95 : tagg Tryz.prog 95 = some false := by kernel_rfl
theorem tz95 : tzero Tryz.prog 95 = some [.nilf] := by kernel_rfl
theorem tsz96 : tsize Tryz.prog 96 = some 1 := by kernel_rfl
theorem tag96 : tagg Tryz.prog 96 = some false := by kernel_rfl
theorem tz96 : tzero Tryz.prog 96 = some [.nilf] := by kernel_rfl
theorem tsz97 : tsize Tryz.prog 97 = some 1 := by kernel_rfl
theorem tag97 : tagg Tryz.prog 97 = some false := by kernel_rfl
theorem tz97 : tzero Tryz.prog 97 = some [.nilf] := by kernel_rfl
theorem tsz98 : tsize Tryz.prog 98 = some 1 := by kernel_rfl
theorem tag98 : tagg Tryz.prog 98 = some false := by kernel_rfl
theorem tz98 : tzero Tryz.prog 98 = some [.nilf] := by kernel_rfl
theorem tsz99 : tsize Tryz.prog 99 = some 1 := by kernel_rfl
theorem tag99 : tagg Tryz.prog 99 = some false := by kernel_rfl
theorem tz99 : tzero Tryz.prog 99 = some [.nilf] := by kernel_rfl
theorem tsz100 : tsize Tryz.prog 100 = some 1 := by kernel_rfl
theorem tag100 : tagg Tryz.prog 100 = some false := by kernel_rfl
theorem tz100 : tzero Tryz.prog 100 = some [.nilf] := by kernel_rfl
theorem tsz101 : tsize Tryz.prog 101 = some 1 := by kernel_rfl
theorem tag101 : tagg Tryz.prog 101 = some false := by kernel_rfl
theorem tz101 : tzero Tryz.prog 101 = some [.nilf] := by kernel_rfl
theorem tsz102 : tsize Tryz.prog 102 = some 1 := by kernel_rfl
theorem tag102 : tagg Tryz.prog 102 = some false := by kernel_rfl
theorem tz102 : tzero Tryz.prog 102 = some [.nilf] := by kernel_rfl
theorem tsz103 : tsize Tryz.prog 103 = some 1 := by kernel_rfl
theorem tag103 : tagg Tryz.prog 103 = some false := by kernel_rfl
theorem tz103 : tzero Tryz.prog 103 = some [.nilm] := by kernel_rfl
theorem mpt103 : mapT Tryz.prog 103 = some (.string, 3) := by kernel_rfl
theorem ism103 : isMap Tryz.prog 103 = true := by kernel_rfl
theorem tsz104 : tsize Tryz.prog 104 = some 1 := by kernel_rfl
theorem tag104 : tagg Tryz.prog 104 = some false := by kernel_rfl
theorem tz104 : tzero Tryz.prog 104 = some [.nilf] := by kernel_rfl
theorem tsz105 : tsize Tryz.prog 105 = some 1 := by kernel_rfl
theorem tag105 : tagg Tryz.prog 105 = some false := by kernel_rfl
theorem tz105 : tzero Tryz.prog 105 = some [.nilf] := by kernel_rfl
theorem tsz106 : tsize Tryz.prog 106 = some 1 := by kernel_rfl
theorem tag106 : tagg Tryz.prog 106 = some false := by kernel_rfl
theorem tz106 : tzero Tryz.prog 106 = some [.nilf] := by kernel_rfl
theorem tsz107 : tsize Tryz.prog 107 = some 3 := by kernel_rfl
theorem tag107 : tagg Tryz.prog 107 = some true := by kernel_rfl
theorem tz107 : tzero Tryz.prog 107 = some [.int .i64 0, .int .i64 0, .int .i64 0] := by kernel_rfl
theorem bld107 (parts : List (Nat × V)) : buildV Tryz.prog 107 parts = (fillK [(0, 1), (1, 1), (2, 1)] [.int .i64 0, .int .i64 0, .int .i64 0] parts).map .agg := build_struct (by kernel_rfl) (by kernel_rfl) parts
theorem eqi107 (xs ys : List Leaf) : eqV Tryz.prog 107 (.agg xs) (.agg ys) = eqInfo xs ys [(false, 0, 2), (false, 1, 2), (false, 2, 2)] := eqV_info (by kernel_rfl) xs ys
theorem fo107_0 : fOff Tryz.prog 107 0 = some (0, 3) := by kernel_rfl
theorem fo107_1 : fOff Tryz.prog 107 1 = some (1, 3) := by kernel_rfl
theorem fo107_2 : fOff Tryz.prog 107 2 = some (2, 3) := by kernel_rfl
theorem tsz108 : tsize Tryz.prog 108 = some 3 := by kernel_rfl
theorem tag108 : tagg Tryz.prog 108 = some true := by kernel_rfl
theorem tz108 : tzero Tryz.prog 108 = some [.int .i64 0, .int .i64 0, .int .i64 0] := by kernel_rfl
theorem bld108 (parts : List (Nat × V)) : buildV Tryz.prog 108 parts = (fillK [(0, 1), (1, 1), (2, 1)] [.int .i64 0, .int .i64 0, .int .i64 0] parts).map .agg := build_struct (by kernel_rfl) (by kernel_rfl) parts
theorem eqi108 (xs ys : List Leaf) : eqV Tryz.prog 108 (.agg xs) (.agg ys) = eqInfo xs ys [(false, 0, 2), (false, 1, 2), (false, 2, 2)] := eqV_info (by kernel_rfl) xs ys
theorem fo108_0 : fOff Tryz.prog 108 0 = some (0, 3) := by kernel_rfl
theorem fo108_1 : fOff Tryz.prog 108 1 = some (1, 3) := by kernel_rfl
theorem fo108_2 : fOff Tryz.prog 108 2 = some (2, 3) := by kernel_rfl
theorem tsz109 : tsize Tryz.prog 109 = some 1 := by kernel_rfl
theorem tag109 : tagg Tryz.prog 109 = some false := by kernel_rfl
theorem tsz110 : tsize Tryz.prog 110 = some 1 := by kernel_rfl
theorem tag110 : tagg Tryz.prog 110 = some false := by kernel_rfl
theorem tz110 : tzero Tryz.prog 110 = some [.nilf] := by kernel_rfl
theorem tsz111 : tsize Tryz.prog 111 = some 1 := by kernel_rfl
theorem tag111 : tagg Tryz.prog 111 = some false := by kernel_rfl
theorem tsz112 : tsize Tryz.prog 112 = some 1 := by kernel_rfl
theorem tag112 : tagg Tryz.prog 112 = some false := by kernel_rfl
theorem tz112 : tzero Tryz.prog 112 = some [.nilf] := by kernel_rfl
theorem tsz113 : tsize Tryz.prog 113 = some 1 := by kernel_rfl
theorem tag113 : tagg Tryz.prog 113 = some false := by kernel_rfl
theorem tz113 : tzero Tryz.prog 113 = some [.nilf] := by kernel_rfl
theorem tsz114 : tsize Tryz.prog 114 = some 1 := by kernel_rfl
theorem tag114 : tagg Tryz.prog 114 = some false := by kernel_rfl
theorem tz114 : tzero Tryz.prog 114 = some [.nilf] := by kernel_rfl
theorem tsz115 : tsize Tryz.prog 115 = some 1 := by kernel_rfl
theorem tag115 : tagg Tryz.prog 115 = some false := by kernel_rfl
theorem tz115 : tzero Tryz.prog 115 = some [.nilf] := by kernel_rfl
theorem tsz116 : tsize Tryz.prog 116 = some 1 := by kernel_rfl
theorem tag116 : tagg Tryz.prog 116 = some false := by kernel_rfl
theorem tz116 : tzero Tryz.prog 116 = some [.nilf] := by kernel_rfl
theorem tsz117 : tsize Tryz.prog 117 = some 2 := by kernel_rfl
theorem tag117 : tagg Tryz.prog 117 = some true := by kernel_rfl
theorem tz117 : tzero Tryz.prog 117 = some [.int .i64 0, .int .i64 0] := by kernel_rfl
theorem bld117 (parts : List (Nat × V)) : buildV Tryz.prog 117 parts = (fillK [(0, 1), (1, 1)] [.int .i64 0, .int .i64 0] parts).map .agg := build_struct (by kernel_rfl) (by kernel_rfl) parts
theorem eqi117 (xs ys : List Leaf) : eqV Tryz.prog 117 (.agg xs) (.agg ys) = eqInfo xs ys [(false, 0, 2), (false, 1, 2)] := eqV_info (by kernel_rfl) xs ys
theorem fo117_0 : fOff Tryz.prog 117 0 = some (0, 3) := by kernel_rfl
theorem fo117_1 : fOff Tryz.prog 117 1 = some (1, 3) := by kernel_rfl
theorem tsz118 : tsize Tryz.prog 118 = some 2 := by kernel_rfl
theorem tag118 : tagg Tryz.prog 118 = some true := by kernel_rfl
theorem tz118 : tzero Tryz.prog 118 = some [.int .i64 0, .int .i64 0] := by kernel_rfl
theorem bld118 (parts : List (Nat × V)) : buildV Tryz.prog 118 parts = (fillK [(0, 1), (1, 1)] [.int .i64 0, .int .i64 0] parts).map .agg := build_struct (by kernel_rfl) (by kernel_rfl) parts
theorem eqi118 (xs ys : List Leaf) : eqV Tryz.prog 118 (.agg xs) (.agg ys) = eqInfo xs ys [(false, 0, 2), (false, 1, 2)] := eqV_info (by kernel_rfl) xs ys
theorem fo118_0 : fOff Tryz.prog 118 0 = some (0, 3) := by kernel_rfl
theorem fo118_1 : fOff Tryz.prog 118 1 = some (1, 3) := by kernel_rfl
theorem tsz119 : tsize Tryz.prog 119 = some 1 := by kernel_rfl
theorem tag119 : tagg Tryz.prog 119 = some false := by kernel_rfl
theorem tsz120 : tsize Tryz.prog 120 = some 1 := by kernel_rfl
theorem tag120 : tagg Tryz.prog 120 = some false := by kernel_rfl
theorem tz120 : tzero Tryz.prog 120 = some [.nilf] := by kernel_rfl
theorem tsz121 : tsize Tryz.prog 121 = some 1 := by kernel_rfl
theorem tag121 : tagg Tryz.prog 121 = some false := by kernel_rfl
theorem tz121 : tzero Tryz.prog 121 = some [.nilf] := by kernel_rfl
theorem tsz122 : tsize Tryz.prog 122 = some 1 := by kernel_rfl
theorem tag122 : tagg Tryz.prog 122 = some false := by kernel_rfl
theorem tz122 : tzero Tryz.prog 122 = some [.nils] := by kernel_rfl
theorem tel122 : telem Tryz.prog 122 = some 4 := by kernel_rfl
theorem isl122 : isSl Tryz.prog 122 = true := by kernel_rfl
theorem E122 : ElemT Tryz.prog 122 1 1 [.bool false] := .mk' (e := 4) (by kernel_rfl) (by kernel_rfl) (by kernel_rfl) rfl (by decide) (by decide)
theorem app122 {H : Heap} (x : V) (id sz : Nat) : appendV Tryz.prog none H 122 122 (.one (.sl id 1 sz 0 sz)) x = appK 1 1 H id sz (rowAt H id sz) (srcOf Tryz.prog H 1 122 x) := append_sl E122 x id sz
theorem apn122 {H : Heap} (x : V) : appendV Tryz.prog none H 122 122 (.one .nils) x = appN 1 1 H .nils (srcOf Tryz.prog H 1 122 x) := append_nils E122 x
theorem apz122 {H : Heap} (x : V) : appendV Tryz.prog none H 122 122 (.one .zsl) x = appN 1 1 H .zsl (srcOf Tryz.prog H 1 122 x) := append_zsl E122 x
theorem bs122 {H : Heap} (x : Leaf) : buildSliceV Tryz.prog none H 122 1 [(0, .one x)] = some (.one (.sl H.length 1 1 0 1), H ++ [some (.row 1 [[x]])], []) := build_one E122 x
theorem tsz123 : tsize Tryz.prog 123 = some 1 := by kernel_rfl
theorem tag123 : tagg Tryz.prog 123 = some false := by kernel_rfl
theorem tz123 : tzero Tryz.prog 123 = some [.nilf] := by kernel_rfl
theorem tsz124 : tsize Tryz.prog 124 = some 1 := by kernel_rfl
theorem tag124 : tagg Tryz.prog 124 = some false := by kernel_rfl
theorem tz124 : tzero Tryz.prog 124 = some [.nilf] := by kernel_rfl
theorem tsz125 : tsize Tryz.prog 125 = some 1 := by kernel_rfl
theorem tag125 : tagg Tryz.prog 125 = some false := by kernel_rfl
theorem tz125 : tzero Tryz.prog 125 = some [.nilf] := by kernel_rfl
theorem tsz126 : tsize Tryz.prog 126 = some 270 := by kernel_rfl
theorem tag126 : tagg Tryz.prog 126 = some true := by kernel_rfl
theorem tsz127 : tsize Tryz.prog 127 = some 1 := by kernel_rfl
theorem tag127 : tagg Tryz.prog 127 = some false := by kernel_rfl
theorem tz127 : tzero Tryz.prog 127 = some [.nilf] := by kernel_rfl
theorem tsz128 : tsize Tryz.prog 128 = some 1 := by kernel_rfl
theorem tag128 : tagg Tryz.prog 128 = some false := by kernel_rfl
theorem tz128 : tzero Tryz.prog 128 = some [.nilf] := by kernel_rfl
theorem tsz129 : tsize Tryz.prog 129 = some 1 := by kernel_rfl
theorem tag129 : tagg Tryz.prog 129 = some false := by kernel_rfl
theorem tz129 : tzero Tryz.prog 129 = some [.nilf] := by kernel_rfl
theorem tsz130 : tsize Tryz.prog 130 = some 1 := by kernel_rfl
theorem tag130 : tagg Tryz.prog 130 = some false := by kernel_rfl
theorem tz130 : tzero Tryz.prog 130 = some [.nilf] := by kernel_rfl
theorem tsz131 : tsize Tryz.prog 131 = some 1 := by kernel_rfl
theorem tag131 : tagg Tryz.prog 131 = some false := by kernel_rfl
theorem tz131 : tzero Tryz.prog 131 = some [.nilf] := by kernel_rfl
theorem tsz132 : tsize Tryz.prog 132 = some 1 := by kernel_rfl
theorem tag132 : tagg Tryz.prog 132 = some false := by kernel_rfl
theorem tz132 : tzero Tryz.prog 132 = some [.nilf] := by kernel_rfl
theorem tsz133 : tsize Tryz.prog 133 = some 1 := by kernel_rfl
theorem tag133 : tagg Tryz.prog 133 = some false := by kernel_rfl
theorem tz133 : tzero Tryz.prog 133 = some [.nilf] := by kernel_rfl
theorem tsz134 : tsize Tryz.prog 134 = some 3 := by kernel_rfl
theorem tag134 : tagg Tryz.prog 134 = some true := by kernel_rfl
theorem tz134 : tzero Tryz.prog 134 = some [.nils, .nils, .nils] := by kernel_rfl
theorem bld134 (parts : List (Nat × V)) : buildV Tryz.prog 134 parts = (fillK [(0, 1), (1, 1), (2, 1)] [.nils, .nils, .nils] parts).map .agg := build_struct (by kernel_rfl) (by kernel_rfl) parts
theorem fo134_0 : fOff Tryz.prog 134 0 = some (0, 33) := by kernel_rfl
theorem fo134_1 : fOff Tryz.prog 134 1 = some (1, 33) := by kernel_rfl
theorem fo134_2 : fOff Tryz.prog 134 2 = some (2, 75) := by kernel_rfl
theorem tsz135 : tsize Tryz.prog 135 = some 3 := by kernel_rfl
theorem tag135 : tagg Tryz.prog 135 = some true := by kernel_rfl
theorem tz135 : tzero Tryz.prog 135 = some [.nils, .nils, .nils] := by kernel_rfl
theorem bld135 (parts : List (Nat × V)) : buildV Tryz.prog 135 parts = (fillK [(0, 1), (1, 1), (2, 1)] [.nils, .nils, .nils] parts).map .agg := build_struct (by kernel_rfl) (by kernel_rfl) parts
theorem fo135_0 : fOff Tryz.prog 135 0 = some (0, 33) := by kernel_rfl
theorem fo135_1 : fOff Tryz.prog 135 1 = some (1, 33) := by kernel_rfl
theorem fo135_2 : fOff Tryz.prog 135 2 = some (2, 75) := by kernel_rfl
theorem tsz136 : tsize Tryz.prog 136 = some 1 := by kernel_rfl
theorem tag136 : tagg Tryz.prog 136 = some false := by kernel_rfl
theorem tz136 : tzero Tryz.prog 136 = some [.nilf] := by kernel_rfl
theorem tsz137 : tsize Tryz.prog 137 = some 1 := by kernel_rfl
theorem tag137 : tagg Tryz.prog 137 = some false := by kernel_rfl
theorem tz137 : tzero Tryz.prog 137 = some [.nilf] := by kernel_rfl
theorem tsz138 : tsize Tryz.prog 138 = some 1 := by kernel_rfl
theorem tag138 : tagg Tryz.prog 138 = some false := by kernel_rfl
theorem tz138 : tzero Tryz.prog 138 = some [.nilf] := by kernel_rfl
theorem tsz139 : tsize Tryz.prog 139 = some 1 := by kernel_rfl
theorem tag139 : tagg Tryz.prog 139 = some false := by kernel_rfl
theorem tz139 : tzero Tryz.prog 139 = some [.nilf] := by kernel_rfl
theorem tsz140 : tsize Tryz.prog 140 = some 1 := by kernel_rfl
theorem tag140 : tagg Tryz.prog 140 = some false := by kernel_rfl
theorem tz140 : tzero Tryz.prog 140 = some [.nilf] := by kernel_rfl
theorem tsz141 : tsize Tryz.prog 141 = some 1 := by kernel_rfl
theorem tag141 : tagg Tryz.prog 141 = some false := by kernel_rfl
theorem tz141 : tzero Tryz.prog 141 = some [.nilf] := by kernel_rfl
theorem tsz142 : tsize Tryz.prog 142 = some 1 := by kernel_rfl
theorem tag142 : tagg Tryz.prog 142 = some false := by kernel_rfl
theorem tsz143 : tsize Tryz.prog 143 = some 1 := by kernel_rfl
theorem tag143 : tagg Tryz.prog 143 = some false := by kernel_rfl
theorem tz143 : tzero Tryz.prog 143 = some [.nilf] := by kernel_rfl
theorem tsz144 : tsize Tryz.prog 144 = some 1 := by kernel_rfl
theorem tag144 : tagg Tryz.prog 144 = some false := by kernel_rfl
theorem tz144 : tzero Tryz.prog 144 = some [.nilf] := by kernel_rfl
theorem tsz145 : tsize Tryz.prog 145 = some 1 := by kernel_rfl
theorem tag145 : tagg Tryz.prog 145 = some false := by kernel_rfl
theorem tz145 : tzero Tryz.prog 145 = some [.nilf] := by kernel_rfl
theorem tsz146 : tsize Tryz.prog 146 = some 1 := by kernel_rfl
theorem tag146 : tagg Tryz.prog 146 = some false := by kernel_rfl
theorem tz146 : tzero Tryz.prog 146 = some [.nilp] := by kernel_rfl
theorem pt146 : isPt Tryz.prog 146 = true := by kernel_rfl
theorem und146 : Tryz.prog.underlying 146 = some (.pointer 148) := by kernel_rfl
theorem tsz147 : tsize Tryz.prog 147 = some 3 := by kernel_rfl
theorem tag147 : tagg Tryz.prog 147 = some true := by kernel_rfl
theorem tz147 : tzero Tryz.prog 147 = some [.nils, .nils, .nils] := by kernel_rfl
theorem bld147 (parts : List (Nat × V)) : buildV Tryz.prog 147 parts = (fillK [(0, 1), (1, 1), (2, 1)] [.nils, .nils, .nils] parts).map .agg := build_struct (by kernel_rfl) (by kernel_rfl) parts
theorem fo147_0 : fOff Tryz.prog 147 0 = some (0, 75) := by kernel_rfl
theorem fo147_1 : fOff Tryz.prog 147 1 = some (1, 122) := by kernel_rfl
theorem fo147_2 : fOff Tryz.prog 147 2 = some (2, 33) := by kernel_rfl
theorem tsz148 : tsize Tryz.prog 148 = some 3 := by kernel_rfl
theorem tag148 : tagg Tryz.prog 148 = some true := by kernel_rfl
theorem tz148 : tzero Tryz.prog 148 = some [.nils, .nils, .nils] := by kernel_rfl
theorem bld148 (parts : List (Nat × V)) : buildV Tryz.prog 148 parts = (fillK [(0, 1), (1, 1), (2, 1)] [.nils, .nils, .nils] parts).map .agg := build_struct (by kernel_rfl) (by kernel_rfl) parts
theorem fo148_0 : fOff Tryz.prog 148 0 = some (0, 75) := by kernel_rfl
theorem fo148_1 : fOff Tryz.prog 148 1 = some (1, 122) := by kernel_rfl
theorem fo148_2 : fOff Tryz.prog 148 2 = some (2, 33) := by kernel_rfl
theorem tsz149 : tsize Tryz.prog 149 = some 1 := by kernel_rfl
theorem tag149 : tagg Tryz.prog 149 = some false := by kernel_rfl
theorem tz149 : tzero Tryz.prog 149 = some [.nilf] := by kernel_rfl
theorem tsz150 : tsize Tryz.prog 150 = some 1 := by kernel_rfl
theorem tag150 : tagg Tryz.prog 150 = some false := by kernel_rfl
theorem tz150 : tzero Tryz.prog 150 = some [.nilf] := by kernel_rfl
theorem tsz151 : tsize Tryz.prog 151 = some 1 := by kernel_rfl
theorem tag151 : tagg Tryz.prog 151 = some false := by kernel_rfl
theorem tz151 : tzero Tryz.prog 151 = some [.nilf] := by kernel_rfl
theorem tsz152 : tsize Tryz.prog 152 = some 1 := by kernel_rfl
theorem tag152 : tagg Tryz.prog 152 = some false := by kernel_rfl
theorem tz152 : tzero Tryz.prog 152 = some [.int .u64 0] := by kernel_rfl
theorem und152 : Tryz.prog.underlying 152 = some (.int .u64) := by kernel_rfl
theorem tsz153 : tsize Tryz.prog 153 = some 1 := by kernel_rfl
theorem tag153 : tagg Tryz.prog 153 = some false := by kernel_rfl
theorem tsz154 : tsize Tryz.prog 154 = some 1 := by kernel_rfl
theorem tag154 : tagg Tryz.prog 154 = some false := by kernel_rfl
theorem tz154 : tzero Tryz.prog 154 = some [.nilf] := by kernel_rfl
theorem tsz155 : tsize Tryz.prog 155 = some 1 := by kernel_rfl
theorem tag155 : tagg Tryz.prog 155 = some false := by kernel_rfl
theorem tz155 : tzero Tryz.prog 155 = some [.nilf] := by kernel_rfl
theorem tsz156 : tsize Tryz.prog 156 = some 1 := by kernel_rfl
theorem tag156 : tagg Tryz.prog 156 = some false := by kernel_rfl
theorem tz156 : tzero Tryz.prog 156 = some [.nilf] := by kernel_rfl
theorem tsz157 : tsize Tryz.prog 157 = some 1 := by kernel_rfl
theorem tag157 : tagg Tryz.prog 157 = some false := by kernel_rfl
theorem tz157 : tzero Tryz.prog 157 = some [.nilf] := by kernel_rfl
theorem tsz158 : tsize Tryz.prog 158 = some 16 := by kernel_rfl
theorem tag158 : tagg Tryz.prog 158 = some true := by kernel_rfl
theorem tz158 : tzero Tryz.prog 158 = some [.int .i64 0, .int .i64 0, .int .i64 0, .int .i64 0, .int .i64 0, .int .i64 0, .int .i64 0, .int .i64 0, .int .i64 0, .int .i64 0, .int .i64 0, .int .i64 0, .int .i64 0, .int .i64 0, .int .i64 0, .int .i64 0] := by kernel_rfl
theorem tsz159 : tsize Tryz.prog 159 = some 1 := by kernel_rfl
theorem tag159 : tagg Tryz.prog 159 = some false := by kernel_rfl
theorem tz159 : tzero Tryz.prog 159 = some [.nilf] := by kernel_rfl
theorem tsz160 : tsize Tryz.prog 160 = some 1 := by kernel_rfl
theorem tag160 : tagg Tryz.prog 160 = some false := by kernel_rfl
theorem tz160 : tzero Tryz.prog 160 = some [.nilf] := by kernel_rfl
theorem tsz161 : tsize Tryz.prog 161 = some 1 := by kernel_rfl
theorem tag161 : tagg Tryz.prog 161 = some false := by kernel_rfl
theorem tz161 : tzero Tryz.prog 161 = some [.int .i64 0] := by kernel_rfl
theorem und161 : Tryz.prog.underlying 161 = some (.int .i64) := by kernel_rfl
theorem tsz162 : tsize Tryz.prog 162 = some 1 := by kernel_rfl
theorem tag162 : tagg Tryz.prog 162 = some false := by kernel_rfl
theorem tsz163 : tsize Tryz.prog 163 = some 1 := by kernel_rfl
theorem tag163 : tagg Tryz.prog 163 = some false := by kernel_rfl
theorem tz163 : tzero Tryz.prog 163 = some [.nilf] := by kernel_rfl
theorem tsz164 : tsize Tryz.prog 164 = some 1 := by kernel_rfl
theorem tag164 : tagg Tryz.prog 164 = some false := by kernel_rfl
theorem tz164 : tzero Tryz.prog 164 = some [.nilf] := by kernel_rfl
theorem tsz165 : tsize Tryz.prog 165 = some 1 := by kernel_rfl
theorem tag165 : tagg Tryz.prog 165 = some false := by kernel_rfl
theorem tz165 : tzero Tryz.prog 165 = some [.nilf] := by kernel_rfl
theorem tsz166 : tsize Tryz.prog 166 = some 1 := by kernel_rfl
theorem tag166 : tagg Tryz.prog 166 = some false := by kernel_rfl
theorem tsz167 : tsize Tryz.prog 167 = some 1 := by kernel_rfl
theorem tag167 : tagg Tryz.prog 167 = some false := by kernel_rfl
theorem tz167 : tzero Tryz.prog 167 = some [.nilf] := by kernel_rfl
theorem tsz168 : tsize Tryz.prog 168 = some 1 := by kernel_rfl
theorem tag168 : tagg Tryz.prog 168 = some false := by kernel_rfl
theorem tz168 : tzero Tryz.prog 168 = some [.nilf] := by kernel_rfl
theorem tsz169 : tsize Tryz.prog 169 = some 1 := by kernel_rfl
theorem tag169 : tagg Tryz.prog 169 = some false := by kernel_rfl
theorem tz169 : tzero Tryz.prog 169 = some [.int .u32 0] := by kernel_rfl
theorem und169 : Tryz.prog.underlying 169 = some (.int .u32) := by kernel_rfl
theorem tsz170 : tsize Tryz.prog 170 = some 1 := by kernel_rfl
theorem tag170 : tagg Tryz.prog 170 = some false := by kernel_rfl
theorem tz170 : tzero Tryz.prog 170 = some [.nilf] := by kernel_rfl
theorem tsz171 : tsize Tryz.prog 171 = some 1 := by kernel_rfl
theorem tag171 : tagg Tryz.prog 171 = some false := by kernel_rfl
theorem tz171 : tzero Tryz.prog 171 = some [.int .u64 0] := by kernel_rfl
theorem und171 : Tryz.prog.underlying 171 = some (.int .u64) := by kernel_rfl
theorem tsz172 : tsize Tryz.prog 172 = some 1 := by kernel_rfl
theorem tag172 : tagg Tryz.prog 172 = some false := by kernel_rfl
theorem tsz173 : tsize Tryz.prog 173 = some 1 := by kernel_rfl
theorem tag173 : tagg Tryz.prog 173 = some false := by kernel_rfl
theorem tz173 : tzero Tryz.prog 173 = some [.nilf] := by kernel_rfl
theorem tsz174 : tsize Tryz.prog 174 = some 1 := by kernel_rfl
theorem tag174 : tagg Tryz.prog 174 = some false := by kernel_rfl
theorem tsz175 : tsize Tryz.prog 175 = some 1 := by kernel_rfl
theorem tag175 : tagg Tryz.prog 175 = some false := by kernel_rfl
theorem tz175 : tzero Tryz.prog 175 = some [.nilf] := by kernel_rfl
theorem tsz176 : tsize Tryz.prog 176 = some 1 := by kernel_rfl
theorem tag176 : tagg Tryz.prog 176 = some false := by kernel_rfl
theorem tsz177 : tsize Tryz.prog 177 = some 1 := by kernel_rfl
theorem tag177 : tagg Tryz.prog 177 = some false := by kernel_rfl
theorem tz177 : tzero Tryz.prog 177 = some [.nilf] := by kernel_rfl
theorem tsz178 : tsize Tryz.prog 178 = some 1 := by kernel_rfl
theorem tag178 : tagg Tryz.prog 178 = some false := by kernel_rfl
theorem tsz179 : tsize Tryz.prog 179 = some 1 := by kernel_rfl
theorem tag179 : tagg Tryz.prog 179 = some false := by kernel_rfl
theorem tz179 : tzero Tryz.prog 179 = some [.nilf] := by kernel_rfl
theorem tsz180 : tsize Tryz.prog 180 = some 1 := by kernel_rfl
theorem tag180 : tagg Tryz.prog 180 = some false := by kernel_rfl
theorem tz180 : tzero Tryz.prog 180 = some [.int .u64 0] := by kernel_rfl
theorem und180 : Tryz.prog.underlying 180 = some (.int .u64) := by kernel_rfl
theorem tsz181 : tsize Tryz.prog 181 = some 1 := by kernel_rfl
theorem tag181 : tagg Tryz.prog 181 = some false := by kernel_rfl
theorem tz181 : tzero Tryz.prog 181 = some [.nilf] := by kernel_rfl
theorem tsz182 : tsize Tryz.prog 182 = some 1 := by kernel_rfl
theorem tag182 : tagg Tryz.prog 182 = some false := by kernel_rfl
theorem tz182 : tzero Tryz.prog 182 = some [.nilf] := by kernel_rfl
theorem tsz183 : tsize Tryz.prog 183 = some 1 := by kernel_rfl
theorem tag183 : tagg Tryz.prog 183 = some false := by kernel_rfl
theorem tz183 : tzero Tryz.prog 183 = some [.nilf] := by kernel_rfl
theorem tsz184 : tsize Tryz.prog 184 = some 1 := by kernel_rfl
theorem tag184 : tagg Tryz.prog 184 = some false := by kernel_rfl
theorem tz184 : tzero Tryz.prog 184 = some [.nilp] := by kernel_rfl
theorem pt184 : isPt Tryz.prog 184 = true := by kernel_rfl
theorem und184 : Tryz.prog.underlying 184 = some (.pointer 3) := by kernel_rfl
theorem tsz185 : tsize Tryz.prog 185 = some 1 := by kernel_rfl
theorem tag185 : tagg Tryz.prog 185 = some false := by kernel_rfl
theorem tz185 : tzero Tryz.prog 185 = some [.nilf] := by kernel_rfl
theorem tsz186 : tsize Tryz.prog 186 = some 1 := by kernel_rfl
theorem tag186 : tagg Tryz.prog 186 = some false := by kernel_rfl
theorem tz186 : tzero Tryz.prog 186 = some [.nils] := by kernel_rfl
theorem tel186 : telem Tryz.prog 186 = some 9 := by kernel_rfl
theorem isl186 : isSl Tryz.prog 186 = true := by kernel_rfl
theorem E186 : ElemT Tryz.prog 186 1 16 [.str []] := .mk' (e := 9) (by kernel_rfl) (by kernel_rfl) (by kernel_rfl) rfl (by decide) (by decide)
theorem app186 {H : Heap} (x : V) (id sz : Nat) : appendV Tryz.prog none H 186 186 (.one (.sl id 1 sz 0 sz)) x = appK 1 16 H id sz (rowAt H id sz) (srcOf Tryz.prog H 1 186 x) := append_sl E186 x id sz
theorem apn186 {H : Heap} (x : V) : appendV Tryz.prog none H 186 186 (.one .nils) x = appN 1 16 H .nils (srcOf Tryz.prog H 1 186 x) := append_nils E186 x
theorem apz186 {H : Heap} (x : V) : appendV Tryz.prog none H 186 186 (.one .zsl) x = appN 1 16 H .zsl (srcOf Tryz.prog H 1 186 x) := append_zsl E186 x
theorem bs186 {H : Heap} (x : Leaf) : buildSliceV Tryz.prog none H 186 1 [(0, .one x)] = some (.one (.sl H.length 1 1 0 1), H ++ [some (.row 1 [[x]])], []) := build_one E186 x
theorem tsz187 : tsize Tryz.prog 187 = some 1 := by kernel_rfl
theorem tag187 : tagg Tryz.prog 187 = some false := by kernel_rfl
theorem tz187 : tzero Tryz.prog 187 = some [.nilf] := by kernel_rfl
theorem tsz188 : tsize Tryz.prog 188 = some 1 := by kernel_rfl
theorem tag188 : tagg Tryz.prog 188 = some false := by kernel_rfl
theorem tz188 : tzero Tryz.prog 188 = some [.nilp] := by kernel_rfl
theorem pt188 : isPt Tryz.prog 188 = true := by kernel_rfl
theorem und188 : Tryz.prog.underlying 188 = some (.pointer 180) := by kernel_rfl
theorem tsz189 : tsize Tryz.prog 189 = some 1 := by kernel_rfl
theorem tag189 : tagg Tryz.prog 189 = some false := by kernel_rfl
theorem tz189 : tzero Tryz.prog 189 = some [.nilf] := by kernel_rfl
theorem tsz190 : tsize Tryz.prog 190 = some 4 := by kernel_rfl
theorem tag190 : tagg Tryz.prog 190 = some true := by kernel_rfl
theorem tz190 : tzero Tryz.prog 190 = some [.nilp, .nilp, .nilp, .str []] := by kernel_rfl
theorem bld190 (parts : List (Nat × V)) : buildV Tryz.prog 190 parts = (fillK [(0, 1), (1, 1), (2, 1), (3, 1)] [.nilp, .nilp, .nilp, .str []] parts).map .agg := build_struct (by kernel_rfl) (by kernel_rfl) parts
theorem fo190_0 : fOff Tryz.prog 190 0 = some (0, 17) := by kernel_rfl
theorem fo190_1 : fOff Tryz.prog 190 1 = some (1, 17) := by kernel_rfl
theorem fo190_2 : fOff Tryz.prog 190 2 = some (2, 17) := by kernel_rfl
theorem fo190_3 : fOff Tryz.prog 190 3 = some (3, 9) := by kernel_rfl
theorem tsz191 : tsize Tryz.prog 191 = some 4 := by kernel_rfl
theorem tag191 : tagg Tryz.prog 191 = some true := by kernel_rfl
theorem tz191 : tzero Tryz.prog 191 = some [.nilp, .nilp, .nilp, .str []] := by kernel_rfl
theorem bld191 (parts : List (Nat × V)) : buildV Tryz.prog 191 parts = (fillK [(0, 1), (1, 1), (2, 1), (3, 1)] [.nilp, .nilp, .nilp, .str []] parts).map .agg := build_struct (by kernel_rfl) (by kernel_rfl) parts
theorem fo191_0 : fOff Tryz.prog 191 0 = some (0, 17) := by kernel_rfl
theorem fo191_1 : fOff Tryz.prog 191 1 = some (1, 17) := by kernel_rfl
theorem fo191_2 : fOff Tryz.prog 191 2 = some (2, 17) := by kernel_rfl
theorem fo191_3 : fOff Tryz.prog 191 3 = some (3, 9) := by kernel_rfl
theorem tsz192 : tsize Tryz.prog 192 = some 0 := by kernel_rfl
theorem tag192 : tagg Tryz.prog 192 = some true := by kernel_rfl
theorem tz192 : tzero Tryz.prog 192 = some [] := by kernel_rfl
theorem tsz193 : tsize Tryz.prog 193 = some 0 := by kernel_rfl
theorem tag193 : tagg Tryz.prog 193 = some true := by kernel_rfl
theorem tz193 : tzero Tryz.prog 193 = some [] := by kernel_rfl
theorem bld193 (parts : List (Nat × V)) : buildV Tryz.prog 193 parts = (fillK [(0, 0)] [] parts).map .agg := build_struct (by kernel_rfl) (by kernel_rfl) parts
theorem fo193_0 : fOff Tryz.prog 193 0 = some (0, 192) := by kernel_rfl
theorem tsz194 : tsize Tryz.prog 194 = some 0 := by kernel_rfl
theorem tag194 : tagg Tryz.prog 194 = some true := by kernel_rfl
theorem tz194 : tzero Tryz.prog 194 = some [] := by kernel_rfl
theorem bld194 (parts : List (Nat × V)) : buildV Tryz.prog 194 parts = (fillK [(0, 0)] [] parts).map .agg := build_struct (by kernel_rfl) (by kernel_rfl) parts
theorem fo194_0 : fOff Tryz.prog 194 0 = some (0, 192) := by kernel_rfl
theorem tsz195 : tsize Tryz.prog 195 = some 1 := by kernel_rfl
theorem tag195 : tagg Tryz.prog 195 = some false := by kernel_rfl
theorem tz195 : tzero Tryz.prog 195 = some [.int .u8 0] := by kernel_rfl
theorem und195 : Tryz.prog.underlying 195 = some (.int .u8) := by kernel_rfl
theorem tsz196 : tsize Tryz.prog 196 = some 1 := by kernel_rfl
theorem tag196 : tagg Tryz.prog 196 = some false := by kernel_rfl
theorem tz196 : tzero Tryz.prog 196 = some [.int .u8 0] := by kernel_rfl
theorem und196 : Tryz.prog.underlying 196 = some (.int .u8) := by kernel_rfl
theorem tsz197 : tsize Tryz.prog 197 = some 1 := by kernel_rfl
theorem tag197 : tagg Tryz.prog 197 = some false := by kernel_rfl
theorem tz197 : tzero Tryz.prog 197 = some [.nilf] := by kernel_rfl
theorem tsz198 : tsize Tryz.prog 198 = some 1 := by kernel_rfl
theorem tag198 : tagg Tryz.prog 198 = some false := by kernel_rfl
theorem tz198 : tzero Tryz.prog 198 = some [.nilp] := by kernel_rfl
theorem pt198 : isPt Tryz.prog 198 = true := by kernel_rfl
theorem und198 : Tryz.prog.underlying 198 = some (.pointer 5) := by kernel_rfl
theorem tsz199 : tsize Tryz.prog 199 = some 1 := by kernel_rfl
theorem tag199 : tagg Tryz.prog 199 = some false := by kernel_rfl
theorem tz199 : tzero Tryz.prog 199 = some [.int .i32 0] := by kernel_rfl
theorem und199 : Tryz.prog.underlying 199 = some (.int .i32) := by kernel_rfl
theorem tsz200 : tsize Tryz.prog 200 = some 1 := by kernel_rfl
theorem tag200 : tagg Tryz.prog 200 = some false := by kernel_rfl
theorem tz200 : tzero Tryz.prog 200 = some [.int .i32 0] := by kernel_rfl
theorem und200 : Tryz.prog.underlying 200 = some (.int .i32) := by kernel_rfl
theorem tsz201 : tsize Tryz.prog 201 = some 11 := by kernel_rfl
theorem tag201 : tagg Tryz.prog 201 = some true := by kernel_rfl
theorem tz201 : tzero Tryz.prog 201 = some [.int .u64 0, .int .u64 0, .int .u32 0, .int .u8 0, .int .u8 0, .int .u8 0, .int .u8 0, .nilf, .nilp, .int .i32 0, .int .i32 0] := by kernel_rfl
theorem bld201 (parts : List (Nat × V)) : buildV Tryz.prog 201 parts = (fillK [(0, 1), (1, 1), (2, 1), (3, 1), (4, 1), (5, 1), (6, 1), (7, 1), (8, 1), (9, 1), (10, 1)] [.int .u64 0, .int .u64 0, .int .u32 0, .int .u8 0, .int .u8 0, .int .u8 0, .int .u8 0, .nilf, .nilp, .int .i32 0, .int .i32 0] parts).map .agg := build_struct (by kernel_rfl) (by kernel_rfl) parts
theorem fo201_0 : fOff Tryz.prog 201 0 = some (0, 12) := by kernel_rfl
theorem fo201_1 : fOff Tryz.prog 201 1 = some (1, 12) := by kernel_rfl
theorem fo201_2 : fOff Tryz.prog 201 2 = some (2, 169) := by kernel_rfl
theorem fo201_3 : fOff Tryz.prog 201 3 = some (3, 195) := by kernel_rfl
theorem fo201_4 : fOff Tryz.prog 201 4 = some (4, 5) := by kernel_rfl
theorem fo201_5 : fOff Tryz.prog 201 5 = some (5, 5) := by kernel_rfl
theorem fo201_6 : fOff Tryz.prog 201 6 = some (6, 196) := by kernel_rfl
theorem fo201_7 : fOff Tryz.prog 201 7 = some (7, 197) := by kernel_rfl
theorem fo201_8 : fOff Tryz.prog 201 8 = some (8, 198) := by kernel_rfl
theorem fo201_9 : fOff Tryz.prog 201 9 = some (9, 199) := by kernel_rfl
theorem fo201_10 : fOff Tryz.prog 201 10 = some (10, 200) := by kernel_rfl
theorem tsz202 : tsize Tryz.prog 202 = some 11 := by kernel_rfl
theorem tag202 : tagg Tryz.prog 202 = some true := by kernel_rfl
theorem tz202 : tzero Tryz.prog 202 = some [.int .u64 0, .int .u64 0, .int .u32 0, .int .u8 0, .int .u8 0, .int .u8 0, .int .u8 0, .nilf, .nilp, .int .i32 0, .int .i32 0] := by kernel_rfl
theorem bld202 (parts : List (Nat × V)) : buildV Tryz.prog 202 parts = (fillK [(0, 1), (1, 1), (2, 1), (3, 1), (4, 1), (5, 1), (6, 1), (7, 1), (8, 1), (9, 1), (10, 1)] [.int .u64 0, .int .u64 0, .int .u32 0, .int .u8 0, .int .u8 0, .int .u8 0, .int .u8 0, .nilf, .nilp, .int .i32 0, .int .i32 0] parts).map .agg := build_struct (by kernel_rfl) (by kernel_rfl) parts
theorem fo202_0 : fOff Tryz.prog 202 0 = some (0, 12) := by kernel_rfl
theorem fo202_1 : fOff Tryz.prog 202 1 = some (1, 12) := by kernel_rfl
theorem fo202_2 : fOff Tryz.prog 202 2 = some (2, 169) := by kernel_rfl
theorem fo202_3 : fOff Tryz.prog 202 3 = some (3, 195) := by kernel_rfl
theorem fo202_4 : fOff Tryz.prog 202 4 = some (4, 5) := by kernel_rfl
theorem fo202_5 : fOff Tryz.prog 202 5 = some (5, 5) := by kernel_rfl
theorem fo202_6 : fOff Tryz.prog 202 6 = some (6, 196) := by kernel_rfl
theorem fo202_7 : fOff Tryz.prog 202 7 = some (7, 197) := by kernel_rfl
theorem fo202_8 : fOff Tryz.prog 202 8 = some (8, 198) := by kernel_rfl
theorem fo202_9 : fOff Tryz.prog 202 9 = some (9, 199) := by kernel_rfl
theorem fo202_10 : fOff Tryz.prog 202 10 = some (10, 200) := by kernel_rfl
theorem tsz203 : tsize Tryz.prog 203 = some 1 := by kernel_rfl
theorem tag203 : tagg Tryz.prog 203 = some false := by kernel_rfl
theorem tz203 : tzero Tryz.prog 203 = some [.nilp] := by kernel_rfl
theorem cal2 : callee Tryz.prog 2 = true := by kernel_rfl
theorem cal3 : callee Tryz.prog 3 = true := by kernel_rfl
theorem cal4 : callee Tryz.prog 4 = true := by kernel_rfl
theorem cal5 : callee Tryz.prog 5 = true := by kernel_rfl
theorem cal6 : callee Tryz.prog 6 = true := by kernel_rfl
theorem cal7 : callee Tryz.prog 7 = true := by kernel_rfl
theorem cal8 : callee Tryz.prog 8 = true := by kernel_rfl
theorem cal9 : callee Tryz.prog 9 = true := by kernel_rfl
theorem cal10 : callee Tryz.prog 10 = true := by kernel_rfl
theorem cal11 : callee Tryz.prog 11 = true := by kernel_rfl
theorem cal12 : callee Tryz.prog 12 = true := by kernel_rfl
theorem cal13 : callee Tryz.prog 13 = true := by kernel_rfl
theorem cal14 : callee Tryz.prog 14 = true := by kernel_rfl
theorem cal15 : callee Tryz.prog 15 = true := by kernel_rfl
theorem cal16 : callee Tryz.prog 16 = true := by kernel_rfl
theorem cal17 : callee Tryz.prog 17 = true := by kernel_rfl
theorem cal18 : callee Tryz.prog 18 = true := by kernel_rfl
theorem cal19 : callee Tryz.prog 19 = true := by kernel_rfl
theorem cal20 : callee Tryz.prog 20 = true := by kernel_rfl
theorem cal21 : callee Tryz.prog 21 = true := by kernel_rfl
theorem cal22 : callee Tryz.prog 22 = true := by kernel_rfl
theorem cal23 : callee Tryz.prog 23 = true := by kernel_rfl
theorem cal24 : callee Tryz.prog 24 = true := by kernel_rfl
theorem cal25 : callee Tryz.prog 25 = true := by kernel_rfl
theorem cal26 : callee Tryz.prog 26 = true := by kernel_rfl
theorem cal27 : callee Tryz.prog 27 = true := by kernel_rfl
theorem cal28 : callee Tryz.prog 28 = true := by kernel_rfl
theorem cal29 : callee Tryz.prog 29 = true := by kernel_rfl
theorem cal30 : callee Tryz.prog 30 = true := by kernel_rfl
theorem cal31 : callee Tryz.prog 31 = true := by kernel_rfl
theorem cal32 : callee Tryz.prog 32 = true := by kernel_rfl
theorem cal33 : callee Tryz.prog 33 = true := by kernel_rfl
theorem cal34 : callee Tryz.prog 34 = true := by kernel_rfl
theorem cal35 : callee Tryz.prog 35 = true := by kernel_rfl
theorem cal36 : callee Tryz.prog 36 = true := by kernel_rfl
theorem cal37 : callee Tryz.prog 37 = true := by kernel_rfl
theorem cal38 : callee Tryz.prog 38 = true := by kernel_rfl
theorem cal39 : callee Tryz.prog 39 = true := by kernel_rfl
theorem cal40 : callee Tryz.prog 40 = true := by kernel_rfl
theorem cal41 : callee Tryz.prog 41 = true := by kernel_rfl
theorem cal42 : callee Tryz.prog 42 = true := by kernel_rfl
theorem cal43 : callee Tryz.prog 43 = true := by kernel_rfl
theorem cal44 : callee Tryz.prog 44 = true := by kernel_rfl
theorem cal45 : callee Tryz.prog 45 = true := by kernel_rfl
theorem cal46 : callee Tryz.prog 46 = true := by kernel_rfl
theorem cal47 : callee Tryz.prog 47 = true := by kernel_rfl
theorem cal48 : callee Tryz.prog 48 = true := by kernel_rfl
theorem cal49 : callee Tryz.prog 49 = true := by kernel_rfl
theorem cal50 : callee Tryz.prog 50 = true := by kernel_rfl
theorem cal51 : callee Tryz.prog 51 = true := by kernel_rfl
theorem cal52 : callee Tryz.prog 52 = true := by kernel_rfl
theorem cal53 : callee Tryz.prog 53 = true := by kernel_rfl
theorem cal54 : callee Tryz.prog 54 = true := by kernel_rfl
theorem cal55 : callee Tryz.prog 55 = true := by kernel_rfl
theorem cal56 : callee Tryz.prog 56 = true := by kernel_rfl
theorem cal57 : callee Tryz.prog 57 = true := by kernel_rfl
theorem cal58 : callee Tryz.prog 58 = true := by kernel_rfl
theorem cal59 : callee Tryz.prog 59 = true := by kernel_rfl
theorem cal60 : callee Tryz.prog 60 = true := by kernel_rfl
theorem cal61 : callee Tryz.prog 61 = true := by kernel_rfl
theorem cal62 : callee Tryz.prog 62 = true := by kernel_rfl
theorem cal63 : callee Tryz.prog 63 = true := by kernel_rfl
theorem cal64 : callee Tryz.prog 64 = true := by kernel_rfl
theorem cal65 : callee Tryz.prog 65 = true := by kernel_rfl
theorem cal66 : callee Tryz.prog 66 = true := by kernel_rfl
theorem cal67 : callee Tryz.prog 67 = true := by kernel_rfl
theorem cal68 : callee Tryz.prog 68 = true := by kernel_rfl
theorem cal69 : callee Tryz.prog 69 = true := by kernel_rfl
theorem cal70 : callee Tryz.prog 70 = true := by kernel_rfl
theorem cal71 : callee Tryz.prog 71 = true := by kernel_rfl
theorem cal72 : callee Tryz.prog 72 = true := by kernel_rfl
theorem cal73 : callee Tryz.prog 73 = true := by kernel_rfl
theorem cal74 : callee Tryz.prog 74 = true := by kernel_rfl
theorem cal75 : callee Tryz.prog 75 = true := by kernel_rfl
theorem cal76 : callee Tryz.prog 76 = true := by kernel_rfl
theorem cal77 : callee Tryz.prog 77 = true := by kernel_rfl
theorem cal78 : callee Tryz.prog 78 = true := by kernel_rfl
theorem cal79 : callee Tryz.prog 79 = true := by kernel_rfl
theorem cal80 : callee Tryz.prog 80 = true := by kernel_rfl
theorem cal81 : callee Tryz.prog 81 = true := by kernel_rfl
theorem cal82 : callee Tryz.prog 82 = true := by kernel_rfl
theorem cal83 : callee Tryz.prog 83 = true := by kernel_rfl
theorem cal84 : callee Tryz.prog 84 = true := by kernel_rfl
theorem cal85 : callee Tryz.prog 85 = true := by kernel_rfl
theorem cal86 : callee Tryz.prog 86 = true := by kernel_rfl
theorem cal87 : callee Tryz.prog 87 = true := by kernel_rfl
theorem cal88 : callee Tryz.prog 88 = true := by kernel_rfl
theorem cal89 : callee Tryz.prog 89 = true := by kernel_rfl
theorem cal90 : callee Tryz.prog 90 = true := by kernel_rfl
theorem cal91 : callee Tryz.prog 91 = true := by kernel_rfl
theorem cal92 : callee Tryz.prog 92 = true := by kernel_rfl
theorem cal93 : callee Tryz.prog 93 = true := by kernel_rfl
theorem cal94 : callee Tryz.prog 94 = true := by kernel_rfl
theorem cal95 : callee Tryz.prog 95 = true := by kernel_rfl
theorem cal96 : callee Tryz.prog 96 = true := by kernel_rfl
theorem cal97 : callee Tryz.prog 97 = true := by kernel_rfl
theorem cal98 : callee Tryz.prog 98 = true := by kernel_rfl
theorem cal99 : callee Tryz.prog 99 = true := by kernel_rfl
theorem cal100 : callee Tryz.prog 100 = true := by kernel_rfl
theorem cal101 : callee Tryz.prog 101 = true := by kernel_rfl
theorem cal102 : callee Tryz.prog 102 = true := by kernel_rfl
theorem cal103 : callee Tryz.prog 103 = true := by kernel_rfl
theorem cal104 : callee Tryz.prog 104 = true := by kernel_rfl
theorem cal105 : callee Tryz.prog 105 = true := by kernel_rfl
theorem cal106 : callee Tryz.prog 106 = true := by kernel_rfl
theorem cal107 : callee Tryz.prog 107 = true := by kernel_rfl
theorem cal108 : callee Tryz.prog 108 = true := by kernel_rfl
theorem cal109 : callee Tryz.prog 109 = true := by kernel_rfl
theorem cal110 : callee Tryz.prog 110 = true := by kernel_rfl
theorem cal111 : callee Tryz.prog 111 = true := by kernel_rfl
theorem cal112 : callee Tryz.prog 112 = true := by kernel_rfl
theorem cal113 : callee Tryz.prog 113 = true := by kernel_rfl
theorem cal114 : callee Tryz.prog 114 = true := by kernel_rfl
theorem cal115 : callee Tryz.prog 115 = true := by kernel_rfl
theorem cal116 : callee Tryz.prog 116 = true := by kernel_rfl
theorem cal117 : callee Tryz.prog 117 = true := by kernel_rfl
theorem cal118 : callee Tryz.prog 118 = true := by kernel_rfl
theorem cal119 : callee Tryz.prog 119 = true := by kernel_rfl
theorem cal120 : callee Tryz.prog 120 = true := by kernel_rfl
theorem cal121 : callee Tryz.prog 121 = true := by kernel_rfl
theorem cal122 : callee Tryz.prog 122 = true := by kernel_rfl
theorem cal123 : callee Tryz.prog 123 = true := by kernel_rfl
theorem cal124 : callee Tryz.prog 124 = true := by kernel_rfl
theorem cal125 : callee Tryz.prog 125 = true := by kernel_rfl
theorem cal126 : callee Tryz.prog 126 = true := by kernel_rfl
theorem cal127 : callee Tryz.prog 127 = true := by kernel_rfl
theorem cal128 : callee Tryz.prog 128 = true := by kernel_rfl
theorem cal129 : callee Tryz.prog 129 = true := by kernel_rfl
theorem cal130 : callee Tryz.prog 130 = true := by kernel_rfl
theorem cal131 : callee Tryz.prog 131 = true := by kernel_rfl
theorem cal132 : callee Tryz.prog 132 = true := by kernel_rfl
theorem cal133 : callee Tryz.prog 133 = true := by kernel_rfl
theorem cal134 : callee Tryz.prog 134 = true := by kernel_rfl
theorem cal135 : callee Tryz.prog 135 = true := by kernel_rfl
theorem cal136 : callee Tryz.prog 136 = true := by kernel_rfl
theorem cal137 : callee Tryz.prog 137 = true := by kernel_rfl
theorem cal138 : callee Tryz.prog 138 = true := by kernel_rfl
theorem cal139 : callee Tryz.prog 139 = true := by kernel_rfl
theorem cal140 : callee Tryz.prog 140 = true := by kernel_rfl
theorem cal141 : callee Tryz.prog 141 = true := by kernel_rfl
theorem cal142 : callee Tryz.prog 142 = true := by kernel_rfl
theorem cal143 : callee Tryz.prog 143 = true := by kernel_rfl
theorem cal144 : callee Tryz.prog 144 = true := by kernel_rfl
theorem cal145 : callee Tryz.prog 145 = true := by kernel_rfl
theorem cal146 : callee Tryz.prog 146 = true := by kernel_rfl
theorem cal147 : callee Tryz.prog 147 = true := by kernel_rfl
theorem cal148 : callee Tryz.prog 148 = true := by kernel_rfl
theorem cal149 : callee Tryz.prog 149 = true := by kernel_rfl
theorem cal150 : callee Tryz.prog 150 = true := by kernel_rfl
theorem cal151 : callee Tryz.prog 151 = true := by kernel_rfl
theorem cal152 : callee Tryz.prog 152 = true := by kernel_rfl
theorem cal153 : callee Tryz.prog 153 = true := by kernel_rfl
theorem cal154 : callee Tryz.prog 154 = true := by kernel_rfl
theorem cal155 : callee Tryz.prog 155 = true := by kernel_rfl
attribute [simp] tsz0 tag0 tsz1 tag1 tz1 tsz2 tag2 tz2 und2 tsz3 tag3 tz3 und3 tsz4 tag4 tz4 und4 bo4 tsz5 tag5 tz5 und5 tsz6 tag6 tz6 und6 tsz7 tag7 tz7 bld7 eqi7 fo7_0 fo7_1 fo7_2 fo7_3 tsz8 tag8 tz8 bld8 eqi8 fo8_0 fo8_1 fo8_2 fo8_3 tsz9 tag9 tz9 str9 und9 tsz10 tag10 tz10 str10 und10 tsz11 tag11 tz11 str11 und11 tsz12 tag12 tz12 und12 tsz13 tag13 tz13 bld13 fo13_0 fo13_1 tsz14 tag14 tz14 bld14 fo14_0 fo14_1 tsz15 tag15 tz15 pt15 und15 tsz16 tag16 tz16 pt16 und16 tsz17 tag17 tz17 pt17 und17 tsz18 tag18 tz18 bld18 fo18_0 tsz19 tag19 tz19 bld19 fo19_0 tsz20 tag20 tsz21 tag21 tz21 und21 tsz22 tag22 tz22 tel22 isl22 app22 apn22 apz22 bsa22 tsz23 tag23 tz23 bld23 fo23_0 tsz24 tag24 tz24 bld24 fo24_0 tsz25 tag25 tz25 tsz26 tag26 tz26 tsz27 tag27 tz27 und27 tsz28 tag28 tz28 bld28 eqi28 fo28_0 fo28_1 tsz29 tag29 tz29 bld29 eqi29 fo29_0 fo29_1 tsz30 tag30 tz30 tsz31 tag31 tz31 tsz32 tag32 tz32 tsz33 tag33 tz33 tel33 isl33 app33 apn33 apz33 bs33 tsz34 tag34 tz34 tel34 isl34 app34 apn34 apz34 bs34 tsz35 tag35 tz35 bld35 fo35_0 fo35_1 fo35_2 fo35_3 fo35_4 tsz36 tag36 tz36 bld36 fo36_0 fo36_1 fo36_2 fo36_3 fo36_4 tsz37 tag37 tsz38 tag38 tz38 tsz39 tag39 tz39 tsz40 tag40 tz40 mpt40 ism40 tzv3 tsz41 tag41 tz41 tsz42 tag42 tz42 tsz43 tag43 tz43 tsz44 tag44 tz44 tel44 isl44 app44 apn44 apz44 bs44 tsz45 tag45 tz45 tel45 isl45 app45 apn45 apz45 bsa45 tsz46 tag46 tz46 bld46 fo46_0 fo46_1 fo46_2 fo46_3 fo46_4 fo46_5 fo46_6 fo46_7 tsz47 tag47 tz47 bld47 fo47_0 fo47_1 fo47_2 fo47_3 fo47_4 fo47_5 fo47_6 fo47_7 tsz48 tag48 tz48 tsz49 tag49 tz49 tsz50 tag50 tz50 tsz51 tag51 tz51 tsz52 tag52 tsz53 tag53 tz53 tsz54 tag54 tz54 tsz55 tag55 tz55 tsz56 tag56 tz56 tsz57 tag57 tz57 tsz58 tag58 tz58 tsz59 tag59 tz59 tsz60 tag60 tz60 tsz61 tag61 tz61 bld61 eqi61 fo61_0 fo61_1 fo61_2 fo61_3 tsz62 tag62 tz62 bld62 eqi62 fo62_0 fo62_1 fo62_2 fo62_3 tsz63 tag63 tz63 tsz64 tag64 tz64 tsz65 tag65 tz65 tel65 isl65 app65 apn65 apz65 bsa65 tsz66 tag66 tsz67 tag67 tz67 tsz68 tag68 tz68 pt68 und68 tsz69 tag69 tz69 bld69 fo69_0 fo69_1 fo69_2 fo69_3 fo69_4 tsz70 tag70 tz70 bld70 fo70_0 fo70_1 fo70_2 fo70_3 fo70_4 tsz71 tag71 tz71 tsz72 tag72 tz72 tsz73 tag73 tz73 pt73 und73 tsz74 tag74 tz74 pt74 und74 tsz75 tag75 tz75 tel75 isl75 app75 apn75 apz75 bs75 tsz76 tag76 tz76 mpt76 ism76 tzv108 tsz77 tag77 tz77 bld77 fo77_0 fo77_1 fo77_2 fo77_3 fo77_4 fo77_5 tsz78 tag78 tz78 bld78 fo78_0 fo78_1 fo78_2 fo78_3 fo78_4 fo78_5 tsz79 tag79 tz79 tsz80 tag80 tz80 tsz81 tag81 tz81 tsz82 tag82 tz82 tsz83 tag83 tz83 tsz84 tag84 tz84 tel84 isl84 app84 apn84 apz84 bs84 tsz85 tag85 tz85 tsz86 tag86 tz86 tsz87 tag87 tz87 tsz88 tag88 tz88 tsz89 tag89 tz89 bld89 fo89_0 fo89_1 fo89_2 fo89_3 fo89_4 fo89_5 fo89_6 fo89_7 tsz90 tag90 tz90 bld90 fo90_0 fo90_1 fo90_2 fo90_3 fo90_4 fo90_5 fo90_6 fo90_7 tsz91 tag91 tz91 tsz92 tag92 tz92 tsz93 tag93 tz93 bld93 fo93_0 fo93_1 tsz94 tag94 tz94 bld94 fo94_0 fo94_1 tsz95 tag95 tz95 tsz96 tag96 tz96 tsz97 tag97 tz97 tsz98 tag98 tz98 tsz99 tag99 tz99 tsz100 tag100 tz100 tsz101 tag101 tz101 tsz102 tag102 tz102 tsz103 tag103 tz103 mpt103 ism103 tsz104 tag104 tz104 tsz105 tag105 tz105 tsz106 tag106 tz106 tsz107 tag107 tz107 bld107 eqi107 fo107_0 fo107_1 fo107_2 tsz108 tag108 tz108 bld108 eqi108 fo108_0 fo108_1 fo108_2 tsz109 tag109 tsz110 tag110 tz110 tsz111 tag111 tsz112 tag112 tz112 tsz113 tag113 tz113 tsz114 tag114 tz114 tsz115 tag115 tz115 tsz116 tag116 tz116 tsz117 tag117 tz117 bld117 eqi117 fo117_0 fo117_1 tsz118 tag118 tz118 bld118 eqi118 fo118_0 fo118_1 tsz119 tag119 tsz120 tag120 tz120 tsz121 tag121 tz121 tsz122 tag122 tz122 tel122 isl122 app122 apn122 apz122 bs122 tsz123 tag123 tz123 tsz124 tag124 tz124 tsz125 tag125 tz125 tsz126 tag126 tsz127 tag127 tz127 tsz128 tag128 tz128 tsz129 tag129 tz129 tsz130 tag130 tz130 tsz131 tag131 tz131 tsz132 tag132 tz132 tsz133 tag133 tz133 tsz134 tag134 tz134 bld134 fo134_0 fo134_1 fo134_2 tsz135 tag135 tz135 bld135 fo135_0 fo135_1 fo135_2 tsz136 tag136 tz136 tsz137 tag137 tz137 tsz138 tag138 tz138 tsz139 tag139 tz139 tsz140 tag140 tz140 tsz141 tag141 tz141 tsz142 tag142 tsz143 tag143 tz143 tsz144 tag144 tz144 tsz145 tag145 tz145 tsz146 tag146 tz146 pt146 und146 tsz147 tag147 tz147 bld147 fo147_0 fo147_1 fo147_2 tsz148 tag148 tz148 bld148 fo148_0 fo148_1 fo148_2 tsz149 tag149 tz149 tsz150 tag150 tz150 tsz151 tag151 tz151 tsz152 tag152 tz152 und152 tsz153 tag153 tsz154 tag154 tz154 tsz155 tag155 tz155 tsz156 tag156 tz156 tsz157 tag157 tz157 tsz158 tag158 tz158 tsz159 tag159 tz159 tsz160 tag160 tz160 tsz161 tag161 tz161 und161 tsz162 tag162 tsz163 tag163 tz163 tsz164 tag164 tz164 tsz165 tag165 tz165 tsz166 tag166 tsz167 tag167 tz167 tsz168 tag168 tz168 tsz169 tag169 tz169 und169 tsz170 tag170 tz170 tsz171 tag171 tz171 und171 tsz172 tag172 tsz173 tag173 tz173 tsz174 tag174 tsz175 tag175 tz175 tsz176 tag176 tsz177 tag177 tz177 tsz178 tag178 tsz179 tag179 tz179 tsz180 tag180 tz180 und180 tsz181 tag181 tz181 tsz182 tag182 tz182 tsz183 tag183 tz183 tsz184 tag184 tz184 pt184 und184 tsz185 tag185 tz185 tsz186 tag186 tz186 tel186 isl186 app186 apn186 apz186 bs186 tsz187 tag187 tz187 tsz188 tag188 tz188 pt188 und188 tsz189 tag189 tz189 tsz190 tag190 tz190 bld190 fo190_0 fo190_1 fo190_2 fo190_3 tsz191 tag191 tz191 bld191 fo191_0 fo191_1 fo191_2 fo191_3 tsz192 tag192 tz192 tsz193 tag193 tz193 bld193 fo193_0 tsz194 tag194 tz194 bld194 fo194_0 tsz195 tag195 tz195 und195 tsz196 tag196 tz196 und196 tsz197 tag197 tz197 tsz198 tag198 tz198 pt198 und198 tsz199 tag199 tz199 und199 tsz200 tag200 tz200 und200 tsz201 tag201 tz201 bld201 fo201_0 fo201_1 fo201_2 fo201_3 fo201_4 fo201_5 fo201_6 fo201_7 fo201_8 fo201_9 fo201_10 tsz202 tag202 tz202 bld202 fo202_0 fo202_1 fo202_2 fo202_3 fo202_4 fo202_5 fo202_6 fo202_7 fo202_8 fo202_9 fo202_10 tsz203 tag203 tz203 cal2 cal3 cal4 cal5 cal6 cal7 cal8 cal9 cal10 cal11 cal12 cal13 cal14 cal15 cal16 cal17 cal18 cal19 cal20 cal21 cal22 cal23 cal24 cal25 cal26 cal27 cal28 cal29 cal30 cal31 cal32 cal33 cal34 cal35 cal36 cal37 cal38 cal39 cal40 cal41 cal42 cal43 cal44 cal45 cal46 cal47 cal48 cal49 cal50 cal51 cal52 cal53 cal54 cal55 cal56 cal57 cal58 cal59 cal60 cal61 cal62 cal63 cal64 cal65 cal66 cal67 cal68 cal69 cal70 cal71 cal72 cal73 cal74 cal75 cal76 cal77 cal78 cal79 cal80 cal81 cal82 cal83 cal84 cal85 cal86 cal87 cal88 cal89 cal90 cal91 cal92 cal93 cal94 cal95 cal96 cal97 cal98 cal99 cal100 cal101 cal102 cal103 cal104 cal105 cal106 cal107 cal108 cal109 cal110 cal111 cal112 cal113 cal114 cal115 cal116 cal117 cal118 cal119 cal120 cal121 cal122 cal123 cal124 cal125 cal126 cal127 cal128 cal129 cal130 cal131 cal132 cal133 cal134 cal135 cal136 cal137 cal138 cal139 cal140 cal141 cal142 cal143 cal144 cal145 cal146 cal147 cal148 cal149 cal150 cal151 cal152 cal153 cal154 cal155
end Go.Proofs.YtkbdhjfjbkmkcaaGreat.Abs
