/- Facts of the program's types and functions. Printed by ty.py. -/
import Derived.Test.YtdkknhpdjcdmfaaJD30
import Derived.Test.YtdkknhpdjcdmfaaProg
namespace Go.Proofs.Ytdkknhpdjcdmfaa.Abs
open Go Go.Proofs

theorem tsz0 : tsize Try.prog 0 = some 1 := by kernel_rfl
theorem tag0 : tagg Try.prog 0 = some false := by kernel_rfl
theorem tsz1 : tsize Try.prog 1 = some 1 := by kernel_rfl
theorem tag1 : tagg Try.prog 1 = some false := by kernel_rfl
theorem tz1 : tzero Try.prog 1 = some [.nilf] := by kernel_rfl
theorem tsz2 : tsize Try.prog 2 = some 1 := by kernel_rfl
theorem tag2 : tagg Try.prog 2 = some false := by kernel_rfl
theorem tz2 : tzero Try.prog 2 = some [.int .i64 0] := by kernel_rfl
theorem und2 : Try.prog.underlying 2 = some (.int .i64) := by kernel_rfl
theorem tsz3 : tsize Try.prog 3 = some 1 := by kernel_rfl
theorem tag3 : tagg Try.prog 3 = some false := by kernel_rfl
theorem tz3 : tzero Try.prog 3 = some [.int .i64 0] := by kernel_rfl
theorem und3 : Try.prog.underlying 3 = some (.int .i64) := by kernel_rfl
theorem tsz4 : tsize Try.prog 4 = some 1 := by kernel_rfl
theorem tag4 : tagg Try.prog 4 = some false := by kernel_rfl
theorem tz4 : tzero Try.prog 4 = some [.bool false] := by kernel_rfl
theorem und4 : Try.prog.underlying 4 = some .bool := by kernel_rfl
theorem bo4 : isBo Try.prog 4 = true := by kernel_rfl
theorem tsz5 : tsize Try.prog 5 = some 1 := by kernel_rfl
theorem tag5 : tagg Try.prog 5 = some false := by kernel_rfl
theorem tz5 : tzero Try.prog 5 = some [.int .u8 0] := by kernel_rfl
theorem und5 : Try.prog.underlying 5 = some (.int .u8) := by kernel_rfl
theorem tsz6 : tsize Try.prog 6 = some 1 := by kernel_rfl
theorem tag6 : tagg Try.prog 6 = some false := by kernel_rfl
theorem tz6 : tzero Try.prog 6 = some [.int .u8 0] := by kernel_rfl
theorem und6 : Try.prog.underlying 6 = some (.int .u8) := by kernel_rfl
theorem tsz7 : tsize Try.prog 7 = some 4 := by kernel_rfl
theorem tag7 : tagg Try.prog 7 = some true := by kernel_rfl
theorem tz7 : tzero Try.prog 7 = some [.int .i64 0, .int .i64 0, .bool false, .int .u8 0] := by kernel_rfl
theorem bld7 (parts : List (Nat × V)) : buildV Try.prog 7 parts = (fillK [(0, 1), (1, 1), (2, 1), (3, 1)] [.int .i64 0, .int .i64 0, .bool false, .int .u8 0] parts).map .agg := build_struct (by kernel_rfl) (by kernel_rfl) parts
theorem eqi7 (xs ys : List Leaf) : eqV Try.prog 7 (.agg xs) (.agg ys) = eqInfo xs ys [(false, 0, 2), (false, 1, 2), (false, 2, 1), (false, 3, 2)] := eqV_info (by kernel_rfl) xs ys
theorem fo7_0 : fOff Try.prog 7 0 = some (0, 2) := by kernel_rfl
theorem fo7_1 : fOff Try.prog 7 1 = some (1, 3) := by kernel_rfl
theorem fo7_2 : fOff Try.prog 7 2 = some (2, 4) := by kernel_rfl
theorem fo7_3 : fOff Try.prog 7 3 = some (3, 6) := by kernel_rfl
theorem tsz8 : tsize Try.prog 8 = some 4 := by kernel_rfl
theorem tag8 : tagg Try.prog 8 = some true := by kernel_rfl
theorem tz8 : tzero Try.prog 8 = some [.int .i64 0, .int .i64 0, .bool false, .int .u8 0] := by kernel_rfl
theorem bld8 (parts : List (Nat × V)) : buildV Try.prog 8 parts = (fillK [(0, 1), (1, 1), (2, 1), (3, 1)] [.int .i64 0, .int .i64 0, .bool false, .int .u8 0] parts).map .agg := build_struct (by kernel_rfl) (by kernel_rfl) parts
theorem eqi8 (xs ys : List Leaf) : eqV Try.prog 8 (.agg xs) (.agg ys) = eqInfo xs ys [(false, 0, 2), (false, 1, 2), (false, 2, 1), (false, 3, 2)] := eqV_info (by kernel_rfl) xs ys
theorem fo8_0 : fOff Try.prog 8 0 = some (0, 2) := by kernel_rfl
theorem fo8_1 : fOff Try.prog 8 1 = some (1, 3) := by kernel_rfl
theorem fo8_2 : fOff Try.prog 8 2 = some (2, 4) := by kernel_rfl
theorem fo8_3 : fOff Try.prog 8 3 = some (3, 6) := by kernel_rfl
theorem tsz9 : tsize Try.prog 9 = some 1 := by kernel_rfl
theorem tag9 : tagg Try.prog 9 = some false := by kernel_rfl
theorem tz9 : tzero Try.prog 9 = some [.str []] := by kernel_rfl
theorem str9 : isStr Try.prog 9 = true := by kernel_rfl
theorem und9 : Try.prog.underlying 9 = some .string := by kernel_rfl
theorem tsz10 : tsize Try.prog 10 = some 1 := by kernel_rfl
theorem tag10 : tagg Try.prog 10 = some false := by kernel_rfl
theorem tz10 : tzero Try.prog 10 = some [.str []] := by kernel_rfl
theorem str10 : isStr Try.prog 10 = true := by kernel_rfl
theorem und10 : Try.prog.underlying 10 = some .string := by kernel_rfl
theorem tsz11 : tsize Try.prog 11 = some 1 := by kernel_rfl
theorem tag11 : tagg Try.prog 11 = some false := by kernel_rfl
theorem tz11 : tzero Try.prog 11 = some [.str []] := by kernel_rfl
theorem str11 : isStr Try.prog 11 = true := by kernel_rfl
theorem und11 : Try.prog.underlying 11 = some .string := by kernel_rfl
theorem tsz12 : tsize Try.prog 12 = some 1 := by kernel_rfl
theorem tag12 : tagg Try.prog 12 = some false := by kernel_rfl
theorem tz12 : tzero Try.prog 12 = some [.int .u64 0] := by kernel_rfl
theorem und12 : Try.prog.underlying 12 = some (.int .u64) := by kernel_rfl
theorem tsz13 : tsize Try.prog 13 = some 2 := by kernel_rfl
theorem tag13 : tagg Try.prog 13 = some true := by kernel_rfl
theorem tz13 : tzero Try.prog 13 = some [.str [], .int .u64 0] := by kernel_rfl
theorem bld13 (parts : List (Nat × V)) : buildV Try.prog 13 parts = (fillK [(0, 1), (1, 1)] [.str [], .int .u64 0] parts).map .agg := build_struct (by kernel_rfl) (by kernel_rfl) parts
theorem fo13_0 : fOff Try.prog 13 0 = some (0, 9) := by kernel_rfl
theorem fo13_1 : fOff Try.prog 13 1 = some (1, 12) := by kernel_rfl
theorem tsz14 : tsize Try.prog 14 = some 2 := by kernel_rfl
theorem tag14 : tagg Try.prog 14 = some true := by kernel_rfl
theorem tz14 : tzero Try.prog 14 = some [.str [], .int .u64 0] := by kernel_rfl
theorem bld14 (parts : List (Nat × V)) : buildV Try.prog 14 parts = (fillK [(0, 1), (1, 1)] [.str [], .int .u64 0] parts).map .agg := build_struct (by kernel_rfl) (by kernel_rfl) parts
theorem fo14_0 : fOff Try.prog 14 0 = some (0, 9) := by kernel_rfl
theorem fo14_1 : fOff Try.prog 14 1 = some (1, 12) := by kernel_rfl
theorem tsz15 : tsize Try.prog 15 = some 1 := by kernel_rfl
theorem tag15 : tagg Try.prog 15 = some false := by kernel_rfl
theorem tz15 : tzero Try.prog 15 = some [.nilp] := by kernel_rfl
theorem pt15 : isPt Try.prog 15 = true := by kernel_rfl
theorem und15 : Try.prog.underlying 15 = some (.pointer 209) := by kernel_rfl
theorem tsz16 : tsize Try.prog 16 = some 1 := by kernel_rfl
theorem tag16 : tagg Try.prog 16 = some false := by kernel_rfl
theorem tz16 : tzero Try.prog 16 = some [.nilp] := by kernel_rfl
theorem pt16 : isPt Try.prog 16 = true := by kernel_rfl
theorem und16 : Try.prog.underlying 16 = some (.pointer 212) := by kernel_rfl
theorem tsz17 : tsize Try.prog 17 = some 1 := by kernel_rfl
theorem tag17 : tagg Try.prog 17 = some false := by kernel_rfl
theorem tz17 : tzero Try.prog 17 = some [.nilp] := by kernel_rfl
theorem pt17 : isPt Try.prog 17 = true := by kernel_rfl
theorem und17 : Try.prog.underlying 17 = some (.pointer 220) := by kernel_rfl
theorem tsz18 : tsize Try.prog 18 = some 1 := by kernel_rfl
theorem tag18 : tagg Try.prog 18 = some true := by kernel_rfl
theorem tz18 : tzero Try.prog 18 = some [.nilp] := by kernel_rfl
theorem bld18 (parts : List (Nat × V)) : buildV Try.prog 18 parts = (fillK [(0, 1)] [.nilp] parts).map .agg := build_struct (by kernel_rfl) (by kernel_rfl) parts
theorem fo18_0 : fOff Try.prog 18 0 = some (0, 17) := by kernel_rfl
theorem tsz19 : tsize Try.prog 19 = some 1 := by kernel_rfl
theorem tag19 : tagg Try.prog 19 = some true := by kernel_rfl
theorem tz19 : tzero Try.prog 19 = some [.nilp] := by kernel_rfl
theorem bld19 (parts : List (Nat × V)) : buildV Try.prog 19 parts = (fillK [(0, 1)] [.nilp] parts).map .agg := build_struct (by kernel_rfl) (by kernel_rfl) parts
theorem fo19_0 : fOff Try.prog 19 0 = some (0, 17) := by kernel_rfl
theorem tsz20 : tsize Try.prog 20 = some 1 := by kernel_rfl
theorem tag20 : tagg Try.prog 20 = some false := by kernel_rfl
theorem tsz21 : tsize Try.prog 21 = some 1 := by kernel_rfl
theorem tag21 : tagg Try.prog 21 = some false := by kernel_rfl
theorem tz21 : tzero Try.prog 21 = some [.int .i32 0] := by kernel_rfl
theorem und21 : Try.prog.underlying 21 = some (.int .i32) := by kernel_rfl
theorem tsz22 : tsize Try.prog 22 = some 1 := by kernel_rfl
theorem tag22 : tagg Try.prog 22 = some false := by kernel_rfl
theorem tz22 : tzero Try.prog 22 = some [.nils] := by kernel_rfl
theorem tel22 : telem Try.prog 22 = some 33 := by kernel_rfl
theorem isl22 : isSl Try.prog 22 = true := by kernel_rfl
theorem E22 : ElemT Try.prog 22 5 80 [.str [], .nils, .int .i64 0, .nils, .int .i64 0] := .mk' (e := 33) (by kernel_rfl) (by kernel_rfl) (by kernel_rfl) rfl (by decide) (by decide)
theorem app22 {H : Heap} (x : V) (id sz : Nat) : appendV Try.prog none H 22 22 (.one (.sl id 5 sz 0 sz)) x = appK 5 80 H id sz (rowAt H id sz) (srcOf Try.prog H 5 22 x) := append_sl E22 x id sz
theorem apn22 {H : Heap} (x : V) : appendV Try.prog none H 22 22 (.one .nils) x = appN 5 80 H .nils (srcOf Try.prog H 5 22 x) := append_nils E22 x
theorem apz22 {H : Heap} (x : V) : appendV Try.prog none H 22 22 (.one .zsl) x = appN 5 80 H .zsl (srcOf Try.prog H 5 22 x) := append_zsl E22 x
theorem bsa22 {H : Heap} (x0 x1 x2 x3 x4 : Leaf) : buildSliceV Try.prog none H 22 1 [(0, .agg [x0, x1, x2, x3, x4])] = some (.one (.sl H.length 5 1 0 1), H ++ [some (.row 5 [[x0, x1, x2, x3, x4]])], []) := build_agg E22 rfl (by decide)
theorem tsz23 : tsize Try.prog 23 = some 1 := by kernel_rfl
theorem tag23 : tagg Try.prog 23 = some true := by kernel_rfl
theorem tz23 : tzero Try.prog 23 = some [.nils] := by kernel_rfl
theorem bld23 (parts : List (Nat × V)) : buildV Try.prog 23 parts = (fillK [(0, 1)] [.nils] parts).map .agg := build_struct (by kernel_rfl) (by kernel_rfl) parts
theorem fo23_0 : fOff Try.prog 23 0 = some (0, 22) := by kernel_rfl
theorem tsz24 : tsize Try.prog 24 = some 1 := by kernel_rfl
theorem tag24 : tagg Try.prog 24 = some true := by kernel_rfl
theorem tz24 : tzero Try.prog 24 = some [.nils] := by kernel_rfl
theorem bld24 (parts : List (Nat × V)) : buildV Try.prog 24 parts = (fillK [(0, 1)] [.nils] parts).map .agg := build_struct (by kernel_rfl) (by kernel_rfl) parts
theorem fo24_0 : fOff Try.prog 24 0 = some (0, 22) := by kernel_rfl
theorem tsz25 : tsize Try.prog 25 = some 1 := by kernel_rfl
theorem tag25 : tagg Try.prog 25 = some false := by kernel_rfl
theorem tz25 : tzero Try.prog 25 = some [.nilf] := by kernel_rfl
theorem tsz26 : tsize Try.prog 26 = some 1 := by kernel_rfl
theorem tag26 : tagg Try.prog 26 = some false := by kernel_rfl
theorem tz26 : tzero Try.prog 26 = some [.nilf] := by kernel_rfl
theorem tsz27 : tsize Try.prog 27 = some 1 := by kernel_rfl
theorem tag27 : tagg Try.prog 27 = some false := by kernel_rfl
theorem tz27 : tzero Try.prog 27 = some [.nilf] := by kernel_rfl
theorem tsz28 : tsize Try.prog 28 = some 1 := by kernel_rfl
theorem tag28 : tagg Try.prog 28 = some false := by kernel_rfl
theorem tz28 : tzero Try.prog 28 = some [.nils] := by kernel_rfl
theorem tel28 : telem Try.prog 28 = some 30 := by kernel_rfl
theorem isl28 : isSl Try.prog 28 = true := by kernel_rfl
theorem E28 : ElemT Try.prog 28 1 24 [.nils] := .mk' (e := 30) (by kernel_rfl) (by kernel_rfl) (by kernel_rfl) rfl (by decide) (by decide)
theorem app28 {H : Heap} (x : V) (id sz : Nat) : appendV Try.prog none H 28 28 (.one (.sl id 1 sz 0 sz)) x = appK 1 24 H id sz (rowAt H id sz) (srcOf Try.prog H 1 28 x) := append_sl E28 x id sz
theorem apn28 {H : Heap} (x : V) : appendV Try.prog none H 28 28 (.one .nils) x = appN 1 24 H .nils (srcOf Try.prog H 1 28 x) := append_nils E28 x
theorem apz28 {H : Heap} (x : V) : appendV Try.prog none H 28 28 (.one .zsl) x = appN 1 24 H .zsl (srcOf Try.prog H 1 28 x) := append_zsl E28 x
theorem bs28 {H : Heap} (x : Leaf) : buildSliceV Try.prog none H 28 1 [(0, .one x)] = some (.one (.sl H.length 1 1 0 1), H ++ [some (.row 1 [[x]])], []) := build_one E28 x
theorem tsz29 : tsize Try.prog 29 = some 1 := by kernel_rfl
theorem tag29 : tagg Try.prog 29 = some false := by kernel_rfl
theorem tz29 : tzero Try.prog 29 = some [.nilf] := by kernel_rfl
theorem tsz30 : tsize Try.prog 30 = some 1 := by kernel_rfl
theorem tag30 : tagg Try.prog 30 = some false := by kernel_rfl
theorem tz30 : tzero Try.prog 30 = some [.nils] := by kernel_rfl
theorem tel30 : telem Try.prog 30 = some 3 := by kernel_rfl
theorem isl30 : isSl Try.prog 30 = true := by kernel_rfl
theorem E30 : ElemT Try.prog 30 1 8 [.int .i64 0] := .mk' (e := 3) (by kernel_rfl) (by kernel_rfl) (by kernel_rfl) rfl (by decide) (by decide)
theorem app30 {H : Heap} (x : V) (id sz : Nat) : appendV Try.prog none H 30 30 (.one (.sl id 1 sz 0 sz)) x = appK 1 8 H id sz (rowAt H id sz) (srcOf Try.prog H 1 30 x) := append_sl E30 x id sz
theorem apn30 {H : Heap} (x : V) : appendV Try.prog none H 30 30 (.one .nils) x = appN 1 8 H .nils (srcOf Try.prog H 1 30 x) := append_nils E30 x
theorem apz30 {H : Heap} (x : V) : appendV Try.prog none H 30 30 (.one .zsl) x = appN 1 8 H .zsl (srcOf Try.prog H 1 30 x) := append_zsl E30 x
theorem bs30 {H : Heap} (x : Leaf) : buildSliceV Try.prog none H 30 1 [(0, .one x)] = some (.one (.sl H.length 1 1 0 1), H ++ [some (.row 1 [[x]])], []) := build_one E30 x
theorem tsz31 : tsize Try.prog 31 = some 1 := by kernel_rfl
theorem tag31 : tagg Try.prog 31 = some false := by kernel_rfl
theorem tz31 : tzero Try.prog 31 = some [.nils] := by kernel_rfl
theorem tel31 : telem Try.prog 31 = some 43 := by kernel_rfl
theorem isl31 : isSl Try.prog 31 = true := by kernel_rfl
theorem E31 : ElemT Try.prog 31 1 24 [.nils] := .mk' (e := 43) (by kernel_rfl) (by kernel_rfl) (by kernel_rfl) rfl (by decide) (by decide)
theorem app31 {H : Heap} (x : V) (id sz : Nat) : appendV Try.prog none H 31 31 (.one (.sl id 1 sz 0 sz)) x = appK 1 24 H id sz (rowAt H id sz) (srcOf Try.prog H 1 31 x) := append_sl E31 x id sz
theorem apn31 {H : Heap} (x : V) : appendV Try.prog none H 31 31 (.one .nils) x = appN 1 24 H .nils (srcOf Try.prog H 1 31 x) := append_nils E31 x
theorem apz31 {H : Heap} (x : V) : appendV Try.prog none H 31 31 (.one .zsl) x = appN 1 24 H .zsl (srcOf Try.prog H 1 31 x) := append_zsl E31 x
theorem bs31 {H : Heap} (x : Leaf) : buildSliceV Try.prog none H 31 1 [(0, .one x)] = some (.one (.sl H.length 1 1 0 1), H ++ [some (.row 1 [[x]])], []) := build_one E31 x
theorem tsz32 : tsize Try.prog 32 = some 5 := by kernel_rfl
theorem tag32 : tagg Try.prog 32 = some true := by kernel_rfl
theorem tz32 : tzero Try.prog 32 = some [.str [], .nils, .int .i64 0, .nils, .int .i64 0] := by kernel_rfl
theorem bld32 (parts : List (Nat × V)) : buildV Try.prog 32 parts = (fillK [(0, 1), (1, 1), (2, 1), (3, 1), (4, 1)] [.str [], .nils, .int .i64 0, .nils, .int .i64 0] parts).map .agg := build_struct (by kernel_rfl) (by kernel_rfl) parts
theorem fo32_0 : fOff Try.prog 32 0 = some (0, 9) := by kernel_rfl
theorem fo32_1 : fOff Try.prog 32 1 = some (1, 30) := by kernel_rfl
theorem fo32_2 : fOff Try.prog 32 2 = some (2, 3) := by kernel_rfl
theorem fo32_3 : fOff Try.prog 32 3 = some (3, 31) := by kernel_rfl
theorem fo32_4 : fOff Try.prog 32 4 = some (4, 3) := by kernel_rfl
theorem tsz33 : tsize Try.prog 33 = some 5 := by kernel_rfl
theorem tag33 : tagg Try.prog 33 = some true := by kernel_rfl
theorem tz33 : tzero Try.prog 33 = some [.str [], .nils, .int .i64 0, .nils, .int .i64 0] := by kernel_rfl
theorem bld33 (parts : List (Nat × V)) : buildV Try.prog 33 parts = (fillK [(0, 1), (1, 1), (2, 1), (3, 1), (4, 1)] [.str [], .nils, .int .i64 0, .nils, .int .i64 0] parts).map .agg := build_struct (by kernel_rfl) (by kernel_rfl) parts
theorem fo33_0 : fOff Try.prog 33 0 = some (0, 9) := by kernel_rfl
theorem fo33_1 : fOff Try.prog 33 1 = some (1, 30) := by kernel_rfl
theorem fo33_2 : fOff Try.prog 33 2 = some (2, 3) := by kernel_rfl
theorem fo33_3 : fOff Try.prog 33 3 = some (3, 31) := by kernel_rfl
theorem fo33_4 : fOff Try.prog 33 4 = some (4, 3) := by kernel_rfl
theorem tsz34 : tsize Try.prog 34 = some 1 := by kernel_rfl
theorem tag34 : tagg Try.prog 34 = some false := by kernel_rfl
theorem tz34 : tzero Try.prog 34 = some [.nilf] := by kernel_rfl
theorem tsz35 : tsize Try.prog 35 = some 1 := by kernel_rfl
theorem tag35 : tagg Try.prog 35 = some false := by kernel_rfl
theorem tz35 : tzero Try.prog 35 = some [.nilf] := by kernel_rfl
theorem tsz36 : tsize Try.prog 36 = some 1 := by kernel_rfl
theorem tag36 : tagg Try.prog 36 = some false := by kernel_rfl
theorem tz36 : tzero Try.prog 36 = some [.nilf] := by kernel_rfl
theorem tsz37 : tsize Try.prog 37 = some 1 := by kernel_rfl
theorem tag37 : tagg Try.prog 37 = some false := by kernel_rfl
theorem tz37 : tzero Try.prog 37 = some [.int .i64 0] := by kernel_rfl
theorem und37 : Try.prog.underlying 37 = some (.int .i64) := by kernel_rfl
theorem tsz38 : tsize Try.prog 38 = some 2 := by kernel_rfl
theorem tag38 : tagg Try.prog 38 = some true := by kernel_rfl
theorem tz38 : tzero Try.prog 38 = some [.int .i64 0, .int .i64 0] := by kernel_rfl
theorem bld38 (parts : List (Nat × V)) : buildV Try.prog 38 parts = (fillK [(0, 1), (1, 1)] [.int .i64 0, .int .i64 0] parts).map .agg := build_struct (by kernel_rfl) (by kernel_rfl) parts
theorem eqi38 (xs ys : List Leaf) : eqV Try.prog 38 (.agg xs) (.agg ys) = eqInfo xs ys [(false, 0, 2), (false, 1, 2)] := eqV_info (by kernel_rfl) xs ys
theorem fo38_0 : fOff Try.prog 38 0 = some (0, 37) := by kernel_rfl
theorem fo38_1 : fOff Try.prog 38 1 = some (1, 3) := by kernel_rfl
theorem tsz39 : tsize Try.prog 39 = some 2 := by kernel_rfl
theorem tag39 : tagg Try.prog 39 = some true := by kernel_rfl
theorem tz39 : tzero Try.prog 39 = some [.int .i64 0, .int .i64 0] := by kernel_rfl
theorem bld39 (parts : List (Nat × V)) : buildV Try.prog 39 parts = (fillK [(0, 1), (1, 1)] [.int .i64 0, .int .i64 0] parts).map .agg := build_struct (by kernel_rfl) (by kernel_rfl) parts
theorem eqi39 (xs ys : List Leaf) : eqV Try.prog 39 (.agg xs) (.agg ys) = eqInfo xs ys [(false, 0, 2), (false, 1, 2)] := eqV_info (by kernel_rfl) xs ys
theorem fo39_0 : fOff Try.prog 39 0 = some (0, 37) := by kernel_rfl
theorem fo39_1 : fOff Try.prog 39 1 = some (1, 3) := by kernel_rfl
theorem tsz40 : tsize Try.prog 40 = some 1 := by kernel_rfl
theorem tag40 : tagg Try.prog 40 = some false := by kernel_rfl
theorem tz40 : tzero Try.prog 40 = some [.nilf] := by kernel_rfl
theorem tsz41 : tsize Try.prog 41 = some 8 := by kernel_rfl
theorem tag41 : tagg Try.prog 41 = some true := by kernel_rfl
theorem tz41 : tzero Try.prog 41 = some [.int .i64 0, .int .i64 0, .int .i64 0, .int .i64 0, .nils, .nils, .str [], .int .i64 0] := by kernel_rfl
theorem bld41 (parts : List (Nat × V)) : buildV Try.prog 41 parts = (fillK [(0, 1), (1, 1), (2, 1), (3, 1), (4, 1), (5, 1), (6, 1), (7, 1)] [.int .i64 0, .int .i64 0, .int .i64 0, .int .i64 0, .nils, .nils, .str [], .int .i64 0] parts).map .agg := build_struct (by kernel_rfl) (by kernel_rfl) parts
theorem fo41_0 : fOff Try.prog 41 0 = some (0, 3) := by kernel_rfl
theorem fo41_1 : fOff Try.prog 41 1 = some (1, 3) := by kernel_rfl
theorem fo41_2 : fOff Try.prog 41 2 = some (2, 2) := by kernel_rfl
theorem fo41_3 : fOff Try.prog 41 3 = some (3, 3) := by kernel_rfl
theorem fo41_4 : fOff Try.prog 41 4 = some (4, 30) := by kernel_rfl
theorem fo41_5 : fOff Try.prog 41 5 = some (5, 30) := by kernel_rfl
theorem fo41_6 : fOff Try.prog 41 6 = some (6, 9) := by kernel_rfl
theorem fo41_7 : fOff Try.prog 41 7 = some (7, 3) := by kernel_rfl
theorem tsz42 : tsize Try.prog 42 = some 8 := by kernel_rfl
theorem tag42 : tagg Try.prog 42 = some true := by kernel_rfl
theorem tz42 : tzero Try.prog 42 = some [.int .i64 0, .int .i64 0, .int .i64 0, .int .i64 0, .nils, .nils, .str [], .int .i64 0] := by kernel_rfl
theorem bld42 (parts : List (Nat × V)) : buildV Try.prog 42 parts = (fillK [(0, 1), (1, 1), (2, 1), (3, 1), (4, 1), (5, 1), (6, 1), (7, 1)] [.int .i64 0, .int .i64 0, .int .i64 0, .int .i64 0, .nils, .nils, .str [], .int .i64 0] parts).map .agg := build_struct (by kernel_rfl) (by kernel_rfl) parts
theorem fo42_0 : fOff Try.prog 42 0 = some (0, 3) := by kernel_rfl
theorem fo42_1 : fOff Try.prog 42 1 = some (1, 3) := by kernel_rfl
theorem fo42_2 : fOff Try.prog 42 2 = some (2, 2) := by kernel_rfl
theorem fo42_3 : fOff Try.prog 42 3 = some (3, 3) := by kernel_rfl
theorem fo42_4 : fOff Try.prog 42 4 = some (4, 30) := by kernel_rfl
theorem fo42_5 : fOff Try.prog 42 5 = some (5, 30) := by kernel_rfl
theorem fo42_6 : fOff Try.prog 42 6 = some (6, 9) := by kernel_rfl
theorem fo42_7 : fOff Try.prog 42 7 = some (7, 3) := by kernel_rfl
theorem tsz43 : tsize Try.prog 43 = some 1 := by kernel_rfl
theorem tag43 : tagg Try.prog 43 = some false := by kernel_rfl
theorem tz43 : tzero Try.prog 43 = some [.nils] := by kernel_rfl
theorem tel43 : telem Try.prog 43 = some 42 := by kernel_rfl
theorem isl43 : isSl Try.prog 43 = true := by kernel_rfl
theorem E43 : ElemT Try.prog 43 8 104 [.int .i64 0, .int .i64 0, .int .i64 0, .int .i64 0, .nils, .nils, .str [], .int .i64 0] := .mk' (e := 42) (by kernel_rfl) (by kernel_rfl) (by kernel_rfl) rfl (by decide) (by decide)
theorem app43 {H : Heap} (x : V) (id sz : Nat) : appendV Try.prog none H 43 43 (.one (.sl id 8 sz 0 sz)) x = appK 8 104 H id sz (rowAt H id sz) (srcOf Try.prog H 8 43 x) := append_sl E43 x id sz
theorem apn43 {H : Heap} (x : V) : appendV Try.prog none H 43 43 (.one .nils) x = appN 8 104 H .nils (srcOf Try.prog H 8 43 x) := append_nils E43 x
theorem apz43 {H : Heap} (x : V) : appendV Try.prog none H 43 43 (.one .zsl) x = appN 8 104 H .zsl (srcOf Try.prog H 8 43 x) := append_zsl E43 x
theorem bsa43 {H : Heap} (x0 x1 x2 x3 x4 x5 x6 x7 : Leaf) : buildSliceV Try.prog none H 43 1 [(0, .agg [x0, x1, x2, x3, x4, x5, x6, x7])] = some (.one (.sl H.length 8 1 0 1), H ++ [some (.row 8 [[x0, x1, x2, x3, x4, x5, x6, x7]])], []) := build_agg E43 rfl (by decide)
theorem tsz44 : tsize Try.prog 44 = some 1 := by kernel_rfl
theorem tag44 : tagg Try.prog 44 = some false := by kernel_rfl
theorem tz44 : tzero Try.prog 44 = some [.nils] := by kernel_rfl
theorem tel44 : telem Try.prog 44 = some 51 := by kernel_rfl
theorem isl44 : isSl Try.prog 44 = true := by kernel_rfl
theorem E44 : ElemT Try.prog 44 4 64 [.int .i64 0, .int .i64 0, .nils, .nils] := .mk' (e := 51) (by kernel_rfl) (by kernel_rfl) (by kernel_rfl) rfl (by decide) (by decide)
theorem app44 {H : Heap} (x : V) (id sz : Nat) : appendV Try.prog none H 44 44 (.one (.sl id 4 sz 0 sz)) x = appK 4 64 H id sz (rowAt H id sz) (srcOf Try.prog H 4 44 x) := append_sl E44 x id sz
theorem apn44 {H : Heap} (x : V) : appendV Try.prog none H 44 44 (.one .nils) x = appN 4 64 H .nils (srcOf Try.prog H 4 44 x) := append_nils E44 x
theorem apz44 {H : Heap} (x : V) : appendV Try.prog none H 44 44 (.one .zsl) x = appN 4 64 H .zsl (srcOf Try.prog H 4 44 x) := append_zsl E44 x
theorem bsa44 {H : Heap} (x0 x1 x2 x3 : Leaf) : buildSliceV Try.prog none H 44 1 [(0, .agg [x0, x1, x2, x3])] = some (.one (.sl H.length 4 1 0 1), H ++ [some (.row 4 [[x0, x1, x2, x3]])], []) := build_agg E44 rfl (by decide)
theorem tsz45 : tsize Try.prog 45 = some 2 := by kernel_rfl
theorem tag45 : tagg Try.prog 45 = some true := by kernel_rfl
theorem tz45 : tzero Try.prog 45 = some [.nils, .nils] := by kernel_rfl
theorem bld45 (parts : List (Nat × V)) : buildV Try.prog 45 parts = (fillK [(0, 1), (1, 1)] [.nils, .nils] parts).map .agg := build_struct (by kernel_rfl) (by kernel_rfl) parts
theorem fo45_0 : fOff Try.prog 45 0 = some (0, 30) := by kernel_rfl
theorem fo45_1 : fOff Try.prog 45 1 = some (1, 44) := by kernel_rfl
theorem tsz46 : tsize Try.prog 46 = some 2 := by kernel_rfl
theorem tag46 : tagg Try.prog 46 = some true := by kernel_rfl
theorem tz46 : tzero Try.prog 46 = some [.nils, .nils] := by kernel_rfl
theorem bld46 (parts : List (Nat × V)) : buildV Try.prog 46 parts = (fillK [(0, 1), (1, 1)] [.nils, .nils] parts).map .agg := build_struct (by kernel_rfl) (by kernel_rfl) parts
theorem fo46_0 : fOff Try.prog 46 0 = some (0, 30) := by kernel_rfl
theorem fo46_1 : fOff Try.prog 46 1 = some (1, 44) := by kernel_rfl
theorem tsz47 : tsize Try.prog 47 = some 1 := by kernel_rfl
theorem tag47 : tagg Try.prog 47 = some false := by kernel_rfl
theorem tz47 : tzero Try.prog 47 = some [.nilf] := by kernel_rfl
theorem tsz48 : tsize Try.prog 48 = some 1 := by kernel_rfl
theorem tag48 : tagg Try.prog 48 = some false := by kernel_rfl
theorem tz48 : tzero Try.prog 48 = some [.nilf] := by kernel_rfl
theorem tsz49 : tsize Try.prog 49 = some 1 := by kernel_rfl
theorem tag49 : tagg Try.prog 49 = some false := by kernel_rfl
theorem tz49 : tzero Try.prog 49 = some [.nils] := by kernel_rfl
theorem tel49 : telem Try.prog 49 = some 91 := by kernel_rfl
theorem isl49 : isSl Try.prog 49 = true := by kernel_rfl
theorem E49 : ElemT Try.prog 49 2 16 [.int .i64 0, .int .i64 0] := .mk' (e := 91) (by kernel_rfl) (by kernel_rfl) (by kernel_rfl) rfl (by decide) (by decide)
theorem app49 {H : Heap} (x : V) (id sz : Nat) : appendV Try.prog none H 49 49 (.one (.sl id 2 sz 0 sz)) x = appK 2 16 H id sz (rowAt H id sz) (srcOf Try.prog H 2 49 x) := append_sl E49 x id sz
theorem apn49 {H : Heap} (x : V) : appendV Try.prog none H 49 49 (.one .nils) x = appN 2 16 H .nils (srcOf Try.prog H 2 49 x) := append_nils E49 x
theorem apz49 {H : Heap} (x : V) : appendV Try.prog none H 49 49 (.one .zsl) x = appN 2 16 H .zsl (srcOf Try.prog H 2 49 x) := append_zsl E49 x
theorem bsa49 {H : Heap} (x0 x1 : Leaf) : buildSliceV Try.prog none H 49 1 [(0, .agg [x0, x1])] = some (.one (.sl H.length 2 1 0 1), H ++ [some (.row 2 [[x0, x1]])], []) := build_agg E49 rfl (by decide)
theorem tsz50 : tsize Try.prog 50 = some 4 := by kernel_rfl
theorem tag50 : tagg Try.prog 50 = some true := by kernel_rfl
theorem tz50 : tzero Try.prog 50 = some [.int .i64 0, .int .i64 0, .nils, .nils] := by kernel_rfl
theorem bld50 (parts : List (Nat × V)) : buildV Try.prog 50 parts = (fillK [(0, 1), (1, 1), (2, 1), (3, 1)] [.int .i64 0, .int .i64 0, .nils, .nils] parts).map .agg := build_struct (by kernel_rfl) (by kernel_rfl) parts
theorem fo50_0 : fOff Try.prog 50 0 = some (0, 2) := by kernel_rfl
theorem fo50_1 : fOff Try.prog 50 1 = some (1, 3) := by kernel_rfl
theorem fo50_2 : fOff Try.prog 50 2 = some (2, 30) := by kernel_rfl
theorem fo50_3 : fOff Try.prog 50 3 = some (3, 49) := by kernel_rfl
theorem tsz51 : tsize Try.prog 51 = some 4 := by kernel_rfl
theorem tag51 : tagg Try.prog 51 = some true := by kernel_rfl
theorem tz51 : tzero Try.prog 51 = some [.int .i64 0, .int .i64 0, .nils, .nils] := by kernel_rfl
theorem bld51 (parts : List (Nat × V)) : buildV Try.prog 51 parts = (fillK [(0, 1), (1, 1), (2, 1), (3, 1)] [.int .i64 0, .int .i64 0, .nils, .nils] parts).map .agg := build_struct (by kernel_rfl) (by kernel_rfl) parts
theorem fo51_0 : fOff Try.prog 51 0 = some (0, 2) := by kernel_rfl
theorem fo51_1 : fOff Try.prog 51 1 = some (1, 3) := by kernel_rfl
theorem fo51_2 : fOff Try.prog 51 2 = some (2, 30) := by kernel_rfl
theorem fo51_3 : fOff Try.prog 51 3 = some (3, 49) := by kernel_rfl
theorem tsz52 : tsize Try.prog 52 = some 1 := by kernel_rfl
theorem tag52 : tagg Try.prog 52 = some false := by kernel_rfl
theorem tsz53 : tsize Try.prog 53 = some 1 := by kernel_rfl
theorem tag53 : tagg Try.prog 53 = some false := by kernel_rfl
theorem tz53 : tzero Try.prog 53 = some [.nilf] := by kernel_rfl
theorem tsz54 : tsize Try.prog 54 = some 1 := by kernel_rfl
theorem tag54 : tagg Try.prog 54 = some false := by kernel_rfl
theorem tz54 : tzero Try.prog 54 = some [.nilf] := by kernel_rfl
theorem tsz55 : tsize Try.prog 55 = some 1 := by kernel_rfl
theorem tag55 : tagg Try.prog 55 = some false := by kernel_rfl
theorem tz55 : tzero Try.prog 55 = some [.nilf] := by kernel_rfl
theorem tsz56 : tsize Try.prog 56 = some 1 := by kernel_rfl
theorem tag56 : tagg Try.prog 56 = some false := by kernel_rfl
theorem tz56 : tzero Try.prog 56 = some [.nils] := by kernel_rfl
theorem tel56 : telem Try.prog 56 = some 5 := by kernel_rfl
theorem isl56 : isSl Try.prog 56 = true := by kernel_rfl
theorem E56 : ElemT Try.prog 56 1 1 [.int .u8 0] := .mk' (e := 5) (by kernel_rfl) (by kernel_rfl) (by kernel_rfl) rfl (by decide) (by decide)
theorem app56 {H : Heap} (x : V) (id sz : Nat) : appendV Try.prog none H 56 56 (.one (.sl id 1 sz 0 sz)) x = appK 1 1 H id sz (rowAt H id sz) (srcOf Try.prog H 1 56 x) := append_sl E56 x id sz
theorem apn56 {H : Heap} (x : V) : appendV Try.prog none H 56 56 (.one .nils) x = appN 1 1 H .nils (srcOf Try.prog H 1 56 x) := append_nils E56 x
theorem apz56 {H : Heap} (x : V) : appendV Try.prog none H 56 56 (.one .zsl) x = appN 1 1 H .zsl (srcOf Try.prog H 1 56 x) := append_zsl E56 x
theorem bs56 {H : Heap} (x : Leaf) : buildSliceV Try.prog none H 56 1 [(0, .one x)] = some (.one (.sl H.length 1 1 0 1), H ++ [some (.row 1 [[x]])], []) := build_one E56 x
theorem tsz57 : tsize Try.prog 57 = some 1 := by kernel_rfl
theorem tag57 : tagg Try.prog 57 = some false := by kernel_rfl
theorem tsz58 : tsize Try.prog 58 = some 1 := by kernel_rfl
theorem tag58 : tagg Try.prog 58 = some false := by kernel_rfl
theorem tz58 : tzero Try.prog 58 = some [.nilf] := by kernel_rfl
theorem tsz59 : tsize Try.prog 59 = some 1 := by kernel_rfl
theorem tag59 : tagg Try.prog 59 = some false := by kernel_rfl
theorem tz59 : tzero Try.prog 59 = some [.nilf] := by kernel_rfl
theorem tsz60 : tsize Try.prog 60 = some 1 := by kernel_rfl
theorem tag60 : tagg Try.prog 60 = some false := by kernel_rfl
theorem tz60 : tzero Try.prog 60 = some [.nilf] := by kernel_rfl
theorem tsz61 : tsize Try.prog 61 = some 1 := by kernel_rfl
theorem tag61 : tagg Try.prog 61 = some false := by kernel_rfl
theorem tz61 : tzero Try.prog 61 = some [.nilf] := by kernel_rfl
theorem tsz62 : tsize Try.prog 62 = some 1 := by kernel_rfl
theorem tag62 : tagg Try.prog 62 = some false := by kernel_rfl
theorem tz62 : tzero Try.prog 62 = some [.nilf] := by kernel_rfl
theorem tsz63 : tsize Try.prog 63 = some 1 := by kernel_rfl
theorem tag63 : tagg Try.prog 63 = some false := by kernel_rfl
theorem tz63 : tzero Try.prog 63 = some [.nilp] := by kernel_rfl
theorem pt63 : isPt Try.prog 63 = true := by kernel_rfl
theorem und63 : Try.prog.underlying 63 = some (.pointer 108) := by kernel_rfl
theorem tsz64 : tsize Try.prog 64 = some 1 := by kernel_rfl
theorem tag64 : tagg Try.prog 64 = some false := by kernel_rfl
theorem tz64 : tzero Try.prog 64 = some [.nilf] := by kernel_rfl
theorem tsz65 : tsize Try.prog 65 = some 1 := by kernel_rfl
theorem tag65 : tagg Try.prog 65 = some false := by kernel_rfl
theorem tz65 : tzero Try.prog 65 = some [.nils] := by kernel_rfl
theorem tel65 : telem Try.prog 65 = some 111 := by kernel_rfl
theorem isl65 : isSl Try.prog 65 = true := by kernel_rfl
theorem E65 : ElemT Try.prog 65 1 24 [.nils] := .mk' (e := 111) (by kernel_rfl) (by kernel_rfl) (by kernel_rfl) rfl (by decide) (by decide)
theorem app65 {H : Heap} (x : V) (id sz : Nat) : appendV Try.prog none H 65 65 (.one (.sl id 1 sz 0 sz)) x = appK 1 24 H id sz (rowAt H id sz) (srcOf Try.prog H 1 65 x) := append_sl E65 x id sz
theorem apn65 {H : Heap} (x : V) : appendV Try.prog none H 65 65 (.one .nils) x = appN 1 24 H .nils (srcOf Try.prog H 1 65 x) := append_nils E65 x
theorem apz65 {H : Heap} (x : V) : appendV Try.prog none H 65 65 (.one .zsl) x = appN 1 24 H .zsl (srcOf Try.prog H 1 65 x) := append_zsl E65 x
theorem bs65 {H : Heap} (x : Leaf) : buildSliceV Try.prog none H 65 1 [(0, .one x)] = some (.one (.sl H.length 1 1 0 1), H ++ [some (.row 1 [[x]])], []) := build_one E65 x
theorem tsz66 : tsize Try.prog 66 = some 1 := by kernel_rfl
theorem tag66 : tagg Try.prog 66 = some false := by kernel_rfl
theorem tz66 : tzero Try.prog 66 = some [.nilf] := by kernel_rfl
theorem tsz67 : tsize Try.prog 67 = some 1 := by kernel_rfl
theorem tag67 : tagg Try.prog 67 = some false := by kernel_rfl
theorem tz67 : tzero Try.prog 67 = some [.nilf] := by kernel_rfl
theorem tsz68 : tsize Try.prog 68 = some 1 := by kernel_rfl
theorem tag68 : tagg Try.prog 68 = some false := by kernel_rfl
theorem tz68 : tzero Try.prog 68 = some [.nilf] := by kernel_rfl
theorem tsz69 : tsize Try.prog 69 = some 1 := by kernel_rfl
theorem tag69 : tagg Try.prog 69 = some false := by kernel_rfl
theorem tz69 : tzero Try.prog 69 = some [.nilf] := by kernel_rfl
theorem tsz70 : tsize Try.prog 70 = some 1 := by kernel_rfl
theorem tag70 : tagg Try.prog 70 = some false := by kernel_rfl
theorem tz70 : tzero Try.prog 70 = some [.nilf] := by kernel_rfl
theorem tsz71 : tsize Try.prog 71 = some 1 := by kernel_rfl
theorem tag71 : tagg Try.prog 71 = some false := by kernel_rfl
theorem tz71 : tzero Try.prog 71 = some [.nilf] := by kernel_rfl
theorem tsz72 : tsize Try.prog 72 = some 1 := by kernel_rfl
theorem tag72 : tagg Try.prog 72 = some false := by kernel_rfl
theorem tz72 : tzero Try.prog 72 = some [.nilf] := by kernel_rfl
theorem tsz73 : tsize Try.prog 73 = some 1 := by kernel_rfl
theorem tag73 : tagg Try.prog 73 = some false := by kernel_rfl
theorem tz73 : tzero Try.prog 73 = some [.nilf] := by kernel_rfl
theorem tsz74 : tsize Try.prog 74 = some 1 := by kernel_rfl
theorem tag74 : tagg Try.prog 74 = some false := by kernel_rfl
theorem tz74 : tzero Try.prog 74 = some [.nilf] := by kernel_rfl
theorem tsz75 : tsize Try.prog 75 = some 1 := by kernel_rfl
theorem tag75 : tagg Try.prog 75 = some false := by kernel_rfl
theorem tz75 : tzero Try.prog 75 = some [.nilf] := by kernel_rfl
theorem tsz76 : tsize Try.prog 76 = some 1 := by kernel_rfl
theorem tag76 : tagg Try.prog 76 = some false := by kernel_rfl
theorem tz76 : tzero Try.prog 76 = some [.nilf] := by kernel_rfl
theorem tsz77 : tsize Try.prog 77 = some 1 := by kernel_rfl
theorem tag77 : tagg Try.prog 77 = some false := by kernel_rfl
theorem tz77 : tzero Try.prog 77 = some [.nilf] := by kernel_rfl
theorem tsz78 : tsize Try.prog 78 = some 1 := by kernel_rfl
theorem tag78 : tagg Try.prog 78 = some false := by kernel_rfl
theorem tz78 : tzero Try.prog 78 = some [.nilf] := by kernel_rfl
theorem tsz79 : tsize Try.prog 79 = some 1 := by kernel_rfl
theorem tag79 : tagg Try.prog 79 = some false := by kernel_rfl
theorem tz79 : tzero Try.prog 79 = some [.nilf] := by kernel_rfl
theorem tsz80 : tsize Try.prog 80 = some 1 := by kernel_rfl
theorem tag80 : tagg Try.prog 80 = some false := by kernel_rfl
theorem tz80 : tzero Try.prog 80 = some [.nilf] := by kernel_rfl
theorem tsz81 : tsize Try.prog 81 = some 1 := by kernel_rfl
theorem tag81 : tagg Try.prog 81 = some false := by kernel_rfl
theorem tsz82 : tsize Try.prog 82 = some 1 := by kernel_rfl
theorem tag82 : tagg Try.prog 82 = some false := by kernel_rfl
theorem tz82 : tzero Try.prog 82 = some [.nilf] := by kernel_rfl
theorem tsz83 : tsize Try.prog 83 = some 1 := by kernel_rfl
theorem tag83 : tagg Try.prog 83 = some false := by kernel_rfl
theorem tz83 : tzero Try.prog 83 = some [.nilf] := by kernel_rfl
theorem tsz84 : tsize Try.prog 84 = some 1 := by kernel_rfl
theorem tag84 : tagg Try.prog 84 = some false := by kernel_rfl
theorem tz84 : tzero Try.prog 84 = some [.nilf] := by kernel_rfl
theorem tsz85 : tsize Try.prog 85 = some 1 := by kernel_rfl
theorem tag85 : tagg Try.prog 85 = some false := by kernel_rfl
theorem tz85 : tzero Try.prog 85 = some [.nilf] := by kernel_rfl
theorem tsz86 : tsize Try.prog 86 = some 1 := by kernel_rfl
theorem tag86 : tagg Try.prog 86 = some false := by kernel_rfl
theorem tz86 : tzero Try.prog 86 = some [.nilf] := by kernel_rfl
theorem tsz87 : tsize Try.prog 87 = some 1 := by kernel_rfl
theorem tag87 : tagg Try.prog 87 = some false := by kernel_rfl
theorem tz87 : tzero Try.prog 87 = some [.nilf] := by kernel_rfl
theorem tsz88 : tsize Try.prog 88 = some 1 := by kernel_rfl
theorem tag88 : tagg Try.prog 88 = some false := by kernel_rfl
theorem tz88 : tzero Try.prog 88 = some [.nilf] := by kernel_rfl
theorem tsz89 : tsize Try.prog 89 = some 1 := by kernel_rfl
theorem tag89 : tagg Try.prog 89 = some false := by kernel_rfl
theorem tz89 : tzero Try.prog 89 = some [.nilf] := by kernel_rfl
theorem tsz90 : tsize Try.prog 90 = some 2 := by kernel_rfl
theorem tag90 : tagg Try.prog 90 = some true := by kernel_rfl
theorem tz90 : tzero Try.prog 90 = some [.int .i64 0, .int .i64 0] := by kernel_rfl
theorem bld90 (parts : List (Nat × V)) : buildV Try.prog 90 parts = (fillK [(0, 1), (1, 1)] [.int .i64 0, .int .i64 0] parts).map .agg := build_struct (by kernel_rfl) (by kernel_rfl) parts
theorem eqi90 (xs ys : List Leaf) : eqV Try.prog 90 (.agg xs) (.agg ys) = eqInfo xs ys [(false, 0, 2), (false, 1, 2)] := eqV_info (by kernel_rfl) xs ys
theorem fo90_0 : fOff Try.prog 90 0 = some (0, 3) := by kernel_rfl
theorem fo90_1 : fOff Try.prog 90 1 = some (1, 3) := by kernel_rfl
theorem tsz91 : tsize Try.prog 91 = some 2 := by kernel_rfl
theorem tag91 : tagg Try.prog 91 = some true := by kernel_rfl
theorem tz91 : tzero Try.prog 91 = some [.int .i64 0, .int .i64 0] := by kernel_rfl
theorem bld91 (parts : List (Nat × V)) : buildV Try.prog 91 parts = (fillK [(0, 1), (1, 1)] [.int .i64 0, .int .i64 0] parts).map .agg := build_struct (by kernel_rfl) (by kernel_rfl) parts
theorem eqi91 (xs ys : List Leaf) : eqV Try.prog 91 (.agg xs) (.agg ys) = eqInfo xs ys [(false, 0, 2), (false, 1, 2)] := eqV_info (by kernel_rfl) xs ys
theorem fo91_0 : fOff Try.prog 91 0 = some (0, 3) := by kernel_rfl
theorem fo91_1 : fOff Try.prog 91 1 = some (1, 3) := by kernel_rfl
theorem tsz92 : tsize Try.prog 92 = some 1 := by kernel_rfl
theorem tag92 : tagg Try.prog 92 = some false := by kernel_rfl
theorem tz92 : tzero Try.prog 92 = some [.nilf] := by kernel_rfl
theorem tsz93 : tsize Try.prog 93 = some 1 := by kernel_rfl
theorem tag93 : tagg Try.prog 93 = some false := by kernel_rfl
theorem tsz94 : tsize Try.prog 94 = some 1 := by kernel_rfl
theorem tag94 : tagg Try.prog 94 = some false := by kernel_rfl
theorem tz94 : tzero Try.prog 94 = some [.nilf] := by kernel_rfl
theorem tsz95 : tsize Try.prog 95 = some 1 := by kernel_rfl
theorem tag95 : tagg Try.prog 95 = some false := by kernel_rfl
theorem tz95 : tzero Try.prog 95 = some [.nilf] := by kernel_rfl
theorem tsz96 : tsize Try.prog 96 = some 1 := by kernel_rfl
theorem tag96 : tagg Try.prog 96 = some false := by kernel_rfl
theorem tz96 : tzero Try.prog 96 = some [.nilf] := by kernel_rfl
theorem tsz97 : tsize Try.prog 97 = some 1 := by kernel_rfl
theorem tag97 : tagg Try.prog 97 = some false := by kernel_rfl
theorem tz97 : tzero Try.prog 97 = some [.nilf] := by kernel_rfl
theorem tsz98 : tsize Try.prog 98 = some 1 := by kernel_rfl
theorem tag98 : tagg Try.prog 98 = some false := by kernel_rfl
theorem tz98 : tzero Try.prog 98 = some [.nilp] := by kernel_rfl
theorem pt98 : isPt Try.prog 98 = true := by kernel_rfl
theorem und98 : Try.prog.underlying 98 = some (.pointer 100) := by kernel_rfl
theorem tsz99 : tsize Try.prog 99 = some 4 := by kernel_rfl
theorem tag99 : tagg Try.prog 99 = some true := by kernel_rfl
theorem tz99 : tzero Try.prog 99 = some [.nils, .int .i64 0, .int .i64 0, .int .i64 0] := by kernel_rfl
theorem bld99 (parts : List (Nat × V)) : buildV Try.prog 99 parts = (fillK [(0, 1), (1, 1), (2, 2)] [.nils, .int .i64 0, .int .i64 0, .int .i64 0] parts).map .agg := build_struct (by kernel_rfl) (by kernel_rfl) parts
theorem fo99_0 : fOff Try.prog 99 0 = some (0, 56) := by kernel_rfl
theorem fo99_1 : fOff Try.prog 99 1 = some (1, 3) := by kernel_rfl
theorem fo99_2 : fOff Try.prog 99 2 = some (2, 39) := by kernel_rfl
theorem tsz100 : tsize Try.prog 100 = some 4 := by kernel_rfl
theorem tag100 : tagg Try.prog 100 = some true := by kernel_rfl
theorem tz100 : tzero Try.prog 100 = some [.nils, .int .i64 0, .int .i64 0, .int .i64 0] := by kernel_rfl
theorem bld100 (parts : List (Nat × V)) : buildV Try.prog 100 parts = (fillK [(0, 1), (1, 1), (2, 2)] [.nils, .int .i64 0, .int .i64 0, .int .i64 0] parts).map .agg := build_struct (by kernel_rfl) (by kernel_rfl) parts
theorem fo100_0 : fOff Try.prog 100 0 = some (0, 56) := by kernel_rfl
theorem fo100_1 : fOff Try.prog 100 1 = some (1, 3) := by kernel_rfl
theorem fo100_2 : fOff Try.prog 100 2 = some (2, 39) := by kernel_rfl
theorem tsz101 : tsize Try.prog 101 = some 1 := by kernel_rfl
theorem tag101 : tagg Try.prog 101 = some false := by kernel_rfl
theorem tz101 : tzero Try.prog 101 = some [.nilf] := by kernel_rfl
theorem tsz102 : tsize Try.prog 102 = some 1 := by kernel_rfl
theorem tag102 : tagg Try.prog 102 = some false := by kernel_rfl
theorem tz102 : tzero Try.prog 102 = some [.nilf] := by kernel_rfl
theorem tsz103 : tsize Try.prog 103 = some 1 := by kernel_rfl
theorem tag103 : tagg Try.prog 103 = some false := by kernel_rfl
theorem tz103 : tzero Try.prog 103 = some [.nilf] := by kernel_rfl
theorem tsz104 : tsize Try.prog 104 = some 1 := by kernel_rfl
theorem tag104 : tagg Try.prog 104 = some false := by kernel_rfl
theorem tz104 : tzero Try.prog 104 = some [.nilf] := by kernel_rfl
theorem tsz105 : tsize Try.prog 105 = some 1 := by kernel_rfl
theorem tag105 : tagg Try.prog 105 = some false := by kernel_rfl
theorem tz105 : tzero Try.prog 105 = some [.nilf] := by kernel_rfl
theorem tsz106 : tsize Try.prog 106 = some 1 := by kernel_rfl
theorem tag106 : tagg Try.prog 106 = some false := by kernel_rfl
theorem tz106 : tzero Try.prog 106 = some [.nilf] := by kernel_rfl
theorem tsz107 : tsize Try.prog 107 = some 3 := by kernel_rfl
theorem tag107 : tagg Try.prog 107 = some true := by kernel_rfl
theorem tz107 : tzero Try.prog 107 = some [.nils, .nils, .nils] := by kernel_rfl
theorem bld107 (parts : List (Nat × V)) : buildV Try.prog 107 parts = (fillK [(0, 1), (1, 1), (2, 1)] [.nils, .nils, .nils] parts).map .agg := build_struct (by kernel_rfl) (by kernel_rfl) parts
theorem fo107_0 : fOff Try.prog 107 0 = some (0, 30) := by kernel_rfl
theorem fo107_1 : fOff Try.prog 107 1 = some (1, 30) := by kernel_rfl
theorem fo107_2 : fOff Try.prog 107 2 = some (2, 28) := by kernel_rfl
theorem tsz108 : tsize Try.prog 108 = some 3 := by kernel_rfl
theorem tag108 : tagg Try.prog 108 = some true := by kernel_rfl
theorem tz108 : tzero Try.prog 108 = some [.nils, .nils, .nils] := by kernel_rfl
theorem bld108 (parts : List (Nat × V)) : buildV Try.prog 108 parts = (fillK [(0, 1), (1, 1), (2, 1)] [.nils, .nils, .nils] parts).map .agg := build_struct (by kernel_rfl) (by kernel_rfl) parts
theorem fo108_0 : fOff Try.prog 108 0 = some (0, 30) := by kernel_rfl
theorem fo108_1 : fOff Try.prog 108 1 = some (1, 30) := by kernel_rfl
theorem fo108_2 : fOff Try.prog 108 2 = some (2, 28) := by kernel_rfl
theorem tsz109 : tsize Try.prog 109 = some 1 := by kernel_rfl
theorem tag109 : tagg Try.prog 109 = some false := by kernel_rfl
theorem tz109 : tzero Try.prog 109 = some [.nilf] := by kernel_rfl
theorem tsz110 : tsize Try.prog 110 = some 1 := by kernel_rfl
theorem tag110 : tagg Try.prog 110 = some false := by kernel_rfl
theorem tz110 : tzero Try.prog 110 = some [.nilf] := by kernel_rfl
theorem tsz111 : tsize Try.prog 111 = some 1 := by kernel_rfl
theorem tag111 : tagg Try.prog 111 = some false := by kernel_rfl
theorem tz111 : tzero Try.prog 111 = some [.nils] := by kernel_rfl
theorem tel111 : telem Try.prog 111 = some 4 := by kernel_rfl
theorem isl111 : isSl Try.prog 111 = true := by kernel_rfl
theorem E111 : ElemT Try.prog 111 1 1 [.bool false] := .mk' (e := 4) (by kernel_rfl) (by kernel_rfl) (by kernel_rfl) rfl (by decide) (by decide)
theorem app111 {H : Heap} (x : V) (id sz : Nat) : appendV Try.prog none H 111 111 (.one (.sl id 1 sz 0 sz)) x = appK 1 1 H id sz (rowAt H id sz) (srcOf Try.prog H 1 111 x) := append_sl E111 x id sz
theorem apn111 {H : Heap} (x : V) : appendV Try.prog none H 111 111 (.one .nils) x = appN 1 1 H .nils (srcOf Try.prog H 1 111 x) := append_nils E111 x
theorem apz111 {H : Heap} (x : V) : appendV Try.prog none H 111 111 (.one .zsl) x = appN 1 1 H .zsl (srcOf Try.prog H 1 111 x) := append_zsl E111 x
theorem bs111 {H : Heap} (x : Leaf) : buildSliceV Try.prog none H 111 1 [(0, .one x)] = some (.one (.sl H.length 1 1 0 1), H ++ [some (.row 1 [[x]])], []) := build_one E111 x
theorem tsz112 : tsize Try.prog 112 = some 1 := by kernel_rfl
theorem tag112 : tagg Try.prog 112 = some false := by kernel_rfl
theorem tz112 : tzero Try.prog 112 = some [.nilf] := by kernel_rfl
theorem tsz113 : tsize Try.prog 113 = some 1 := by kernel_rfl
theorem tag113 : tagg Try.prog 113 = some false := by kernel_rfl
theorem tz113 : tzero Try.prog 113 = some [.nilf] := by kernel_rfl
theorem tsz114 : tsize Try.prog 114 = some 1 := by kernel_rfl
theorem tag114 : tagg Try.prog 114 = some false := by kernel_rfl
theorem tz114 : tzero Try.prog 114 = some [.nilf] := by kernel_rfl
theorem tsz115 : tsize Try.prog 115 = some 1 := by kernel_rfl
theorem tag115 : tagg Try.prog 115 = some false := by kernel_rfl
theorem tz115 : tzero Try.prog 115 = some [.nilf] := by kernel_rfl
theorem tsz116 : tsize Try.prog 116 = some 1 := by kernel_rfl
theorem tag116 : tagg Try.prog 116 = some false := by kernel_rfl
theorem tz116 : tzero Try.prog 116 = some [.nilf] := by kernel_rfl
theorem tsz117 : tsize Try.prog 117 = some 1 := by kernel_rfl
theorem tag117 : tagg Try.prog 117 = some false := by kernel_rfl
theorem tz117 : tzero Try.prog 117 = some [.nilf] := by kernel_rfl
theorem tsz118 : tsize Try.prog 118 = some 1 := by kernel_rfl
theorem tag118 : tagg Try.prog 118 = some false := by kernel_rfl
theorem tz118 : tzero Try.prog 118 = some [.nilf] := by kernel_rfl
theorem tsz119 : tsize Try.prog 119 = some 1 := by kernel_rfl
theorem tag119 : tagg Try.prog 119 = some false := by kernel_rfl
theorem tz119 : tzero Try.prog 119 = some [.nilf] := by kernel_rfl
theorem tsz120 : tsize Try.prog 120 = some 1 := by kernel_rfl
theorem tag120 : tagg Try.prog 120 = some false := by kernel_rfl
theorem tz120 : tzero Try.prog 120 = some [.nils] := by kernel_rfl
theorem tel120 : telem Try.prog 120 = some 152 := by kernel_rfl
theorem isl120 : isSl Try.prog 120 = true := by kernel_rfl
theorem E120 : ElemT Try.prog 120 2 24 [.str [], .int .i64 0] := .mk' (e := 152) (by kernel_rfl) (by kernel_rfl) (by kernel_rfl) rfl (by decide) (by decide)
theorem app120 {H : Heap} (x : V) (id sz : Nat) : appendV Try.prog none H 120 120 (.one (.sl id 2 sz 0 sz)) x = appK 2 24 H id sz (rowAt H id sz) (srcOf Try.prog H 2 120 x) := append_sl E120 x id sz
theorem apn120 {H : Heap} (x : V) : appendV Try.prog none H 120 120 (.one .nils) x = appN 2 24 H .nils (srcOf Try.prog H 2 120 x) := append_nils E120 x
theorem apz120 {H : Heap} (x : V) : appendV Try.prog none H 120 120 (.one .zsl) x = appN 2 24 H .zsl (srcOf Try.prog H 2 120 x) := append_zsl E120 x
theorem bsa120 {H : Heap} (x0 x1 : Leaf) : buildSliceV Try.prog none H 120 1 [(0, .agg [x0, x1])] = some (.one (.sl H.length 2 1 0 1), H ++ [some (.row 2 [[x0, x1]])], []) := build_agg E120 rfl (by decide)
theorem tsz121 : tsize Try.prog 121 = some 1 := by kernel_rfl
theorem tag121 : tagg Try.prog 121 = some false := by kernel_rfl
theorem tsz122 : tsize Try.prog 122 = some 1 := by kernel_rfl
theorem tag122 : tagg Try.prog 122 = some false := by kernel_rfl
theorem tz122 : tzero Try.prog 122 = some [.nilf] := by kernel_rfl
theorem tsz123 : tsize Try.prog 123 = some 1 := by kernel_rfl
theorem tag123 : tagg Try.prog 123 = some false := by kernel_rfl
theorem tz123 : tzero Try.prog 123 = some [.nilp] := by kernel_rfl
theorem pt123 : isPt Try.prog 123 = true := by kernel_rfl
theorem und123 : Try.prog.underlying 123 = some (.pointer 125) := by kernel_rfl
theorem tsz124 : tsize Try.prog 124 = some 6 := by kernel_rfl
theorem tag124 : tagg Try.prog 124 = some true := by kernel_rfl
theorem tz124 : tzero Try.prog 124 = some [.nils, .int .i64 0, .int .i64 0, .int .i64 0, .int .i64 0, .int .i64 0] := by kernel_rfl
theorem bld124 (parts : List (Nat × V)) : buildV Try.prog 124 parts = (fillK [(0, 1), (1, 1), (2, 1), (3, 1), (4, 2)] [.nils, .int .i64 0, .int .i64 0, .int .i64 0, .int .i64 0, .int .i64 0] parts).map .agg := build_struct (by kernel_rfl) (by kernel_rfl) parts
theorem fo124_0 : fOff Try.prog 124 0 = some (0, 120) := by kernel_rfl
theorem fo124_1 : fOff Try.prog 124 1 = some (1, 3) := by kernel_rfl
theorem fo124_2 : fOff Try.prog 124 2 = some (2, 3) := by kernel_rfl
theorem fo124_3 : fOff Try.prog 124 3 = some (3, 3) := by kernel_rfl
theorem fo124_4 : fOff Try.prog 124 4 = some (4, 39) := by kernel_rfl
theorem tsz125 : tsize Try.prog 125 = some 6 := by kernel_rfl
theorem tag125 : tagg Try.prog 125 = some true := by kernel_rfl
theorem tz125 : tzero Try.prog 125 = some [.nils, .int .i64 0, .int .i64 0, .int .i64 0, .int .i64 0, .int .i64 0] := by kernel_rfl
theorem bld125 (parts : List (Nat × V)) : buildV Try.prog 125 parts = (fillK [(0, 1), (1, 1), (2, 1), (3, 1), (4, 2)] [.nils, .int .i64 0, .int .i64 0, .int .i64 0, .int .i64 0, .int .i64 0] parts).map .agg := build_struct (by kernel_rfl) (by kernel_rfl) parts
theorem fo125_0 : fOff Try.prog 125 0 = some (0, 120) := by kernel_rfl
theorem fo125_1 : fOff Try.prog 125 1 = some (1, 3) := by kernel_rfl
theorem fo125_2 : fOff Try.prog 125 2 = some (2, 3) := by kernel_rfl
theorem fo125_3 : fOff Try.prog 125 3 = some (3, 3) := by kernel_rfl
theorem fo125_4 : fOff Try.prog 125 4 = some (4, 39) := by kernel_rfl
theorem tsz126 : tsize Try.prog 126 = some 1 := by kernel_rfl
theorem tag126 : tagg Try.prog 126 = some false := by kernel_rfl
theorem tz126 : tzero Try.prog 126 = some [.nilf] := by kernel_rfl
theorem tsz127 : tsize Try.prog 127 = some 1 := by kernel_rfl
theorem tag127 : tagg Try.prog 127 = some false := by kernel_rfl
theorem tz127 : tzero Try.prog 127 = some [.nilp] := by kernel_rfl
theorem pt127 : isPt Try.prog 127 = true := by kernel_rfl
theorem und127 : Try.prog.underlying 127 = some (.pointer 130) := by kernel_rfl
theorem tsz128 : tsize Try.prog 128 = some 1 := by kernel_rfl
theorem tag128 : tagg Try.prog 128 = some false := by kernel_rfl
theorem tz128 : tzero Try.prog 128 = some [.nilm] := by kernel_rfl
theorem tsz129 : tsize Try.prog 129 = some 7 := by kernel_rfl
theorem tag129 : tagg Try.prog 129 = some true := by kernel_rfl
theorem tz129 : tzero Try.prog 129 = some [.str [], .nils, .int .i64 0, .nils, .int .i64 0, .nils, .nilm] := by kernel_rfl
theorem bld129 (parts : List (Nat × V)) : buildV Try.prog 129 parts = (fillK [(0, 5), (5, 1), (6, 1)] [.str [], .nils, .int .i64 0, .nils, .int .i64 0, .nils, .nilm] parts).map .agg := build_struct (by kernel_rfl) (by kernel_rfl) parts
theorem fo129_0 : fOff Try.prog 129 0 = some (0, 33) := by kernel_rfl
theorem fo129_1 : fOff Try.prog 129 1 = some (5, 30) := by kernel_rfl
theorem fo129_2 : fOff Try.prog 129 2 = some (6, 128) := by kernel_rfl
theorem tsz130 : tsize Try.prog 130 = some 7 := by kernel_rfl
theorem tag130 : tagg Try.prog 130 = some true := by kernel_rfl
theorem tz130 : tzero Try.prog 130 = some [.str [], .nils, .int .i64 0, .nils, .int .i64 0, .nils, .nilm] := by kernel_rfl
theorem bld130 (parts : List (Nat × V)) : buildV Try.prog 130 parts = (fillK [(0, 5), (5, 1), (6, 1)] [.str [], .nils, .int .i64 0, .nils, .int .i64 0, .nils, .nilm] parts).map .agg := build_struct (by kernel_rfl) (by kernel_rfl) parts
theorem fo130_0 : fOff Try.prog 130 0 = some (0, 33) := by kernel_rfl
theorem fo130_1 : fOff Try.prog 130 1 = some (5, 30) := by kernel_rfl
theorem fo130_2 : fOff Try.prog 130 2 = some (6, 128) := by kernel_rfl
theorem tsz131 : tsize Try.prog 131 = some 1 := by kernel_rfl
theorem tag131 : tagg Try.prog 131 = some false := by kernel_rfl
theorem tz131 : tzero Try.prog 131 = some [.nilf] := by kernel_rfl
theorem tsz132 : tsize Try.prog 132 = some 1 := by kernel_rfl
theorem tag132 : tagg Try.prog 132 = some false := by kernel_rfl
theorem tz132 : tzero Try.prog 132 = some [.nilf] := by kernel_rfl
theorem tsz133 : tsize Try.prog 133 = some 1 := by kernel_rfl
theorem tag133 : tagg Try.prog 133 = some false := by kernel_rfl
theorem tz133 : tzero Try.prog 133 = some [.nilf] := by kernel_rfl
theorem tsz134 : tsize Try.prog 134 = some 1 := by kernel_rfl
theorem tag134 : tagg Try.prog 134 = some false := by kernel_rfl
theorem tz134 : tzero Try.prog 134 = some [.nilf] := by kernel_rfl
theorem tsz135 : tsize Try.prog 135 = some 1 := by kernel_rfl
theorem tag135 : tagg Try.prog 135 = some false := by kernel_rfl
theorem tz135 : tzero Try.prog 135 = some [.int .u64 0] := by kernel_rfl
theorem und135 : Try.prog.underlying 135 = some (.int .u64) := by kernel_rfl
theorem tsz136 : tsize Try.prog 136 = some 1 := by kernel_rfl
theorem tag136 : tagg Try.prog 136 = some false := by kernel_rfl
theorem tz136 : tzero Try.prog 136 = some [.nilf] := by kernel_rfl
theorem tsz137 : tsize Try.prog 137 = some 1 := by kernel_rfl
theorem tag137 : tagg Try.prog 137 = some false := by kernel_rfl
theorem tz137 : tzero Try.prog 137 = some [.nilp] := by kernel_rfl
theorem pt137 : isPt Try.prog 137 = true := by kernel_rfl
theorem und137 : Try.prog.underlying 137 = some (.pointer 139) := by kernel_rfl
theorem tsz138 : tsize Try.prog 138 = some 3 := by kernel_rfl
theorem tag138 : tagg Try.prog 138 = some true := by kernel_rfl
theorem tz138 : tzero Try.prog 138 = some [.nils, .nils, .nils] := by kernel_rfl
theorem bld138 (parts : List (Nat × V)) : buildV Try.prog 138 parts = (fillK [(0, 1), (1, 1), (2, 1)] [.nils, .nils, .nils] parts).map .agg := build_struct (by kernel_rfl) (by kernel_rfl) parts
theorem fo138_0 : fOff Try.prog 138 0 = some (0, 28) := by kernel_rfl
theorem fo138_1 : fOff Try.prog 138 1 = some (1, 111) := by kernel_rfl
theorem fo138_2 : fOff Try.prog 138 2 = some (2, 30) := by kernel_rfl
theorem tsz139 : tsize Try.prog 139 = some 3 := by kernel_rfl
theorem tag139 : tagg Try.prog 139 = some true := by kernel_rfl
theorem tz139 : tzero Try.prog 139 = some [.nils, .nils, .nils] := by kernel_rfl
theorem bld139 (parts : List (Nat × V)) : buildV Try.prog 139 parts = (fillK [(0, 1), (1, 1), (2, 1)] [.nils, .nils, .nils] parts).map .agg := build_struct (by kernel_rfl) (by kernel_rfl) parts
theorem fo139_0 : fOff Try.prog 139 0 = some (0, 28) := by kernel_rfl
theorem fo139_1 : fOff Try.prog 139 1 = some (1, 111) := by kernel_rfl
theorem fo139_2 : fOff Try.prog 139 2 = some (2, 30) := by kernel_rfl
theorem tsz140 : tsize Try.prog 140 = some 1 := by kernel_rfl
theorem tag140 : tagg Try.prog 140 = some false := by kernel_rfl
theorem tz140 : tzero Try.prog 140 = some [.nilf] := by kernel_rfl
theorem tsz141 : tsize Try.prog 141 = some 1 := by kernel_rfl
theorem tag141 : tagg Try.prog 141 = some false := by kernel_rfl
theorem tz141 : tzero Try.prog 141 = some [.nilf] := by kernel_rfl
theorem tsz142 : tsize Try.prog 142 = some 1 := by kernel_rfl
theorem tag142 : tagg Try.prog 142 = some false := by kernel_rfl
theorem tz142 : tzero Try.prog 142 = some [.nilf] := by kernel_rfl
theorem tsz143 : tsize Try.prog 143 = some 1 := by kernel_rfl
theorem tag143 : tagg Try.prog 143 = some false := by kernel_rfl
theorem tz143 : tzero Try.prog 143 = some [.nilf] := by kernel_rfl
theorem tsz144 : tsize Try.prog 144 = some 1 := by kernel_rfl
theorem tag144 : tagg Try.prog 144 = some false := by kernel_rfl
theorem tz144 : tzero Try.prog 144 = some [.nilf] := by kernel_rfl
theorem tsz145 : tsize Try.prog 145 = some 1 := by kernel_rfl
theorem tag145 : tagg Try.prog 145 = some false := by kernel_rfl
theorem tsz146 : tsize Try.prog 146 = some 1 := by kernel_rfl
theorem tag146 : tagg Try.prog 146 = some false := by kernel_rfl
theorem tz146 : tzero Try.prog 146 = some [.nilf] := by kernel_rfl
theorem tsz147 : tsize Try.prog 147 = some 1 := by kernel_rfl
theorem tag147 : tagg Try.prog 147 = some false := by kernel_rfl
theorem tz147 : tzero Try.prog 147 = some [.nilf] := by kernel_rfl
theorem tsz148 : tsize Try.prog 148 = some 1 := by kernel_rfl
theorem tag148 : tagg Try.prog 148 = some false := by kernel_rfl
theorem tz148 : tzero Try.prog 148 = some [.nilf] := by kernel_rfl
theorem tsz149 : tsize Try.prog 149 = some 1 := by kernel_rfl
theorem tag149 : tagg Try.prog 149 = some false := by kernel_rfl
theorem tz149 : tzero Try.prog 149 = some [.nilf] := by kernel_rfl
theorem tsz150 : tsize Try.prog 150 = some 1 := by kernel_rfl
theorem tag150 : tagg Try.prog 150 = some false := by kernel_rfl
theorem tz150 : tzero Try.prog 150 = some [.nilf] := by kernel_rfl
theorem tsz151 : tsize Try.prog 151 = some 2 := by kernel_rfl
theorem tag151 : tagg Try.prog 151 = some true := by kernel_rfl
theorem tz151 : tzero Try.prog 151 = some [.str [], .int .i64 0] := by kernel_rfl
theorem bld151 (parts : List (Nat × V)) : buildV Try.prog 151 parts = (fillK [(0, 1), (1, 1)] [.str [], .int .i64 0] parts).map .agg := build_struct (by kernel_rfl) (by kernel_rfl) parts
theorem fo151_0 : fOff Try.prog 151 0 = some (0, 9) := by kernel_rfl
theorem fo151_1 : fOff Try.prog 151 1 = some (1, 3) := by kernel_rfl
theorem tsz152 : tsize Try.prog 152 = some 2 := by kernel_rfl
theorem tag152 : tagg Try.prog 152 = some true := by kernel_rfl
theorem tz152 : tzero Try.prog 152 = some [.str [], .int .i64 0] := by kernel_rfl
theorem bld152 (parts : List (Nat × V)) : buildV Try.prog 152 parts = (fillK [(0, 1), (1, 1)] [.str [], .int .i64 0] parts).map .agg := build_struct (by kernel_rfl) (by kernel_rfl) parts
theorem fo152_0 : fOff Try.prog 152 0 = some (0, 9) := by kernel_rfl
theorem fo152_1 : fOff Try.prog 152 1 = some (1, 3) := by kernel_rfl
theorem tsz153 : tsize Try.prog 153 = some 1 := by kernel_rfl
theorem tag153 : tagg Try.prog 153 = some false := by kernel_rfl
theorem tz153 : tzero Try.prog 153 = some [.nilf] := by kernel_rfl
theorem tsz154 : tsize Try.prog 154 = some 1 := by kernel_rfl
theorem tag154 : tagg Try.prog 154 = some false := by kernel_rfl
theorem tz154 : tzero Try.prog 154 = some [.nilf] := by kernel_rfl
theorem tsz155 : tsize Try.prog 155 = some 1 := by kernel_rfl
theorem tag155 : tagg Try.prog 155 = some false := by kernel_rfl
theorem tz155 : tzero Try.prog 155 = some [.nilf] := by kernel_rfl
theorem tsz156 : tsize Try.prog 156 = some 1 := by kernel_rfl
theorem tag156 : tagg Try.prog 156 = some false := by kernel_rfl
theorem tz156 : tzero Try.prog 156 = some [.nilf] := by kernel_rfl
theorem tsz157 : tsize Try.prog 157 = some 1 := by kernel_rfl
theorem tag157 : tagg Try.prog 157 = some false := by kernel_rfl
theorem tz157 : tzero Try.prog 157 = some [.nilf] := by kernel_rfl
theorem tsz158 : tsize Try.prog 158 = some 1 := by kernel_rfl
theorem tag158 : tagg Try.prog 158 = some false := by kernel_rfl
theorem tz158 : tzero Try.prog 158 = some [.nilf] := by kernel_rfl
theorem tsz159 : tsize Try.prog 159 = some 1 := by kernel_rfl
theorem tag159 : tagg Try.prog 159 = some false := by kernel_rfl
theorem tz159 : tzero Try.prog 159 = some [.nilf] := by kernel_rfl
theorem tsz160 : tsize Try.prog 160 = some 1 := by kernel_rfl
theorem tag160 : tagg Try.prog 160 = some false := by kernel_rfl
theorem tz160 : tzero Try.prog 160 = some [.nilf] := by kernel_rfl
theorem tsz161 : tsize Try.prog 161 = some 1 := by kernel_rfl
theorem tag161 : tagg Try.prog 161 = some false := by kernel_rfl
theorem tz161 : tzero Try.prog 161 = some [.nilf] := by kernel_rfl
theorem tsz162 : tsize Try.prog 162 = some 1 := by kernel_rfl
theorem tag162 : tagg Try.prog 162 = some false := by kernel_rfl
theorem tz162 : tzero Try.prog 162 = some [.int .i64 0] := by kernel_rfl
theorem und162 : Try.prog.underlying 162 = some (.int .i64) := by kernel_rfl
theorem tsz163 : tsize Try.prog 163 = some 1 := by kernel_rfl
theorem tag163 : tagg Try.prog 163 = some false := by kernel_rfl
theorem tsz164 : tsize Try.prog 164 = some 1 := by kernel_rfl
theorem tag164 : tagg Try.prog 164 = some false := by kernel_rfl
theorem tz164 : tzero Try.prog 164 = some [.nilf] := by kernel_rfl
theorem tsz165 : tsize Try.prog 165 = some 1 := by kernel_rfl
theorem tag165 : tagg Try.prog 165 = some false := by kernel_rfl
theorem tz165 : tzero Try.prog 165 = some [.nilf] := by kernel_rfl
theorem tsz166 : tsize Try.prog 166 = some 1 := by kernel_rfl
theorem tag166 : tagg Try.prog 166 = some false := by kernel_rfl
theorem tz166 : tzero Try.prog 166 = some [.nilf] := by kernel_rfl
theorem tsz167 : tsize Try.prog 167 = some 1 := by kernel_rfl
theorem tag167 : tagg Try.prog 167 = some false := by kernel_rfl
theorem tz167 : tzero Try.prog 167 = some [.nilf] := by kernel_rfl
theorem tsz168 : tsize Try.prog 168 = some 1 := by kernel_rfl
theorem tag168 : tagg Try.prog 168 = some false := by kernel_rfl
theorem tz168 : tzero Try.prog 168 = some [.nilf] := by kernel_rfl
theorem tsz169 : tsize Try.prog 169 = some 1 := by kernel_rfl
theorem tag169 : tagg Try.prog 169 = some false := by kernel_rfl
theorem tz169 : tzero Try.prog 169 = some [.int .u32 0] := by kernel_rfl
theorem und169 : Try.prog.underlying 169 = some (.int .u32) := by kernel_rfl
theorem tsz170 : tsize Try.prog 170 = some 1 := by kernel_rfl
theorem tag170 : tagg Try.prog 170 = some false := by kernel_rfl
theorem tz170 : tzero Try.prog 170 = some [.nilf] := by kernel_rfl
theorem tsz171 : tsize Try.prog 171 = some 1 := by kernel_rfl
theorem tag171 : tagg Try.prog 171 = some false := by kernel_rfl
theorem tz171 : tzero Try.prog 171 = some [.int .u64 0] := by kernel_rfl
theorem und171 : Try.prog.underlying 171 = some (.int .u64) := by kernel_rfl
theorem tsz172 : tsize Try.prog 172 = some 1 := by kernel_rfl
theorem tag172 : tagg Try.prog 172 = some false := by kernel_rfl
theorem tz172 : tzero Try.prog 172 = some [.nilf] := by kernel_rfl
theorem tsz173 : tsize Try.prog 173 = some 1 := by kernel_rfl
theorem tag173 : tagg Try.prog 173 = some false := by kernel_rfl
theorem tz173 : tzero Try.prog 173 = some [.nilf] := by kernel_rfl
theorem tsz174 : tsize Try.prog 174 = some 1 := by kernel_rfl
theorem tag174 : tagg Try.prog 174 = some false := by kernel_rfl
theorem tz174 : tzero Try.prog 174 = some [.nilf] := by kernel_rfl
theorem tsz175 : tsize Try.prog 175 = some 1 := by kernel_rfl
theorem tag175 : tagg Try.prog 175 = some false := by kernel_rfl
theorem tz175 : tzero Try.prog 175 = some [.nilf] := by kernel_rfl
theorem tsz176 : tsize Try.prog 176 = some 2 := by kernel_rfl
theorem tag176 : tagg Try.prog 176 = some true := by kernel_rfl
theorem tz176 : tzero Try.prog 176 = some [.int .i64 0, .int .i64 0] := by kernel_rfl
theorem bld176 (parts : List (Nat × V)) : buildV Try.prog 176 parts = (fillK [(0, 1), (1, 1)] [.int .i64 0, .int .i64 0] parts).map .agg := build_struct (by kernel_rfl) (by kernel_rfl) parts
theorem eqi176 (xs ys : List Leaf) : eqV Try.prog 176 (.agg xs) (.agg ys) = eqInfo xs ys [(false, 0, 2), (false, 1, 2)] := eqV_info (by kernel_rfl) xs ys
theorem fo176_0 : fOff Try.prog 176 0 = some (0, 3) := by kernel_rfl
theorem fo176_1 : fOff Try.prog 176 1 = some (1, 3) := by kernel_rfl
theorem tsz177 : tsize Try.prog 177 = some 2 := by kernel_rfl
theorem tag177 : tagg Try.prog 177 = some true := by kernel_rfl
theorem tz177 : tzero Try.prog 177 = some [.int .i64 0, .int .i64 0] := by kernel_rfl
theorem bld177 (parts : List (Nat × V)) : buildV Try.prog 177 parts = (fillK [(0, 1), (1, 1)] [.int .i64 0, .int .i64 0] parts).map .agg := build_struct (by kernel_rfl) (by kernel_rfl) parts
theorem eqi177 (xs ys : List Leaf) : eqV Try.prog 177 (.agg xs) (.agg ys) = eqInfo xs ys [(false, 0, 2), (false, 1, 2)] := eqV_info (by kernel_rfl) xs ys
theorem fo177_0 : fOff Try.prog 177 0 = some (0, 3) := by kernel_rfl
theorem fo177_1 : fOff Try.prog 177 1 = some (1, 3) := by kernel_rfl
theorem tsz178 : tsize Try.prog 178 = some 1 := by kernel_rfl
theorem tag178 : tagg Try.prog 178 = some false := by kernel_rfl
theorem tsz179 : tsize Try.prog 179 = some 1 := by kernel_rfl
theorem tag179 : tagg Try.prog 179 = some false := by kernel_rfl
theorem tz179 : tzero Try.prog 179 = some [.nilf] := by kernel_rfl
theorem tsz180 : tsize Try.prog 180 = some 4 := by kernel_rfl
theorem tag180 : tagg Try.prog 180 = some true := by kernel_rfl
theorem tz180 : tzero Try.prog 180 = some [.int .i64 0, .int .i64 0, .int .i64 0, .bool false] := by kernel_rfl
theorem bld180 (parts : List (Nat × V)) : buildV Try.prog 180 parts = (fillK [(0, 1), (1, 1), (2, 1), (3, 1)] [.int .i64 0, .int .i64 0, .int .i64 0, .bool false] parts).map .agg := build_struct (by kernel_rfl) (by kernel_rfl) parts
theorem eqi180 (xs ys : List Leaf) : eqV Try.prog 180 (.agg xs) (.agg ys) = eqInfo xs ys [(false, 0, 2), (false, 1, 2), (false, 2, 2), (false, 3, 1)] := eqV_info (by kernel_rfl) xs ys
theorem fo180_0 : fOff Try.prog 180 0 = some (0, 3) := by kernel_rfl
theorem fo180_1 : fOff Try.prog 180 1 = some (1, 3) := by kernel_rfl
theorem fo180_2 : fOff Try.prog 180 2 = some (2, 3) := by kernel_rfl
theorem fo180_3 : fOff Try.prog 180 3 = some (3, 4) := by kernel_rfl
theorem tsz181 : tsize Try.prog 181 = some 4 := by kernel_rfl
theorem tag181 : tagg Try.prog 181 = some true := by kernel_rfl
theorem tz181 : tzero Try.prog 181 = some [.int .i64 0, .int .i64 0, .int .i64 0, .bool false] := by kernel_rfl
theorem bld181 (parts : List (Nat × V)) : buildV Try.prog 181 parts = (fillK [(0, 1), (1, 1), (2, 1), (3, 1)] [.int .i64 0, .int .i64 0, .int .i64 0, .bool false] parts).map .agg := build_struct (by kernel_rfl) (by kernel_rfl) parts
theorem eqi181 (xs ys : List Leaf) : eqV Try.prog 181 (.agg xs) (.agg ys) = eqInfo xs ys [(false, 0, 2), (false, 1, 2), (false, 2, 2), (false, 3, 1)] := eqV_info (by kernel_rfl) xs ys
theorem fo181_0 : fOff Try.prog 181 0 = some (0, 3) := by kernel_rfl
theorem fo181_1 : fOff Try.prog 181 1 = some (1, 3) := by kernel_rfl
theorem fo181_2 : fOff Try.prog 181 2 = some (2, 3) := by kernel_rfl
theorem fo181_3 : fOff Try.prog 181 3 = some (3, 4) := by kernel_rfl
theorem tsz182 : tsize Try.prog 182 = some 1 := by kernel_rfl
theorem tag182 : tagg Try.prog 182 = some false := by kernel_rfl
theorem tz182 : tzero Try.prog 182 = some [.nilf] := by kernel_rfl
theorem tsz183 : tsize Try.prog 183 = some 1 := by kernel_rfl
theorem tag183 : tagg Try.prog 183 = some false := by kernel_rfl
theorem tz183 : tzero Try.prog 183 = some [.nilf] := by kernel_rfl
theorem tsz184 : tsize Try.prog 184 = some 1 := by kernel_rfl
theorem tag184 : tagg Try.prog 184 = some false := by kernel_rfl
theorem tz184 : tzero Try.prog 184 = some [.nilf] := by kernel_rfl
theorem tsz185 : tsize Try.prog 185 = some 1 := by kernel_rfl
theorem tag185 : tagg Try.prog 185 = some false := by kernel_rfl
theorem tz185 : tzero Try.prog 185 = some [.nilf] := by kernel_rfl
theorem tsz186 : tsize Try.prog 186 = some 1 := by kernel_rfl
theorem tag186 : tagg Try.prog 186 = some false := by kernel_rfl
theorem tz186 : tzero Try.prog 186 = some [.int .u64 0] := by kernel_rfl
theorem und186 : Try.prog.underlying 186 = some (.int .u64) := by kernel_rfl
theorem tsz187 : tsize Try.prog 187 = some 1 := by kernel_rfl
theorem tag187 : tagg Try.prog 187 = some false := by kernel_rfl
theorem tz187 : tzero Try.prog 187 = some [.nilf] := by kernel_rfl
theorem tsz188 : tsize Try.prog 188 = some 1 := by kernel_rfl
theorem tag188 : tagg Try.prog 188 = some false := by kernel_rfl
theorem tz188 : tzero Try.prog 188 = some [.nilf] := by kernel_rfl
theorem tsz189 : tsize Try.prog 189 = some 1 := by kernel_rfl
theorem tag189 : tagg Try.prog 189 = some false := by kernel_rfl
theorem tz189 : tzero Try.prog 189 = some [.nilf] := by kernel_rfl
theorem tsz190 : tsize Try.prog 190 = some 1 := by kernel_rfl
theorem tag190 : tagg Try.prog 190 = some false := by kernel_rfl
theorem tz190 : tzero Try.prog 190 = some [.nilp] := by kernel_rfl
theorem pt190 : isPt Try.prog 190 = true := by kernel_rfl
theorem und190 : Try.prog.underlying 190 = some (.pointer 3) := by kernel_rfl
theorem tsz191 : tsize Try.prog 191 = some 1 := by kernel_rfl
theorem tag191 : tagg Try.prog 191 = some false := by kernel_rfl
theorem tz191 : tzero Try.prog 191 = some [.nilf] := by kernel_rfl
theorem tsz192 : tsize Try.prog 192 = some 1 := by kernel_rfl
theorem tag192 : tagg Try.prog 192 = some false := by kernel_rfl
theorem tz192 : tzero Try.prog 192 = some [.nilf] := by kernel_rfl
theorem tsz193 : tsize Try.prog 193 = some 1 := by kernel_rfl
theorem tag193 : tagg Try.prog 193 = some false := by kernel_rfl
theorem tz193 : tzero Try.prog 193 = some [.nilf] := by kernel_rfl
theorem tsz194 : tsize Try.prog 194 = some 1 := by kernel_rfl
theorem tag194 : tagg Try.prog 194 = some false := by kernel_rfl
theorem tsz195 : tsize Try.prog 195 = some 1 := by kernel_rfl
theorem tag195 : tagg Try.prog 195 = some false := by kernel_rfl
theorem tz195 : tzero Try.prog 195 = some [.nilf] := by kernel_rfl
theorem tsz196 : tsize Try.prog 196 = some 1 := by kernel_rfl
theorem tag196 : tagg Try.prog 196 = some false := by kernel_rfl
theorem tz196 : tzero Try.prog 196 = some [.nilp] := by kernel_rfl
theorem pt196 : isPt Try.prog 196 = true := by kernel_rfl
theorem und196 : Try.prog.underlying 196 = some (.pointer 186) := by kernel_rfl
theorem tsz197 : tsize Try.prog 197 = some 1 := by kernel_rfl
theorem tag197 : tagg Try.prog 197 = some false := by kernel_rfl
theorem tz197 : tzero Try.prog 197 = some [.nilf] := by kernel_rfl
theorem tsz198 : tsize Try.prog 198 = some 1 := by kernel_rfl
theorem tag198 : tagg Try.prog 198 = some false := by kernel_rfl
theorem tz198 : tzero Try.prog 198 = some [.nilf] := by kernel_rfl
theorem tsz199 : tsize Try.prog 199 = some 1 := by kernel_rfl
theorem tag199 : tagg Try.prog 199 = some false := by kernel_rfl
theorem tz199 : tzero Try.prog 199 = some [.nilf] := by kernel_rfl
theorem tsz200 : tsize Try.prog 200 = some 1 := by kernel_rfl
theorem tag200 : tagg Try.prog 200 = some false := by kernel_rfl
theorem tz200 : tzero Try.prog 200 = some [.nilf] := by kernel_rfl
theorem tsz201 : tsize Try.prog 201 = some 1 := by kernel_rfl
theorem tag201 : tagg Try.prog 201 = some false := by kernel_rfl
theorem tz201 : tzero Try.prog 201 = some [.nilf] := by kernel_rfl
theorem tsz202 : tsize Try.prog 202 = some 1 := by kernel_rfl
theorem tag202 : tagg Try.prog 202 = some false := by kernel_rfl
theorem tsz203 : tsize Try.prog 203 = some 1 := by kernel_rfl
theorem tag203 : tagg Try.prog 203 = some false := by kernel_rfl
theorem tz203 : tzero Try.prog 203 = some [.nilf] := by kernel_rfl
theorem tsz204 : tsize Try.prog 204 = some 1 := by kernel_rfl
theorem tag204 : tagg Try.prog 204 = some false := by kernel_rfl
theorem tsz205 : tsize Try.prog 205 = some 1 := by kernel_rfl
theorem tag205 : tagg Try.prog 205 = some false := by kernel_rfl
theorem tz205 : tzero Try.prog 205 = some [.nilf] := by kernel_rfl
theorem tsz206 : tsize Try.prog 206 = some 1 := by kernel_rfl
theorem tag206 : tagg Try.prog 206 = some false := by kernel_rfl
theorem tz206 : tzero Try.prog 206 = some [.nils] := by kernel_rfl
theorem tel206 : telem Try.prog 206 = some 9 := by kernel_rfl
theorem isl206 : isSl Try.prog 206 = true := by kernel_rfl
theorem E206 : ElemT Try.prog 206 1 16 [.str []] := .mk' (e := 9) (by kernel_rfl) (by kernel_rfl) (by kernel_rfl) rfl (by decide) (by decide)
theorem app206 {H : Heap} (x : V) (id sz : Nat) : appendV Try.prog none H 206 206 (.one (.sl id 1 sz 0 sz)) x = appK 1 16 H id sz (rowAt H id sz) (srcOf Try.prog H 1 206 x) := append_sl E206 x id sz
theorem apn206 {H : Heap} (x : V) : appendV Try.prog none H 206 206 (.one .nils) x = appN 1 16 H .nils (srcOf Try.prog H 1 206 x) := append_nils E206 x
theorem apz206 {H : Heap} (x : V) : appendV Try.prog none H 206 206 (.one .zsl) x = appN 1 16 H .zsl (srcOf Try.prog H 1 206 x) := append_zsl E206 x
theorem bs206 {H : Heap} (x : Leaf) : buildSliceV Try.prog none H 206 1 [(0, .one x)] = some (.one (.sl H.length 1 1 0 1), H ++ [some (.row 1 [[x]])], []) := build_one E206 x
theorem tsz207 : tsize Try.prog 207 = some 1 := by kernel_rfl
theorem tag207 : tagg Try.prog 207 = some false := by kernel_rfl
theorem tz207 : tzero Try.prog 207 = some [.nilf] := by kernel_rfl
theorem tsz208 : tsize Try.prog 208 = some 4 := by kernel_rfl
theorem tag208 : tagg Try.prog 208 = some true := by kernel_rfl
theorem tz208 : tzero Try.prog 208 = some [.nilp, .nilp, .nilp, .str []] := by kernel_rfl
theorem bld208 (parts : List (Nat × V)) : buildV Try.prog 208 parts = (fillK [(0, 1), (1, 1), (2, 1), (3, 1)] [.nilp, .nilp, .nilp, .str []] parts).map .agg := build_struct (by kernel_rfl) (by kernel_rfl) parts
theorem fo208_0 : fOff Try.prog 208 0 = some (0, 17) := by kernel_rfl
theorem fo208_1 : fOff Try.prog 208 1 = some (1, 17) := by kernel_rfl
theorem fo208_2 : fOff Try.prog 208 2 = some (2, 17) := by kernel_rfl
theorem fo208_3 : fOff Try.prog 208 3 = some (3, 9) := by kernel_rfl
theorem tsz209 : tsize Try.prog 209 = some 4 := by kernel_rfl
theorem tag209 : tagg Try.prog 209 = some true := by kernel_rfl
theorem tz209 : tzero Try.prog 209 = some [.nilp, .nilp, .nilp, .str []] := by kernel_rfl
theorem bld209 (parts : List (Nat × V)) : buildV Try.prog 209 parts = (fillK [(0, 1), (1, 1), (2, 1), (3, 1)] [.nilp, .nilp, .nilp, .str []] parts).map .agg := build_struct (by kernel_rfl) (by kernel_rfl) parts
theorem fo209_0 : fOff Try.prog 209 0 = some (0, 17) := by kernel_rfl
theorem fo209_1 : fOff Try.prog 209 1 = some (1, 17) := by kernel_rfl
theorem fo209_2 : fOff Try.prog 209 2 = some (2, 17) := by kernel_rfl
theorem fo209_3 : fOff Try.prog 209 3 = some (3, 9) := by kernel_rfl
theorem tsz210 : tsize Try.prog 210 = some 0 := by kernel_rfl
theorem tag210 : tagg Try.prog 210 = some true := by kernel_rfl
theorem tz210 : tzero Try.prog 210 = some [] := by kernel_rfl
theorem tsz211 : tsize Try.prog 211 = some 0 := by kernel_rfl
theorem tag211 : tagg Try.prog 211 = some true := by kernel_rfl
theorem tz211 : tzero Try.prog 211 = some [] := by kernel_rfl
theorem bld211 (parts : List (Nat × V)) : buildV Try.prog 211 parts = (fillK [(0, 0)] [] parts).map .agg := build_struct (by kernel_rfl) (by kernel_rfl) parts
theorem fo211_0 : fOff Try.prog 211 0 = some (0, 210) := by kernel_rfl
theorem tsz212 : tsize Try.prog 212 = some 0 := by kernel_rfl
theorem tag212 : tagg Try.prog 212 = some true := by kernel_rfl
theorem tz212 : tzero Try.prog 212 = some [] := by kernel_rfl
theorem bld212 (parts : List (Nat × V)) : buildV Try.prog 212 parts = (fillK [(0, 0)] [] parts).map .agg := build_struct (by kernel_rfl) (by kernel_rfl) parts
theorem fo212_0 : fOff Try.prog 212 0 = some (0, 210) := by kernel_rfl
theorem tsz213 : tsize Try.prog 213 = some 1 := by kernel_rfl
theorem tag213 : tagg Try.prog 213 = some false := by kernel_rfl
theorem tz213 : tzero Try.prog 213 = some [.int .u8 0] := by kernel_rfl
theorem und213 : Try.prog.underlying 213 = some (.int .u8) := by kernel_rfl
theorem tsz214 : tsize Try.prog 214 = some 1 := by kernel_rfl
theorem tag214 : tagg Try.prog 214 = some false := by kernel_rfl
theorem tz214 : tzero Try.prog 214 = some [.int .u8 0] := by kernel_rfl
theorem und214 : Try.prog.underlying 214 = some (.int .u8) := by kernel_rfl
theorem tsz215 : tsize Try.prog 215 = some 1 := by kernel_rfl
theorem tag215 : tagg Try.prog 215 = some false := by kernel_rfl
theorem tz215 : tzero Try.prog 215 = some [.nilf] := by kernel_rfl
theorem tsz216 : tsize Try.prog 216 = some 1 := by kernel_rfl
theorem tag216 : tagg Try.prog 216 = some false := by kernel_rfl
theorem tz216 : tzero Try.prog 216 = some [.nilp] := by kernel_rfl
theorem pt216 : isPt Try.prog 216 = true := by kernel_rfl
theorem und216 : Try.prog.underlying 216 = some (.pointer 5) := by kernel_rfl
theorem tsz217 : tsize Try.prog 217 = some 1 := by kernel_rfl
theorem tag217 : tagg Try.prog 217 = some false := by kernel_rfl
theorem tz217 : tzero Try.prog 217 = some [.int .i32 0] := by kernel_rfl
theorem und217 : Try.prog.underlying 217 = some (.int .i32) := by kernel_rfl
theorem tsz218 : tsize Try.prog 218 = some 1 := by kernel_rfl
theorem tag218 : tagg Try.prog 218 = some false := by kernel_rfl
theorem tz218 : tzero Try.prog 218 = some [.int .i32 0] := by kernel_rfl
theorem und218 : Try.prog.underlying 218 = some (.int .i32) := by kernel_rfl
theorem tsz219 : tsize Try.prog 219 = some 11 := by kernel_rfl
theorem tag219 : tagg Try.prog 219 = some true := by kernel_rfl
theorem tz219 : tzero Try.prog 219 = some [.int .u64 0, .int .u64 0, .int .u32 0, .int .u8 0, .int .u8 0, .int .u8 0, .int .u8 0, .nilf, .nilp, .int .i32 0, .int .i32 0] := by kernel_rfl
theorem bld219 (parts : List (Nat × V)) : buildV Try.prog 219 parts = (fillK [(0, 1), (1, 1), (2, 1), (3, 1), (4, 1), (5, 1), (6, 1), (7, 1), (8, 1), (9, 1), (10, 1)] [.int .u64 0, .int .u64 0, .int .u32 0, .int .u8 0, .int .u8 0, .int .u8 0, .int .u8 0, .nilf, .nilp, .int .i32 0, .int .i32 0] parts).map .agg := build_struct (by kernel_rfl) (by kernel_rfl) parts
theorem fo219_0 : fOff Try.prog 219 0 = some (0, 12) := by kernel_rfl
theorem fo219_1 : fOff Try.prog 219 1 = some (1, 12) := by kernel_rfl
theorem fo219_2 : fOff Try.prog 219 2 = some (2, 169) := by kernel_rfl
theorem fo219_3 : fOff Try.prog 219 3 = some (3, 213) := by kernel_rfl
theorem fo219_4 : fOff Try.prog 219 4 = some (4, 5) := by kernel_rfl
theorem fo219_5 : fOff Try.prog 219 5 = some (5, 5) := by kernel_rfl
theorem fo219_6 : fOff Try.prog 219 6 = some (6, 214) := by kernel_rfl
theorem fo219_7 : fOff Try.prog 219 7 = some (7, 215) := by kernel_rfl
theorem fo219_8 : fOff Try.prog 219 8 = some (8, 216) := by kernel_rfl
theorem fo219_9 : fOff Try.prog 219 9 = some (9, 217) := by kernel_rfl
theorem fo219_10 : fOff Try.prog 219 10 = some (10, 218) := by kernel_rfl
theorem tsz220 : tsize Try.prog 220 = some 11 := by kernel_rfl
theorem tag220 : tagg Try.prog 220 = some true := by kernel_rfl
theorem tz220 : tzero Try.prog 220 = some [.int .u64 0, .int .u64 0, .int .u32 0, .int .u8 0, .int .u8 0, .int .u8 0, .int .u8 0, .nilf, .nilp, .int .i32 0, .int .i32 0] := by kernel_rfl
theorem bld220 (parts : List (Nat × V)) : buildV Try.prog 220 parts = (fillK [(0, 1), (1, 1), (2, 1), (3, 1), (4, 1), (5, 1), (6, 1), (7, 1), (8, 1), (9, 1), (10, 1)] [.int .u64 0, .int .u64 0, .int .u32 0, .int .u8 0, .int .u8 0, .int .u8 0, .int .u8 0, .nilf, .nilp, .int .i32 0, .int .i32 0] parts).map .agg := build_struct (by kernel_rfl) (by kernel_rfl) parts
theorem fo220_0 : fOff Try.prog 220 0 = some (0, 12) := by kernel_rfl
theorem fo220_1 : fOff Try.prog 220 1 = some (1, 12) := by kernel_rfl
theorem fo220_2 : fOff Try.prog 220 2 = some (2, 169) := by kernel_rfl
theorem fo220_3 : fOff Try.prog 220 3 = some (3, 213) := by kernel_rfl
theorem fo220_4 : fOff Try.prog 220 4 = some (4, 5) := by kernel_rfl
theorem fo220_5 : fOff Try.prog 220 5 = some (5, 5) := by kernel_rfl
theorem fo220_6 : fOff Try.prog 220 6 = some (6, 214) := by kernel_rfl
theorem fo220_7 : fOff Try.prog 220 7 = some (7, 215) := by kernel_rfl
theorem fo220_8 : fOff Try.prog 220 8 = some (8, 216) := by kernel_rfl
theorem fo220_9 : fOff Try.prog 220 9 = some (9, 217) := by kernel_rfl
theorem fo220_10 : fOff Try.prog 220 10 = some (10, 218) := by kernel_rfl
theorem tsz221 : tsize Try.prog 221 = some 1 := by kernel_rfl
theorem tag221 : tagg Try.prog 221 = some false := by kernel_rfl
theorem tz221 : tzero Try.prog 221 = some [.nilp] := by kernel_rfl
theorem cal2 : callee Try.prog 2 = true := by kernel_rfl
theorem cal3 : callee Try.prog 3 = true := by kernel_rfl
theorem cal4 : callee Try.prog 4 = true := by kernel_rfl
theorem cal5 : callee Try.prog 5 = true := by kernel_rfl
theorem cal6 : callee Try.prog 6 = true := by kernel_rfl
theorem cal7 : callee Try.prog 7 = true := by kernel_rfl
theorem cal8 : callee Try.prog 8 = true := by kernel_rfl
theorem cal9 : callee Try.prog 9 = true := by kernel_rfl
theorem cal10 : callee Try.prog 10 = true := by kernel_rfl
theorem cal11 : callee Try.prog 11 = true := by kernel_rfl
theorem cal12 : callee Try.prog 12 = true := by kernel_rfl
theorem cal13 : callee Try.prog 13 = true := by kernel_rfl
theorem cal14 : callee Try.prog 14 = true := by kernel_rfl
theorem cal15 : callee Try.prog 15 = true := by kernel_rfl
theorem cal16 : callee Try.prog 16 = true := by kernel_rfl
theorem cal17 : callee Try.prog 17 = true := by kernel_rfl
theorem cal18 : callee Try.prog 18 = true := by kernel_rfl
theorem cal19 : callee Try.prog 19 = true := by kernel_rfl
theorem cal20 : callee Try.prog 20 = true := by kernel_rfl
theorem cal21 : callee Try.prog 21 = true := by kernel_rfl
theorem cal22 : callee Try.prog 22 = true := by kernel_rfl
theorem cal23 : callee Try.prog 23 = true := by kernel_rfl
theorem cal24 : callee Try.prog 24 = true := by kernel_rfl
theorem cal25 : callee Try.prog 25 = true := by kernel_rfl
theorem cal26 : callee Try.prog 26 = true := by kernel_rfl
theorem cal27 : callee Try.prog 27 = true := by kernel_rfl
theorem cal28 : callee Try.prog 28 = true := by kernel_rfl
theorem cal29 : callee Try.prog 29 = true := by kernel_rfl
theorem cal30 : callee Try.prog 30 = true := by kernel_rfl
theorem cal31 : callee Try.prog 31 = true := by kernel_rfl
theorem cal32 : callee Try.prog 32 = true := by kernel_rfl
theorem cal33 : callee Try.prog 33 = true := by kernel_rfl
theorem cal34 : callee Try.prog 34 = true := by kernel_rfl
theorem cal35 : callee Try.prog 35 = true := by kernel_rfl
theorem cal36 : callee Try.prog 36 = true := by kernel_rfl
theorem cal37 : callee Try.prog 37 = true := by kernel_rfl
theorem cal38 : callee Try.prog 38 = true := by kernel_rfl
theorem cal39 : callee Try.prog 39 = true := by kernel_rfl
theorem cal40 : callee Try.prog 40 = true := by kernel_rfl
theorem cal41 : callee Try.prog 41 = true := by kernel_rfl
theorem cal42 : callee Try.prog 42 = true := by kernel_rfl
theorem cal43 : callee Try.prog 43 = true := by kernel_rfl
theorem cal44 : callee Try.prog 44 = true := by kernel_rfl
theorem cal45 : callee Try.prog 45 = true := by kernel_rfl
theorem cal46 : callee Try.prog 46 = true := by kernel_rfl
theorem cal47 : callee Try.prog 47 = true := by kernel_rfl
theorem cal48 : callee Try.prog 48 = true := by kernel_rfl
theorem cal49 : callee Try.prog 49 = true := by kernel_rfl
theorem cal50 : callee Try.prog 50 = true := by kernel_rfl
theorem cal51 : callee Try.prog 51 = true := by kernel_rfl
theorem cal52 : callee Try.prog 52 = true := by kernel_rfl
theorem cal53 : callee Try.prog 53 = true := by kernel_rfl
theorem cal54 : callee Try.prog 54 = true := by kernel_rfl
theorem cal55 : callee Try.prog 55 = true := by kernel_rfl
theorem cal56 : callee Try.prog 56 = true := by kernel_rfl
theorem cal57 : callee Try.prog 57 = true := by kernel_rfl
theorem cal58 : callee Try.prog 58 = true := by kernel_rfl
theorem cal59 : callee Try.prog 59 = true := by kernel_rfl
theorem cal60 : callee Try.prog 60 = true := by kernel_rfl
theorem cal61 : callee Try.prog 61 = true := by kernel_rfl
theorem cal62 : callee Try.prog 62 = true := by kernel_rfl
theorem cal63 : callee Try.prog 63 = true := by kernel_rfl
theorem cal64 : callee Try.prog 64 = true := by kernel_rfl
theorem cal65 : callee Try.prog 65 = true := by kernel_rfl
theorem cal66 : callee Try.prog 66 = true := by kernel_rfl
theorem cal67 : callee Try.prog 67 = true := by kernel_rfl
theorem cal68 : callee Try.prog 68 = true := by kernel_rfl
theorem cal69 : callee Try.prog 69 = true := by kernel_rfl
theorem cal70 : callee Try.prog 70 = true := by kernel_rfl
theorem cal71 : callee Try.prog 71 = true := by kernel_rfl
theorem cal72 : callee Try.prog 72 = true := by kernel_rfl
theorem cal73 : callee Try.prog 73 = true := by kernel_rfl
theorem cal74 : callee Try.prog 74 = true := by kernel_rfl
theorem cal75 : callee Try.prog 75 = true := by kernel_rfl
theorem cal76 : callee Try.prog 76 = true := by kernel_rfl
theorem cal77 : callee Try.prog 77 = true := by kernel_rfl
theorem cal78 : callee Try.prog 78 = true := by kernel_rfl
theorem cal79 : callee Try.prog 79 = true := by kernel_rfl
theorem cal80 : callee Try.prog 80 = true := by kernel_rfl
theorem cal81 : callee Try.prog 81 = true := by kernel_rfl
theorem cal82 : callee Try.prog 82 = true := by kernel_rfl
theorem cal83 : callee Try.prog 83 = true := by kernel_rfl
theorem cal84 : callee Try.prog 84 = true := by kernel_rfl
theorem cal85 : callee Try.prog 85 = true := by kernel_rfl
theorem cal86 : callee Try.prog 86 = true := by kernel_rfl
theorem cal87 : callee Try.prog 87 = true := by kernel_rfl
theorem cal88 : callee Try.prog 88 = true := by kernel_rfl
theorem cal89 : callee Try.prog 89 = true := by kernel_rfl
theorem cal90 : callee Try.prog 90 = true := by kernel_rfl
theorem cal91 : callee Try.prog 91 = true := by kernel_rfl
theorem cal92 : callee Try.prog 92 = true := by kernel_rfl
theorem cal93 : callee Try.prog 93 = true := by kernel_rfl
theorem cal94 : callee Try.prog 94 = true := by kernel_rfl
theorem cal95 : callee Try.prog 95 = true := by kernel_rfl
theorem cal96 : callee Try.prog 96 = true := by kernel_rfl
theorem cal97 : callee Try.prog 97 = true := by kernel_rfl
theorem cal98 : callee Try.prog 98 = true := by kernel_rfl
theorem cal99 : callee Try.prog 99 = true := by kernel_rfl
theorem cal100 : callee Try.prog 100 = true := by kernel_rfl
theorem cal101 : callee Try.prog 101 = true := by kernel_rfl
theorem cal102 : callee Try.prog 102 = true := by kernel_rfl
theorem cal103 : callee Try.prog 103 = true := by kernel_rfl
theorem cal104 : callee Try.prog 104 = true := by kernel_rfl
theorem cal105 : callee Try.prog 105 = true := by kernel_rfl
theorem cal106 : callee Try.prog 106 = true := by kernel_rfl
theorem cal107 : callee Try.prog 107 = true := by kernel_rfl
theorem cal108 : callee Try.prog 108 = true := by kernel_rfl
theorem cal109 : callee Try.prog 109 = true := by kernel_rfl
theorem cal110 : callee Try.prog 110 = true := by kernel_rfl
theorem cal111 : callee Try.prog 111 = true := by kernel_rfl
theorem cal112 : callee Try.prog 112 = true := by kernel_rfl
theorem cal113 : callee Try.prog 113 = true := by kernel_rfl
theorem cal114 : callee Try.prog 114 = true := by kernel_rfl
theorem cal115 : callee Try.prog 115 = true := by kernel_rfl
theorem cal116 : callee Try.prog 116 = true := by kernel_rfl
theorem cal117 : callee Try.prog 117 = true := by kernel_rfl
theorem cal118 : callee Try.prog 118 = true := by kernel_rfl
theorem cal119 : callee Try.prog 119 = true := by kernel_rfl
theorem cal120 : callee Try.prog 120 = true := by kernel_rfl
theorem cal121 : callee Try.prog 121 = true := by kernel_rfl
theorem cal122 : callee Try.prog 122 = true := by kernel_rfl
theorem cal123 : callee Try.prog 123 = true := by kernel_rfl
theorem cal124 : callee Try.prog 124 = true := by kernel_rfl
theorem cal125 : callee Try.prog 125 = true := by kernel_rfl
theorem cal126 : callee Try.prog 126 = true := by kernel_rfl
theorem cal127 : callee Try.prog 127 = true := by kernel_rfl
theorem cal128 : callee Try.prog 128 = true := by kernel_rfl
theorem cal129 : callee Try.prog 129 = true := by kernel_rfl
theorem cal130 : callee Try.prog 130 = true := by kernel_rfl
theorem cal131 : callee Try.prog 131 = true := by kernel_rfl
theorem cal132 : callee Try.prog 132 = true := by kernel_rfl
theorem cal133 : callee Try.prog 133 = true := by kernel_rfl
theorem cal134 : callee Try.prog 134 = true := by kernel_rfl
theorem cal135 : callee Try.prog 135 = true := by kernel_rfl
theorem cal136 : callee Try.prog 136 = true := by kernel_rfl
theorem cal137 : callee Try.prog 137 = true := by kernel_rfl
theorem cal138 : callee Try.prog 138 = true := by kernel_rfl
theorem cal139 : callee Try.prog 139 = true := by kernel_rfl
theorem cal140 : callee Try.prog 140 = true := by kernel_rfl
theorem cal141 : callee Try.prog 141 = true := by kernel_rfl
theorem cal142 : callee Try.prog 142 = true := by kernel_rfl
theorem cal143 : callee Try.prog 143 = true := by kernel_rfl
theorem cal144 : callee Try.prog 144 = true := by kernel_rfl
theorem cal145 : callee Try.prog 145 = true := by kernel_rfl
theorem cal146 : callee Try.prog 146 = true := by kernel_rfl
theorem cal147 : callee Try.prog 147 = true := by kernel_rfl
theorem cal148 : callee Try.prog 148 = true := by kernel_rfl
theorem cal149 : callee Try.prog 149 = true := by kernel_rfl
theorem cal150 : callee Try.prog 150 = true := by kernel_rfl
theorem cal151 : callee Try.prog 151 = true := by kernel_rfl
theorem cal152 : callee Try.prog 152 = true := by kernel_rfl
theorem cal153 : callee Try.prog 153 = true := by kernel_rfl
theorem cal154 : callee Try.prog 154 = true := by kernel_rfl
theorem cal155 : callee Try.prog 155 = true := by kernel_rfl
theorem cal156 : callee Try.prog 156 = true := by kernel_rfl
theorem cal157 : callee Try.prog 157 = true := by kernel_rfl
theorem cal158 : callee Try.prog 158 = true := by kernel_rfl
theorem cal159 : callee Try.prog 159 = true := by kernel_rfl
theorem cal160 : callee Try.prog 160 = true := by kernel_rfl
theorem cal161 : callee Try.prog 161 = true := by kernel_rfl
theorem cal162 : callee Try.prog 162 = true := by kernel_rfl
theorem cal163 : callee Try.prog 163 = true := by kernel_rfl
theorem cal164 : callee Try.prog 164 = true := by kernel_rfl
theorem cal165 : callee Try.prog 165 = true := by kernel_rfl
theorem cal166 : callee Try.prog 166 = true := by kernel_rfl
theorem cal167 : callee Try.prog 167 = true := by kernel_rfl
theorem cal168 : callee Try.prog 168 = true := by kernel_rfl
theorem cal169 : callee Try.prog 169 = true := by kernel_rfl
theorem cal170 : callee Try.prog 170 = true := by kernel_rfl
theorem cal171 : callee Try.prog 171 = true := by kernel_rfl
theorem cal172 : callee Try.prog 172 = true := by kernel_rfl
theorem cal173 : callee Try.prog 173 = true := by kernel_rfl
theorem cal174 : callee Try.prog 174 = true := by kernel_rfl
theorem cal175 : callee Try.prog 175 = true := by kernel_rfl
attribute [simp] tsz0 tag0 tsz1 tag1 tz1 tsz2 tag2 tz2 und2 tsz3 tag3 tz3 und3 tsz4 tag4 tz4 und4 bo4 tsz5 tag5 tz5 und5 tsz6 tag6 tz6 und6 tsz7 tag7 tz7 bld7 eqi7 fo7_0 fo7_1 fo7_2 fo7_3 tsz8 tag8 tz8 bld8 eqi8 fo8_0 fo8_1 fo8_2 fo8_3 tsz9 tag9 tz9 str9 und9 tsz10 tag10 tz10 str10 und10 tsz11 tag11 tz11 str11 und11 tsz12 tag12 tz12 und12 tsz13 tag13 tz13 bld13 fo13_0 fo13_1 tsz14 tag14 tz14 bld14 fo14_0 fo14_1 tsz15 tag15 tz15 pt15 und15 tsz16 tag16 tz16 pt16 und16 tsz17 tag17 tz17 pt17 und17 tsz18 tag18 tz18 bld18 fo18_0 tsz19 tag19 tz19 bld19 fo19_0 tsz20 tag20 tsz21 tag21 tz21 und21 tsz22 tag22 tz22 tel22 isl22 app22 apn22 apz22 bsa22 tsz23 tag23 tz23 bld23 fo23_0 tsz24 tag24 tz24 bld24 fo24_0 tsz25 tag25 tz25 tsz26 tag26 tz26 tsz27 tag27 tz27 tsz28 tag28 tz28 tel28 isl28 app28 apn28 apz28 bs28 tsz29 tag29 tz29 tsz30 tag30 tz30 tel30 isl30 app30 apn30 apz30 bs30 tsz31 tag31 tz31 tel31 isl31 app31 apn31 apz31 bs31 tsz32 tag32 tz32 bld32 fo32_0 fo32_1 fo32_2 fo32_3 fo32_4 tsz33 tag33 tz33 bld33 fo33_0 fo33_1 fo33_2 fo33_3 fo33_4 tsz34 tag34 tz34 tsz35 tag35 tz35 tsz36 tag36 tz36 tsz37 tag37 tz37 und37 tsz38 tag38 tz38 bld38 eqi38 fo38_0 fo38_1 tsz39 tag39 tz39 bld39 eqi39 fo39_0 fo39_1 tsz40 tag40 tz40 tsz41 tag41 tz41 bld41 fo41_0 fo41_1 fo41_2 fo41_3 fo41_4 fo41_5 fo41_6 fo41_7 tsz42 tag42 tz42 bld42 fo42_0 fo42_1 fo42_2 fo42_3 fo42_4 fo42_5 fo42_6 fo42_7 tsz43 tag43 tz43 tel43 isl43 app43 apn43 apz43 bsa43 tsz44 tag44 tz44 tel44 isl44 app44 apn44 apz44 bsa44 tsz45 tag45 tz45 bld45 fo45_0 fo45_1 tsz46 tag46 tz46 bld46 fo46_0 fo46_1 tsz47 tag47 tz47 tsz48 tag48 tz48 tsz49 tag49 tz49 tel49 isl49 app49 apn49 apz49 bsa49 tsz50 tag50 tz50 bld50 fo50_0 fo50_1 fo50_2 fo50_3 tsz51 tag51 tz51 bld51 fo51_0 fo51_1 fo51_2 fo51_3 tsz52 tag52 tsz53 tag53 tz53 tsz54 tag54 tz54 tsz55 tag55 tz55 tsz56 tag56 tz56 tel56 isl56 app56 apn56 apz56 bs56 tsz57 tag57 tsz58 tag58 tz58 tsz59 tag59 tz59 tsz60 tag60 tz60 tsz61 tag61 tz61 tsz62 tag62 tz62 tsz63 tag63 tz63 pt63 und63 tsz64 tag64 tz64 tsz65 tag65 tz65 tel65 isl65 app65 apn65 apz65 bs65 tsz66 tag66 tz66 tsz67 tag67 tz67 tsz68 tag68 tz68 tsz69 tag69 tz69 tsz70 tag70 tz70 tsz71 tag71 tz71 tsz72 tag72 tz72 tsz73 tag73 tz73 tsz74 tag74 tz74 tsz75 tag75 tz75 tsz76 tag76 tz76 tsz77 tag77 tz77 tsz78 tag78 tz78 tsz79 tag79 tz79 tsz80 tag80 tz80 tsz81 tag81 tsz82 tag82 tz82 tsz83 tag83 tz83 tsz84 tag84 tz84 tsz85 tag85 tz85 tsz86 tag86 tz86 tsz87 tag87 tz87 tsz88 tag88 tz88 tsz89 tag89 tz89 tsz90 tag90 tz90 bld90 eqi90 fo90_0 fo90_1 tsz91 tag91 tz91 bld91 eqi91 fo91_0 fo91_1 tsz92 tag92 tz92 tsz93 tag93 tsz94 tag94 tz94 tsz95 tag95 tz95 tsz96 tag96 tz96 tsz97 tag97 tz97 tsz98 tag98 tz98 pt98 und98 tsz99 tag99 tz99 bld99 fo99_0 fo99_1 fo99_2 tsz100 tag100 tz100 bld100 fo100_0 fo100_1 fo100_2 tsz101 tag101 tz101 tsz102 tag102 tz102 tsz103 tag103 tz103 tsz104 tag104 tz104 tsz105 tag105 tz105 tsz106 tag106 tz106 tsz107 tag107 tz107 bld107 fo107_0 fo107_1 fo107_2 tsz108 tag108 tz108 bld108 fo108_0 fo108_1 fo108_2 tsz109 tag109 tz109 tsz110 tag110 tz110 tsz111 tag111 tz111 tel111 isl111 app111 apn111 apz111 bs111 tsz112 tag112 tz112 tsz113 tag113 tz113 tsz114 tag114 tz114 tsz115 tag115 tz115 tsz116 tag116 tz116 tsz117 tag117 tz117 tsz118 tag118 tz118 tsz119 tag119 tz119 tsz120 tag120 tz120 tel120 isl120 app120 apn120 apz120 bsa120 tsz121 tag121 tsz122 tag122 tz122 tsz123 tag123 tz123 pt123 und123 tsz124 tag124 tz124 bld124 fo124_0 fo124_1 fo124_2 fo124_3 fo124_4 tsz125 tag125 tz125 bld125 fo125_0 fo125_1 fo125_2 fo125_3 fo125_4 tsz126 tag126 tz126 tsz127 tag127 tz127 pt127 und127 tsz128 tag128 tz128 tsz129 tag129 tz129 bld129 fo129_0 fo129_1 fo129_2 tsz130 tag130 tz130 bld130 fo130_0 fo130_1 fo130_2 tsz131 tag131 tz131 tsz132 tag132 tz132 tsz133 tag133 tz133 tsz134 tag134 tz134 tsz135 tag135 tz135 und135 tsz136 tag136 tz136 tsz137 tag137 tz137 pt137 und137 tsz138 tag138 tz138 bld138 fo138_0 fo138_1 fo138_2 tsz139 tag139 tz139 bld139 fo139_0 fo139_1 fo139_2 tsz140 tag140 tz140 tsz141 tag141 tz141 tsz142 tag142 tz142 tsz143 tag143 tz143 tsz144 tag144 tz144 tsz145 tag145 tsz146 tag146 tz146 tsz147 tag147 tz147 tsz148 tag148 tz148 tsz149 tag149 tz149 tsz150 tag150 tz150 tsz151 tag151 tz151 bld151 fo151_0 fo151_1 tsz152 tag152 tz152 bld152 fo152_0 fo152_1 tsz153 tag153 tz153 tsz154 tag154 tz154 tsz155 tag155 tz155 tsz156 tag156 tz156 tsz157 tag157 tz157 tsz158 tag158 tz158 tsz159 tag159 tz159 tsz160 tag160 tz160 tsz161 tag161 tz161 tsz162 tag162 tz162 und162 tsz163 tag163 tsz164 tag164 tz164 tsz165 tag165 tz165 tsz166 tag166 tz166 tsz167 tag167 tz167 tsz168 tag168 tz168 tsz169 tag169 tz169 und169 tsz170 tag170 tz170 tsz171 tag171 tz171 und171 tsz172 tag172 tz172 tsz173 tag173 tz173 tsz174 tag174 tz174 tsz175 tag175 tz175 tsz176 tag176 tz176 bld176 eqi176 fo176_0 fo176_1 tsz177 tag177 tz177 bld177 eqi177 fo177_0 fo177_1 tsz178 tag178 tsz179 tag179 tz179 tsz180 tag180 tz180 bld180 eqi180 fo180_0 fo180_1 fo180_2 fo180_3 tsz181 tag181 tz181 bld181 eqi181 fo181_0 fo181_1 fo181_2 fo181_3 tsz182 tag182 tz182 tsz183 tag183 tz183 tsz184 tag184 tz184 tsz185 tag185 tz185 tsz186 tag186 tz186 und186 tsz187 tag187 tz187 tsz188 tag188 tz188 tsz189 tag189 tz189 tsz190 tag190 tz190 pt190 und190 tsz191 tag191 tz191 tsz192 tag192 tz192 tsz193 tag193 tz193 tsz194 tag194 tsz195 tag195 tz195 tsz196 tag196 tz196 pt196 und196 tsz197 tag197 tz197 tsz198 tag198 tz198 tsz199 tag199 tz199 tsz200 tag200 tz200 tsz201 tag201 tz201 tsz202 tag202 tsz203 tag203 tz203 tsz204 tag204 tsz205 tag205 tz205 tsz206 tag206 tz206 tel206 isl206 app206 apn206 apz206 bs206 tsz207 tag207 tz207 tsz208 tag208 tz208 bld208 fo208_0 fo208_1 fo208_2 fo208_3 tsz209 tag209 tz209 bld209 fo209_0 fo209_1 fo209_2 fo209_3 tsz210 tag210 tz210 tsz211 tag211 tz211 bld211 fo211_0 tsz212 tag212 tz212 bld212 fo212_0 tsz213 tag213 tz213 und213 tsz214 tag214 tz214 und214 tsz215 tag215 tz215 tsz216 tag216 tz216 pt216 und216 tsz217 tag217 tz217 und217 tsz218 tag218 tz218 und218 tsz219 tag219 tz219 bld219 fo219_0 fo219_1 fo219_2 fo219_3 fo219_4 fo219_5 fo219_6 fo219_7 fo219_8 fo219_9 fo219_10 tsz220 tag220 tz220 bld220 fo220_0 fo220_1 fo220_2 fo220_3 fo220_4 fo220_5 fo220_6 fo220_7 fo220_8 fo220_9 fo220_10 tsz221 tag221 tz221 cal2 cal3 cal4 cal5 cal6 cal7 cal8 cal9 cal10 cal11 cal12 cal13 cal14 cal15 cal16 cal17 cal18 cal19 cal20 cal21 cal22 cal23 cal24 cal25 cal26 cal27 cal28 cal29 cal30 cal31 cal32 cal33 cal34 cal35 cal36 cal37 cal38 cal39 cal40 cal41 cal42 cal43 cal44 cal45 cal46 cal47 cal48 cal49 cal50 cal51 cal52 cal53 cal54 cal55 cal56 cal57 cal58 cal59 cal60 cal61 cal62 cal63 cal64 cal65 cal66 cal67 cal68 cal69 cal70 cal71 cal72 cal73 cal74 cal75 cal76 cal77 cal78 cal79 cal80 cal81 cal82 cal83 cal84 cal85 cal86 cal87 cal88 cal89 cal90 cal91 cal92 cal93 cal94 cal95 cal96 cal97 cal98 cal99 cal100 cal101 cal102 cal103 cal104 cal105 cal106 cal107 cal108 cal109 cal110 cal111 cal112 cal113 cal114 cal115 cal116 cal117 cal118 cal119 cal120 cal121 cal122 cal123 cal124 cal125 cal126 cal127 cal128 cal129 cal130 cal131 cal132 cal133 cal134 cal135 cal136 cal137 cal138 cal139 cal140 cal141 cal142 cal143 cal144 cal145 cal146 cal147 cal148 cal149 cal150 cal151 cal152 cal153 cal154 cal155 cal156 cal157 cal158 cal159 cal160 cal161 cal162 cal163 cal164 cal165 cal166 cal167 cal168 cal169 cal170 cal171 cal172 cal173 cal174 cal175
end Go.Proofs.Ytdkknhpdjcdmfaa.Abs
