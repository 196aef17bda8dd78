/- Parts of the proof: what is used by the law. No condition. -/
import Derived.Test.YtbgifnlaaophcaaProg
import Derived.KernelRfl
import Derived.Lib.Tables
import Derived.Lib.BitFns
import Derived.Test.YtbgifnlaaophcaaGA
set_option linter.unusedSimpArgs false
set_option linter.unusedVariables false
/- Facts on the types of the program. No condition. -/
namespace Go.Proofs.Ytbgifnlaaophcaa
open Go Go.Rw Go.Proofs

@[simp] theorem vT_2 : vT Try.prog 2 = some (1, false) := by kernel_rfl
@[simp] theorem zT_2 : zT Try.prog 2 = some [.v (.int .i64 0)] := by kernel_rfl
@[simp] theorem ikT_2 : ikT Try.prog 2 = some .i64 := by kernel_rfl
@[simp] theorem uS_2 : (Try.prog.underlying 2).isSome = true := by kernel_rfl
@[simp] theorem vT_3 : vT Try.prog 3 = some (1, false) := by kernel_rfl
@[simp] theorem zT_3 : zT Try.prog 3 = some [.v (.int .i64 0)] := by kernel_rfl
@[simp] theorem ikT_3 : ikT Try.prog 3 = some .i64 := by kernel_rfl
@[simp] theorem uS_3 : (Try.prog.underlying 3).isSome = true := by kernel_rfl
@[simp] theorem vT_4 : vT Try.prog 4 = some (1, false) := by kernel_rfl
@[simp] theorem zT_4 : zT Try.prog 4 = some [.v (.bool false)] := by kernel_rfl
@[simp] theorem boolT_4 : boolT Try.prog 4 = true := by kernel_rfl
@[simp] theorem vT_5 : vT Try.prog 5 = some (1, false) := by kernel_rfl
@[simp] theorem zT_5 : zT Try.prog 5 = some [.v (.int .u8 0)] := by kernel_rfl
@[simp] theorem ikT_5 : ikT Try.prog 5 = some .u8 := by kernel_rfl
@[simp] theorem uS_5 : (Try.prog.underlying 5).isSome = true := by kernel_rfl
@[simp] theorem vT_7 : vT Try.prog 7 = some (4, true) := by kernel_rfl
@[simp] theorem zT_7 : zT Try.prog 7 = some [.v (.int .i64 0), .v (.int .i64 0), .v (.bool false), .v (.int .u8 0)] := by kernel_rfl
@[simp] theorem sfT_7 : sfT Try.prog 7 = some [(0, 1), (1, 1), (2, 1), (3, 1)] := by kernel_rfl
@[simp] theorem fT_7_0 : fT Try.prog 7 0 = some 0 := by kernel_rfl
@[simp] theorem fvT_7_0 : fvT Try.prog 7 0 = some (0, 1, false) := by kernel_rfl
@[simp] theorem fT_7_1 : fT Try.prog 7 1 = some 1 := by kernel_rfl
@[simp] theorem fvT_7_1 : fvT Try.prog 7 1 = some (1, 1, false) := by kernel_rfl
@[simp] theorem fT_7_2 : fT Try.prog 7 2 = some 2 := by kernel_rfl
@[simp] theorem fvT_7_2 : fvT Try.prog 7 2 = some (2, 1, false) := by kernel_rfl
@[simp] theorem fT_7_3 : fT Try.prog 7 3 = some 3 := by kernel_rfl
@[simp] theorem fvT_7_3 : fvT Try.prog 7 3 = some (3, 1, false) := by kernel_rfl
@[simp] theorem eqsT_7 : eqsT Try.prog 7 = some [false, false, true, false] := by kernel_rfl
@[simp] theorem vT_9 : vT Try.prog 9 = some (1, false) := by kernel_rfl
@[simp] theorem zT_9 : zT Try.prog 9 = some [.v (.string ByteArray.empty)] := by kernel_rfl
@[simp] theorem stringT_9 : stringT Try.prog 9 = true := by kernel_rfl
@[simp] theorem vT_12 : vT Try.prog 12 = some (1, false) := by kernel_rfl
@[simp] theorem zT_12 : zT Try.prog 12 = some [.v (.int .u64 0)] := by kernel_rfl
@[simp] theorem ikT_12 : ikT Try.prog 12 = some .u64 := by kernel_rfl
@[simp] theorem uS_12 : (Try.prog.underlying 12).isSome = true := by kernel_rfl
@[simp] theorem vT_13 : vT Try.prog 13 = some (2, true) := by kernel_rfl
@[simp] theorem zT_13 : zT Try.prog 13 = some [.v (.string ByteArray.empty), .v (.int .u64 0)] := by kernel_rfl
@[simp] theorem sfT_13 : sfT Try.prog 13 = some [(0, 1), (1, 1)] := by kernel_rfl
@[simp] theorem fT_13_0 : fT Try.prog 13 0 = some 0 := by kernel_rfl
@[simp] theorem fvT_13_0 : fvT Try.prog 13 0 = some (0, 1, false) := by kernel_rfl
@[simp] theorem fT_13_1 : fT Try.prog 13 1 = some 1 := by kernel_rfl
@[simp] theorem fvT_13_1 : fvT Try.prog 13 1 = some (1, 1, false) := by kernel_rfl
@[simp] theorem vT_15 : vT Try.prog 15 = some (1, false) := by kernel_rfl
@[simp] theorem zT_15 : zT Try.prog 15 = some [.v (.pointer none)] := by kernel_rfl
@[simp] theorem vT_16 : vT Try.prog 16 = some (1, false) := by kernel_rfl
@[simp] theorem zT_16 : zT Try.prog 16 = some [.v (.pointer none)] := by kernel_rfl
@[simp] theorem vT_17 : vT Try.prog 17 = some (1, false) := by kernel_rfl
@[simp] theorem zT_17 : zT Try.prog 17 = some [.v (.pointer none)] := by kernel_rfl
@[simp] theorem vT_18 : vT Try.prog 18 = some (1, true) := by kernel_rfl
@[simp] theorem zT_18 : zT Try.prog 18 = some [.v (.pointer none)] := by kernel_rfl
@[simp] theorem sfT_18 : sfT Try.prog 18 = some [(0, 1)] := by kernel_rfl
@[simp] theorem fT_18_0 : fT Try.prog 18 0 = some 0 := by kernel_rfl
@[simp] theorem fvT_18_0 : fvT Try.prog 18 0 = some (0, 1, false) := by kernel_rfl
@[simp] theorem vT_21 : vT Try.prog 21 = some (1, false) := by kernel_rfl
@[simp] theorem zT_21 : zT Try.prog 21 = some [.v (.int .i32 0)] := by kernel_rfl
@[simp] theorem ikT_21 : ikT Try.prog 21 = some .i32 := by kernel_rfl
@[simp] theorem uS_21 : (Try.prog.underlying 21).isSome = true := by kernel_rfl
@[simp] theorem vT_24 : vT Try.prog 24 = some (2, true) := by kernel_rfl
@[simp] theorem zT_24 : zT Try.prog 24 = some [.v (.int .i64 0), .v (.int .i64 0)] := by kernel_rfl
@[simp] theorem sfT_24 : sfT Try.prog 24 = some [(0, 1), (1, 1)] := by kernel_rfl
@[simp] theorem fT_24_0 : fT Try.prog 24 0 = some 0 := by kernel_rfl
@[simp] theorem fvT_24_0 : fvT Try.prog 24 0 = some (0, 1, false) := by kernel_rfl
@[simp] theorem fT_24_1 : fT Try.prog 24 1 = some 1 := by kernel_rfl
@[simp] theorem fvT_24_1 : fvT Try.prog 24 1 = some (1, 1, false) := by kernel_rfl
@[simp] theorem eqsT_24 : eqsT Try.prog 24 = some [false, false] := by kernel_rfl
@[simp] theorem vT_25 : vT Try.prog 25 = some (2, true) := by kernel_rfl
@[simp] theorem zT_25 : zT Try.prog 25 = some [.v (.int .i64 0), .v (.int .i64 0)] := by kernel_rfl
@[simp] theorem sfT_25 : sfT Try.prog 25 = some [(0, 1), (1, 1)] := by kernel_rfl
@[simp] theorem fT_25_0 : fT Try.prog 25 0 = some 0 := by kernel_rfl
@[simp] theorem fvT_25_0 : fvT Try.prog 25 0 = some (0, 1, false) := by kernel_rfl
@[simp] theorem fT_25_1 : fT Try.prog 25 1 = some 1 := by kernel_rfl
@[simp] theorem fvT_25_1 : fvT Try.prog 25 1 = some (1, 1, false) := by kernel_rfl
@[simp] theorem eqsT_25 : eqsT Try.prog 25 = some [false, false] := by kernel_rfl
@[simp] theorem vT_26 : vT Try.prog 26 = some (1, false) := by kernel_rfl
@[simp] theorem zT_26 : zT Try.prog 26 = some [.sl .no []] := by kernel_rfl
@[simp] theorem slT_26 : slT Try.prog 26 = some (47, 3, 24) := by kernel_rfl
@[simp] theorem vT_27 : vT Try.prog 27 = some (1, false) := by kernel_rfl
@[simp] theorem zT_27 : zT Try.prog 27 = some [.sl .no []] := by kernel_rfl
@[simp] theorem slT_27 : slT Try.prog 27 = some (52, 4, 32) := by kernel_rfl
@[simp] theorem vT_28 : vT Try.prog 28 = some (9, true) := by kernel_rfl
@[simp] theorem zT_28 : zT Try.prog 28 = some [.v (.int .i64 0), .v (.int .i64 0), .v (.int .i64 0), .v (.int .i64 0), .v (.int .i64 0), .v (.int .i64 0), .v (.int .i64 0), .sl .no [], .sl .no []] := by kernel_rfl
@[simp] theorem sfT_28 : sfT Try.prog 28 = some [(0, 1), (1, 1), (2, 1), (3, 1), (4, 1), (5, 2), (7, 1), (8, 1)] := by kernel_rfl
@[simp] theorem fT_28_0 : fT Try.prog 28 0 = some 0 := by kernel_rfl
@[simp] theorem fvT_28_0 : fvT Try.prog 28 0 = some (0, 1, false) := by kernel_rfl
@[simp] theorem fT_28_1 : fT Try.prog 28 1 = some 1 := by kernel_rfl
@[simp] theorem fvT_28_1 : fvT Try.prog 28 1 = some (1, 1, false) := by kernel_rfl
@[simp] theorem fT_28_2 : fT Try.prog 28 2 = some 2 := by kernel_rfl
@[simp] theorem fvT_28_2 : fvT Try.prog 28 2 = some (2, 1, false) := by kernel_rfl
@[simp] theorem fT_28_3 : fT Try.prog 28 3 = some 3 := by kernel_rfl
@[simp] theorem fvT_28_3 : fvT Try.prog 28 3 = some (3, 1, false) := by kernel_rfl
@[simp] theorem fT_28_4 : fT Try.prog 28 4 = some 4 := by kernel_rfl
@[simp] theorem fvT_28_4 : fvT Try.prog 28 4 = some (4, 1, false) := by kernel_rfl
@[simp] theorem fT_28_5 : fT Try.prog 28 5 = some 5 := by kernel_rfl
@[simp] theorem fvT_28_5 : fvT Try.prog 28 5 = some (5, 2, true) := by kernel_rfl
@[simp] theorem fT_28_6 : fT Try.prog 28 6 = some 7 := by kernel_rfl
@[simp] theorem fvT_28_6 : fvT Try.prog 28 6 = some (7, 1, false) := by kernel_rfl
@[simp] theorem fT_28_7 : fT Try.prog 28 7 = some 8 := by kernel_rfl
@[simp] theorem fvT_28_7 : fvT Try.prog 28 7 = some (8, 1, false) := by kernel_rfl
@[simp] theorem vT_29 : vT Try.prog 29 = some (9, true) := by kernel_rfl
@[simp] theorem zT_29 : zT Try.prog 29 = some [.v (.int .i64 0), .v (.int .i64 0), .v (.int .i64 0), .v (.int .i64 0), .v (.int .i64 0), .v (.int .i64 0), .v (.int .i64 0), .sl .no [], .sl .no []] := by kernel_rfl
@[simp] theorem sfT_29 : sfT Try.prog 29 = some [(0, 1), (1, 1), (2, 1), (3, 1), (4, 1), (5, 2), (7, 1), (8, 1)] := by kernel_rfl
@[simp] theorem fT_29_0 : fT Try.prog 29 0 = some 0 := by kernel_rfl
@[simp] theorem fvT_29_0 : fvT Try.prog 29 0 = some (0, 1, false) := by kernel_rfl
@[simp] theorem fT_29_1 : fT Try.prog 29 1 = some 1 := by kernel_rfl
@[simp] theorem fvT_29_1 : fvT Try.prog 29 1 = some (1, 1, false) := by kernel_rfl
@[simp] theorem fT_29_2 : fT Try.prog 29 2 = some 2 := by kernel_rfl
@[simp] theorem fvT_29_2 : fvT Try.prog 29 2 = some (2, 1, false) := by kernel_rfl
@[simp] theorem fT_29_3 : fT Try.prog 29 3 = some 3 := by kernel_rfl
@[simp] theorem fvT_29_3 : fvT Try.prog 29 3 = some (3, 1, false) := by kernel_rfl
@[simp] theorem fT_29_4 : fT Try.prog 29 4 = some 4 := by kernel_rfl
@[simp] theorem fvT_29_4 : fvT Try.prog 29 4 = some (4, 1, false) := by kernel_rfl
@[simp] theorem fT_29_5 : fT Try.prog 29 5 = some 5 := by kernel_rfl
@[simp] theorem fvT_29_5 : fvT Try.prog 29 5 = some (5, 2, true) := by kernel_rfl
@[simp] theorem fT_29_6 : fT Try.prog 29 6 = some 7 := by kernel_rfl
@[simp] theorem fvT_29_6 : fvT Try.prog 29 6 = some (7, 1, false) := by kernel_rfl
@[simp] theorem fT_29_7 : fT Try.prog 29 7 = some 8 := by kernel_rfl
@[simp] theorem fvT_29_7 : fvT Try.prog 29 7 = some (8, 1, false) := by kernel_rfl
@[simp] theorem vT_30 : vT Try.prog 30 = some (1, false) := by kernel_rfl
@[simp] theorem zT_30 : zT Try.prog 30 = some [.sl .no []] := by kernel_rfl
@[simp] theorem slT_30 : slT Try.prog 30 = some (5, 1, 1) := by kernel_rfl
@[simp] theorem vT_31 : vT Try.prog 31 = some (1, false) := by kernel_rfl
@[simp] theorem zT_31 : zT Try.prog 31 = some [.v (.int .i64 0)] := by kernel_rfl
@[simp] theorem ikT_31 : ikT Try.prog 31 = some .i64 := by kernel_rfl
@[simp] theorem uS_31 : (Try.prog.underlying 31).isSome = true := by kernel_rfl
@[simp] theorem vT_38 : vT Try.prog 38 = some (1, false) := by kernel_rfl
@[simp] theorem zT_38 : zT Try.prog 38 = some [.v (.int .u32 0)] := by kernel_rfl
@[simp] theorem ikT_38 : ikT Try.prog 38 = some .u32 := by kernel_rfl
@[simp] theorem uS_38 : (Try.prog.underlying 38).isSome = true := by kernel_rfl
@[simp] theorem vT_46 : vT Try.prog 46 = some (3, true) := by kernel_rfl
@[simp] theorem zT_46 : zT Try.prog 46 = some [.v (.int .i64 0), .v (.int .i64 0), .v (.int .i64 0)] := by kernel_rfl
@[simp] theorem sfT_46 : sfT Try.prog 46 = some [(0, 1), (1, 2)] := by kernel_rfl
@[simp] theorem fT_46_0 : fT Try.prog 46 0 = some 0 := by kernel_rfl
@[simp] theorem fvT_46_0 : fvT Try.prog 46 0 = some (0, 1, false) := by kernel_rfl
@[simp] theorem fT_46_1 : fT Try.prog 46 1 = some 1 := by kernel_rfl
@[simp] theorem fvT_46_1 : fvT Try.prog 46 1 = some (1, 2, true) := by kernel_rfl
@[simp] theorem eqsT_46 : eqsT Try.prog 46 = some [false, false, false] := by kernel_rfl
@[simp] theorem vT_47 : vT Try.prog 47 = some (3, true) := by kernel_rfl
@[simp] theorem zT_47 : zT Try.prog 47 = some [.v (.int .i64 0), .v (.int .i64 0), .v (.int .i64 0)] := by kernel_rfl
@[simp] theorem sfT_47 : sfT Try.prog 47 = some [(0, 1), (1, 2)] := by kernel_rfl
@[simp] theorem fT_47_0 : fT Try.prog 47 0 = some 0 := by kernel_rfl
@[simp] theorem fvT_47_0 : fvT Try.prog 47 0 = some (0, 1, false) := by kernel_rfl
@[simp] theorem fT_47_1 : fT Try.prog 47 1 = some 1 := by kernel_rfl
@[simp] theorem fvT_47_1 : fvT Try.prog 47 1 = some (1, 2, true) := by kernel_rfl
@[simp] theorem eqsT_47 : eqsT Try.prog 47 = some [false, false, false] := by kernel_rfl
@[simp] theorem vT_48 : vT Try.prog 48 = some (2, true) := by kernel_rfl
@[simp] theorem zT_48 : zT Try.prog 48 = some [.v (.int .i64 0), .v (.int .i64 0)] := by kernel_rfl
@[simp] theorem sfT_48 : sfT Try.prog 48 = some [(0, 1), (1, 1)] := by kernel_rfl
@[simp] theorem fT_48_0 : fT Try.prog 48 0 = some 0 := by kernel_rfl
@[simp] theorem fvT_48_0 : fvT Try.prog 48 0 = some (0, 1, false) := by kernel_rfl
@[simp] theorem fT_48_1 : fT Try.prog 48 1 = some 1 := by kernel_rfl
@[simp] theorem fvT_48_1 : fvT Try.prog 48 1 = some (1, 1, false) := by kernel_rfl
@[simp] theorem eqsT_48 : eqsT Try.prog 48 = some [false, false] := by kernel_rfl
@[simp] theorem vT_49 : vT Try.prog 49 = some (2, true) := by kernel_rfl
@[simp] theorem zT_49 : zT Try.prog 49 = some [.v (.int .i64 0), .v (.int .i64 0)] := by kernel_rfl
@[simp] theorem sfT_49 : sfT Try.prog 49 = some [(0, 1), (1, 1)] := by kernel_rfl
@[simp] theorem fT_49_0 : fT Try.prog 49 0 = some 0 := by kernel_rfl
@[simp] theorem fvT_49_0 : fvT Try.prog 49 0 = some (0, 1, false) := by kernel_rfl
@[simp] theorem fT_49_1 : fT Try.prog 49 1 = some 1 := by kernel_rfl
@[simp] theorem fvT_49_1 : fvT Try.prog 49 1 = some (1, 1, false) := by kernel_rfl
@[simp] theorem eqsT_49 : eqsT Try.prog 49 = some [false, false] := by kernel_rfl
@[simp] theorem vT_50 : vT Try.prog 50 = some (1, false) := by kernel_rfl
@[simp] theorem zT_50 : zT Try.prog 50 = some [.v (.float .f64 0)] := by kernel_rfl
@[simp] theorem vT_51 : vT Try.prog 51 = some (4, true) := by kernel_rfl
@[simp] theorem zT_51 : zT Try.prog 51 = some [.v (.int .i64 0), .v (.int .i64 0), .v (.int .i64 0), .v (.float .f64 0)] := by kernel_rfl
@[simp] theorem sfT_51 : sfT Try.prog 51 = some [(0, 1), (1, 2), (3, 1)] := by kernel_rfl
@[simp] theorem fT_51_0 : fT Try.prog 51 0 = some 0 := by kernel_rfl
@[simp] theorem fvT_51_0 : fvT Try.prog 51 0 = some (0, 1, false) := by kernel_rfl
@[simp] theorem fT_51_1 : fT Try.prog 51 1 = some 1 := by kernel_rfl
@[simp] theorem fvT_51_1 : fvT Try.prog 51 1 = some (1, 2, true) := by kernel_rfl
@[simp] theorem fT_51_2 : fT Try.prog 51 2 = some 3 := by kernel_rfl
@[simp] theorem fvT_51_2 : fvT Try.prog 51 2 = some (3, 1, false) := by kernel_rfl
@[simp] theorem vT_52 : vT Try.prog 52 = some (4, true) := by kernel_rfl
@[simp] theorem zT_52 : zT Try.prog 52 = some [.v (.int .i64 0), .v (.int .i64 0), .v (.int .i64 0), .v (.float .f64 0)] := by kernel_rfl
@[simp] theorem sfT_52 : sfT Try.prog 52 = some [(0, 1), (1, 2), (3, 1)] := by kernel_rfl
@[simp] theorem fT_52_0 : fT Try.prog 52 0 = some 0 := by kernel_rfl
@[simp] theorem fvT_52_0 : fvT Try.prog 52 0 = some (0, 1, false) := by kernel_rfl
@[simp] theorem fT_52_1 : fT Try.prog 52 1 = some 1 := by kernel_rfl
@[simp] theorem fvT_52_1 : fvT Try.prog 52 1 = some (1, 2, true) := by kernel_rfl
@[simp] theorem fT_52_2 : fT Try.prog 52 2 = some 3 := by kernel_rfl
@[simp] theorem fvT_52_2 : fvT Try.prog 52 2 = some (3, 1, false) := by kernel_rfl
@[simp] theorem vT_54 : vT Try.prog 54 = some (1, false) := by kernel_rfl
@[simp] theorem zT_54 : zT Try.prog 54 = some [.sl .no []] := by kernel_rfl
@[simp] theorem slT_54 : slT Try.prog 54 = some (61, 11, 88) := by kernel_rfl
@[simp] theorem vT_58 : vT Try.prog 58 = some (1, false) := by kernel_rfl
@[simp] theorem zT_58 : zT Try.prog 58 = some [.v (.pointer none)] := by kernel_rfl
@[simp] theorem vT_60 : vT Try.prog 60 = some (11, true) := by kernel_rfl
@[simp] theorem zT_60 : zT Try.prog 60 = some [.v (.int .i64 0), .v (.int .i64 0), .v (.int .i64 0), .v (.int .i64 0), .v (.int .i64 0), .v (.int .i64 0), .v (.int .i64 0), .v (.int .i64 0), .v (.int .i64 0), .v (.float .f64 0), .v (.int .i64 0)] := by kernel_rfl
@[simp] theorem sfT_60 : sfT Try.prog 60 = some [(0, 1), (1, 2), (3, 3), (6, 4), (10, 1)] := by kernel_rfl
@[simp] theorem fT_60_0 : fT Try.prog 60 0 = some 0 := by kernel_rfl
@[simp] theorem fvT_60_0 : fvT Try.prog 60 0 = some (0, 1, false) := by kernel_rfl
@[simp] theorem fT_60_1 : fT Try.prog 60 1 = some 1 := by kernel_rfl
@[simp] theorem fvT_60_1 : fvT Try.prog 60 1 = some (1, 2, true) := by kernel_rfl
@[simp] theorem fT_60_2 : fT Try.prog 60 2 = some 3 := by kernel_rfl
@[simp] theorem fvT_60_2 : fvT Try.prog 60 2 = some (3, 3, true) := by kernel_rfl
@[simp] theorem fT_60_3 : fT Try.prog 60 3 = some 6 := by kernel_rfl
@[simp] theorem fvT_60_3 : fvT Try.prog 60 3 = some (6, 4, true) := by kernel_rfl
@[simp] theorem fT_60_4 : fT Try.prog 60 4 = some 10 := by kernel_rfl
@[simp] theorem fvT_60_4 : fvT Try.prog 60 4 = some (10, 1, false) := by kernel_rfl
@[simp] theorem vT_61 : vT Try.prog 61 = some (11, true) := by kernel_rfl
@[simp] theorem zT_61 : zT Try.prog 61 = some [.v (.int .i64 0), .v (.int .i64 0), .v (.int .i64 0), .v (.int .i64 0), .v (.int .i64 0), .v (.int .i64 0), .v (.int .i64 0), .v (.int .i64 0), .v (.int .i64 0), .v (.float .f64 0), .v (.int .i64 0)] := by kernel_rfl
@[simp] theorem sfT_61 : sfT Try.prog 61 = some [(0, 1), (1, 2), (3, 3), (6, 4), (10, 1)] := by kernel_rfl
@[simp] theorem fT_61_0 : fT Try.prog 61 0 = some 0 := by kernel_rfl
@[simp] theorem fvT_61_0 : fvT Try.prog 61 0 = some (0, 1, false) := by kernel_rfl
@[simp] theorem fT_61_1 : fT Try.prog 61 1 = some 1 := by kernel_rfl
@[simp] theorem fvT_61_1 : fvT Try.prog 61 1 = some (1, 2, true) := by kernel_rfl
@[simp] theorem fT_61_2 : fT Try.prog 61 2 = some 3 := by kernel_rfl
@[simp] theorem fvT_61_2 : fvT Try.prog 61 2 = some (3, 3, true) := by kernel_rfl
@[simp] theorem fT_61_3 : fT Try.prog 61 3 = some 6 := by kernel_rfl
@[simp] theorem fvT_61_3 : fvT Try.prog 61 3 = some (6, 4, true) := by kernel_rfl
@[simp] theorem fT_61_4 : fT Try.prog 61 4 = some 10 := by kernel_rfl
@[simp] theorem fvT_61_4 : fvT Try.prog 61 4 = some (10, 1, false) := by kernel_rfl
@[simp] theorem vT_71 : vT Try.prog 71 = some (1, false) := by kernel_rfl
@[simp] theorem zT_71 : zT Try.prog 71 = some [.sl .no []] := by kernel_rfl
@[simp] theorem slT_71 : slT Try.prog 71 = some (3, 1, 8) := by kernel_rfl
@[simp] theorem vT_73 : vT Try.prog 73 = some (1, false) := by kernel_rfl
@[simp] theorem zT_73 : zT Try.prog 73 = some [.sl .no []] := by kernel_rfl
@[simp] theorem slT_73 : slT Try.prog 73 = some (78, 4, 64) := by kernel_rfl
@[simp] theorem vT_74 : vT Try.prog 74 = some (5, true) := by kernel_rfl
@[simp] theorem zT_74 : zT Try.prog 74 = some [.sl .no [], .v (.int .i64 0), .v (.int .i64 0), .v (.int .i64 0), .v (.bool false)] := by kernel_rfl
@[simp] theorem sfT_74 : sfT Try.prog 74 = some [(0, 1), (1, 1), (2, 1), (3, 1), (4, 1)] := by kernel_rfl
@[simp] theorem fT_74_0 : fT Try.prog 74 0 = some 0 := by kernel_rfl
@[simp] theorem fvT_74_0 : fvT Try.prog 74 0 = some (0, 1, false) := by kernel_rfl
@[simp] theorem fT_74_1 : fT Try.prog 74 1 = some 1 := by kernel_rfl
@[simp] theorem fvT_74_1 : fvT Try.prog 74 1 = some (1, 1, false) := by kernel_rfl
@[simp] theorem fT_74_2 : fT Try.prog 74 2 = some 2 := by kernel_rfl
@[simp] theorem fvT_74_2 : fvT Try.prog 74 2 = some (2, 1, false) := by kernel_rfl
@[simp] theorem fT_74_3 : fT Try.prog 74 3 = some 3 := by kernel_rfl
@[simp] theorem fvT_74_3 : fvT Try.prog 74 3 = some (3, 1, false) := by kernel_rfl
@[simp] theorem fT_74_4 : fT Try.prog 74 4 = some 4 := by kernel_rfl
@[simp] theorem fvT_74_4 : fvT Try.prog 74 4 = some (4, 1, false) := by kernel_rfl
@[simp] theorem vT_75 : vT Try.prog 75 = some (5, true) := by kernel_rfl
@[simp] theorem zT_75 : zT Try.prog 75 = some [.sl .no [], .v (.int .i64 0), .v (.int .i64 0), .v (.int .i64 0), .v (.bool false)] := by kernel_rfl
@[simp] theorem sfT_75 : sfT Try.prog 75 = some [(0, 1), (1, 1), (2, 1), (3, 1), (4, 1)] := by kernel_rfl
@[simp] theorem fT_75_0 : fT Try.prog 75 0 = some 0 := by kernel_rfl
@[simp] theorem fvT_75_0 : fvT Try.prog 75 0 = some (0, 1, false) := by kernel_rfl
@[simp] theorem fT_75_1 : fT Try.prog 75 1 = some 1 := by kernel_rfl
@[simp] theorem fvT_75_1 : fvT Try.prog 75 1 = some (1, 1, false) := by kernel_rfl
@[simp] theorem fT_75_2 : fT Try.prog 75 2 = some 2 := by kernel_rfl
@[simp] theorem fvT_75_2 : fvT Try.prog 75 2 = some (2, 1, false) := by kernel_rfl
@[simp] theorem fT_75_3 : fT Try.prog 75 3 = some 3 := by kernel_rfl
@[simp] theorem fvT_75_3 : fvT Try.prog 75 3 = some (3, 1, false) := by kernel_rfl
@[simp] theorem fT_75_4 : fT Try.prog 75 4 = some 4 := by kernel_rfl
@[simp] theorem fvT_75_4 : fvT Try.prog 75 4 = some (4, 1, false) := by kernel_rfl
@[simp] theorem vT_77 : vT Try.prog 77 = some (4, true) := by kernel_rfl
@[simp] theorem zT_77 : zT Try.prog 77 = some [.v (.int .i64 0), .v (.int .i64 0), .sl .no [], .sl .no []] := by kernel_rfl
@[simp] theorem sfT_77 : sfT Try.prog 77 = some [(0, 1), (1, 1), (2, 1), (3, 1)] := by kernel_rfl
@[simp] theorem fT_77_0 : fT Try.prog 77 0 = some 0 := by kernel_rfl
@[simp] theorem fvT_77_0 : fvT Try.prog 77 0 = some (0, 1, false) := by kernel_rfl
@[simp] theorem fT_77_1 : fT Try.prog 77 1 = some 1 := by kernel_rfl
@[simp] theorem fvT_77_1 : fvT Try.prog 77 1 = some (1, 1, false) := by kernel_rfl
@[simp] theorem fT_77_2 : fT Try.prog 77 2 = some 2 := by kernel_rfl
@[simp] theorem fvT_77_2 : fvT Try.prog 77 2 = some (2, 1, false) := by kernel_rfl
@[simp] theorem fT_77_3 : fT Try.prog 77 3 = some 3 := by kernel_rfl
@[simp] theorem fvT_77_3 : fvT Try.prog 77 3 = some (3, 1, false) := by kernel_rfl
@[simp] theorem vT_78 : vT Try.prog 78 = some (4, true) := by kernel_rfl
@[simp] theorem zT_78 : zT Try.prog 78 = some [.v (.int .i64 0), .v (.int .i64 0), .sl .no [], .sl .no []] := by kernel_rfl
@[simp] theorem sfT_78 : sfT Try.prog 78 = some [(0, 1), (1, 1), (2, 1), (3, 1)] := by kernel_rfl
@[simp] theorem fT_78_0 : fT Try.prog 78 0 = some 0 := by kernel_rfl
@[simp] theorem fvT_78_0 : fvT Try.prog 78 0 = some (0, 1, false) := by kernel_rfl
@[simp] theorem fT_78_1 : fT Try.prog 78 1 = some 1 := by kernel_rfl
@[simp] theorem fvT_78_1 : fvT Try.prog 78 1 = some (1, 1, false) := by kernel_rfl
@[simp] theorem fT_78_2 : fT Try.prog 78 2 = some 2 := by kernel_rfl
@[simp] theorem fvT_78_2 : fvT Try.prog 78 2 = some (2, 1, false) := by kernel_rfl
@[simp] theorem fT_78_3 : fT Try.prog 78 3 = some 3 := by kernel_rfl
@[simp] theorem fvT_78_3 : fvT Try.prog 78 3 = some (3, 1, false) := by kernel_rfl
@[simp] theorem vT_87 : vT Try.prog 87 = some (1, false) := by kernel_rfl
@[simp] theorem zT_87 : zT Try.prog 87 = some [.sl .no []] := by kernel_rfl
@[simp] theorem slT_87 : slT Try.prog 87 = some (54, 1, 24) := by kernel_rfl
@[simp] theorem vT_95 : vT Try.prog 95 = some (1, false) := by kernel_rfl
@[simp] theorem zT_95 : zT Try.prog 95 = some [.v (.pointer none)] := by kernel_rfl
@[simp] theorem vT_96 : vT Try.prog 96 = some (2, true) := by kernel_rfl
@[simp] theorem zT_96 : zT Try.prog 96 = some [.sl .no [], .v (.bool false)] := by kernel_rfl
@[simp] theorem sfT_96 : sfT Try.prog 96 = some [(0, 1), (1, 1)] := by kernel_rfl
@[simp] theorem fT_96_0 : fT Try.prog 96 0 = some 0 := by kernel_rfl
@[simp] theorem fvT_96_0 : fvT Try.prog 96 0 = some (0, 1, false) := by kernel_rfl
@[simp] theorem fT_96_1 : fT Try.prog 96 1 = some 1 := by kernel_rfl
@[simp] theorem fvT_96_1 : fvT Try.prog 96 1 = some (1, 1, false) := by kernel_rfl
@[simp] theorem vT_97 : vT Try.prog 97 = some (2, true) := by kernel_rfl
@[simp] theorem zT_97 : zT Try.prog 97 = some [.sl .no [], .v (.bool false)] := by kernel_rfl
@[simp] theorem sfT_97 : sfT Try.prog 97 = some [(0, 1), (1, 1)] := by kernel_rfl
@[simp] theorem fT_97_0 : fT Try.prog 97 0 = some 0 := by kernel_rfl
@[simp] theorem fvT_97_0 : fvT Try.prog 97 0 = some (0, 1, false) := by kernel_rfl
@[simp] theorem fT_97_1 : fT Try.prog 97 1 = some 1 := by kernel_rfl
@[simp] theorem fvT_97_1 : fvT Try.prog 97 1 = some (1, 1, false) := by kernel_rfl
@[simp] theorem vT_98 : vT Try.prog 98 = some (1, false) := by kernel_rfl
@[simp] theorem zT_98 : zT Try.prog 98 = some [.v (.pointer none)] := by kernel_rfl
@[simp] theorem vT_99 : vT Try.prog 99 = some (1, false) := by kernel_rfl
@[simp] theorem zT_99 : zT Try.prog 99 = some [.sl .no []] := by kernel_rfl
@[simp] theorem slT_99 : slT Try.prog 99 = some (98, 1, 8) := by kernel_rfl
@[simp] theorem vT_102 : vT Try.prog 102 = some (1, false) := by kernel_rfl
@[simp] theorem zT_102 : zT Try.prog 102 = some [.v (.int .u64 0)] := by kernel_rfl
@[simp] theorem ikT_102 : ikT Try.prog 102 = some .u64 := by kernel_rfl
@[simp] theorem uS_102 : (Try.prog.underlying 102).isSome = true := by kernel_rfl
@[simp] theorem vT_107 : vT Try.prog 107 = some (1, false) := by kernel_rfl
@[simp] theorem zT_107 : zT Try.prog 107 = some [.sl .no []] := by kernel_rfl
@[simp] theorem slT_107 : slT Try.prog 107 = some (102, 1, 8) := by kernel_rfl
@[simp] theorem vT_129 : vT Try.prog 129 = some (5, true) := by kernel_rfl
@[simp] theorem zT_129 : zT Try.prog 129 = some [.sl .no [], .v (.int .i64 0), .v (.int .i64 0), .v (.int .i64 0), .v (.bool false)] := by kernel_rfl
@[simp] theorem sfT_129 : sfT Try.prog 129 = some [(0, 1), (1, 1), (2, 1), (3, 1), (4, 1)] := by kernel_rfl
@[simp] theorem fT_129_0 : fT Try.prog 129 0 = some 0 := by kernel_rfl
@[simp] theorem fvT_129_0 : fvT Try.prog 129 0 = some (0, 1, false) := by kernel_rfl
@[simp] theorem fT_129_1 : fT Try.prog 129 1 = some 1 := by kernel_rfl
@[simp] theorem fvT_129_1 : fvT Try.prog 129 1 = some (1, 1, false) := by kernel_rfl
@[simp] theorem fT_129_2 : fT Try.prog 129 2 = some 2 := by kernel_rfl
@[simp] theorem fvT_129_2 : fvT Try.prog 129 2 = some (2, 1, false) := by kernel_rfl
@[simp] theorem fT_129_3 : fT Try.prog 129 3 = some 3 := by kernel_rfl
@[simp] theorem fvT_129_3 : fvT Try.prog 129 3 = some (3, 1, false) := by kernel_rfl
@[simp] theorem fT_129_4 : fT Try.prog 129 4 = some 4 := by kernel_rfl
@[simp] theorem fvT_129_4 : fvT Try.prog 129 4 = some (4, 1, false) := by kernel_rfl
@[simp] theorem vT_130 : vT Try.prog 130 = some (5, true) := by kernel_rfl
@[simp] theorem zT_130 : zT Try.prog 130 = some [.sl .no [], .v (.int .i64 0), .v (.int .i64 0), .v (.int .i64 0), .v (.bool false)] := by kernel_rfl
@[simp] theorem sfT_130 : sfT Try.prog 130 = some [(0, 1), (1, 1), (2, 1), (3, 1), (4, 1)] := by kernel_rfl
@[simp] theorem fT_130_0 : fT Try.prog 130 0 = some 0 := by kernel_rfl
@[simp] theorem fvT_130_0 : fvT Try.prog 130 0 = some (0, 1, false) := by kernel_rfl
@[simp] theorem fT_130_1 : fT Try.prog 130 1 = some 1 := by kernel_rfl
@[simp] theorem fvT_130_1 : fvT Try.prog 130 1 = some (1, 1, false) := by kernel_rfl
@[simp] theorem fT_130_2 : fT Try.prog 130 2 = some 2 := by kernel_rfl
@[simp] theorem fvT_130_2 : fvT Try.prog 130 2 = some (2, 1, false) := by kernel_rfl
@[simp] theorem fT_130_3 : fT Try.prog 130 3 = some 3 := by kernel_rfl
@[simp] theorem fvT_130_3 : fvT Try.prog 130 3 = some (3, 1, false) := by kernel_rfl
@[simp] theorem fT_130_4 : fT Try.prog 130 4 = some 4 := by kernel_rfl
@[simp] theorem fvT_130_4 : fvT Try.prog 130 4 = some (4, 1, false) := by kernel_rfl
@[simp] theorem vT_154 : vT Try.prog 154 = some (1, false) := by kernel_rfl
@[simp] theorem zT_154 : zT Try.prog 154 = some [.v (.int .u64 0)] := by kernel_rfl
@[simp] theorem ikT_154 : ikT Try.prog 154 = some .u64 := by kernel_rfl
@[simp] theorem uS_154 : (Try.prog.underlying 154).isSome = true := by kernel_rfl
@[simp] theorem vT_162 : vT Try.prog 162 = some (1, false) := by kernel_rfl
@[simp] theorem zT_162 : zT Try.prog 162 = some [.sl .no []] := by kernel_rfl
@[simp] theorem slT_162 : slT Try.prog 162 = some (30, 1, 24) := by kernel_rfl
@[simp] theorem vT_169 : vT Try.prog 169 = some (4, true) := by kernel_rfl
@[simp] theorem zT_169 : zT Try.prog 169 = some [.v (.pointer none), .v (.pointer none), .v (.pointer none), .v (.string ByteArray.empty)] := by kernel_rfl
@[simp] theorem sfT_169 : sfT Try.prog 169 = some [(0, 1), (1, 1), (2, 1), (3, 1)] := by kernel_rfl
@[simp] theorem fT_169_0 : fT Try.prog 169 0 = some 0 := by kernel_rfl
@[simp] theorem fvT_169_0 : fvT Try.prog 169 0 = some (0, 1, false) := by kernel_rfl
@[simp] theorem fT_169_1 : fT Try.prog 169 1 = some 1 := by kernel_rfl
@[simp] theorem fvT_169_1 : fvT Try.prog 169 1 = some (1, 1, false) := by kernel_rfl
@[simp] theorem fT_169_2 : fT Try.prog 169 2 = some 2 := by kernel_rfl
@[simp] theorem fvT_169_2 : fvT Try.prog 169 2 = some (2, 1, false) := by kernel_rfl
@[simp] theorem fT_169_3 : fT Try.prog 169 3 = some 3 := by kernel_rfl
@[simp] theorem fvT_169_3 : fvT Try.prog 169 3 = some (3, 1, false) := by kernel_rfl
@[simp] theorem vT_171 : vT Try.prog 171 = some (0, true) := by kernel_rfl
@[simp] theorem zT_171 : zT Try.prog 171 = some [] := by kernel_rfl
@[simp] theorem arT_171 : arT Try.prog 171 = some (0, 1) := by kernel_rfl
@[simp] theorem sfT_171 : sfT Try.prog 171 = none := by kernel_rfl
@[simp] theorem vT_172 : vT Try.prog 172 = some (0, true) := by kernel_rfl
@[simp] theorem zT_172 : zT Try.prog 172 = some [] := by kernel_rfl
@[simp] theorem sfT_172 : sfT Try.prog 172 = some [(0, 0)] := by kernel_rfl
@[simp] theorem vT_177 : vT Try.prog 177 = some (1, false) := by kernel_rfl
@[simp] theorem zT_177 : zT Try.prog 177 = some [.v (.pointer none)] := by kernel_rfl
@[simp] theorem vT_180 : vT Try.prog 180 = some (11, true) := by kernel_rfl
@[simp] theorem zT_180 : zT Try.prog 180 = some [.v (.int .u64 0), .v (.int .u64 0), .v (.int .u32 0), .v (.int .u8 0), .v (.int .u8 0), .v (.int .u8 0), .v (.int .u8 0), .v .nilFunc, .v (.pointer none), .v (.int .i32 0), .v (.int .i32 0)] := by kernel_rfl
@[simp] theorem sfT_180 : sfT Try.prog 180 = some [(0, 1), (1, 1), (2, 1), (3, 1), (4, 1), (5, 1), (6, 1), (7, 1), (8, 1), (9, 1), (10, 1)] := by kernel_rfl
@[simp] theorem fT_180_0 : fT Try.prog 180 0 = some 0 := by kernel_rfl
@[simp] theorem fvT_180_0 : fvT Try.prog 180 0 = some (0, 1, false) := by kernel_rfl
@[simp] theorem fT_180_1 : fT Try.prog 180 1 = some 1 := by kernel_rfl
@[simp] theorem fvT_180_1 : fvT Try.prog 180 1 = some (1, 1, false) := by kernel_rfl
@[simp] theorem fT_180_2 : fT Try.prog 180 2 = some 2 := by kernel_rfl
@[simp] theorem fvT_180_2 : fvT Try.prog 180 2 = some (2, 1, false) := by kernel_rfl
@[simp] theorem fT_180_3 : fT Try.prog 180 3 = some 3 := by kernel_rfl
@[simp] theorem fvT_180_3 : fvT Try.prog 180 3 = some (3, 1, false) := by kernel_rfl
@[simp] theorem fT_180_4 : fT Try.prog 180 4 = some 4 := by kernel_rfl
@[simp] theorem fvT_180_4 : fvT Try.prog 180 4 = some (4, 1, false) := by kernel_rfl
@[simp] theorem fT_180_5 : fT Try.prog 180 5 = some 5 := by kernel_rfl
@[simp] theorem fvT_180_5 : fvT Try.prog 180 5 = some (5, 1, false) := by kernel_rfl
@[simp] theorem fT_180_6 : fT Try.prog 180 6 = some 6 := by kernel_rfl
@[simp] theorem fvT_180_6 : fvT Try.prog 180 6 = some (6, 1, false) := by kernel_rfl
@[simp] theorem fT_180_7 : fT Try.prog 180 7 = some 7 := by kernel_rfl
@[simp] theorem fvT_180_7 : fvT Try.prog 180 7 = some (7, 1, false) := by kernel_rfl
@[simp] theorem fT_180_8 : fT Try.prog 180 8 = some 8 := by kernel_rfl
@[simp] theorem fvT_180_8 : fvT Try.prog 180 8 = some (8, 1, false) := by kernel_rfl
@[simp] theorem fT_180_9 : fT Try.prog 180 9 = some 9 := by kernel_rfl
@[simp] theorem fvT_180_9 : fvT Try.prog 180 9 = some (9, 1, false) := by kernel_rfl
@[simp] theorem fT_180_10 : fT Try.prog 180 10 = some 10 := by kernel_rfl
@[simp] theorem fvT_180_10 : fvT Try.prog 180 10 = some (10, 1, false) := by kernel_rfl
@[simp] theorem follows_mixed : Try.prog.follows .mixedOrders = true := by kernel_rfl
end Go.Proofs.Ytbgifnlaaophcaa

/- Words: how plain data lie in Go. No condition. -/
set_option linter.unusedSimpArgs false
set_option linter.unusedVariables false
namespace Go.Proofs.Ytbgifnlaaophcaa
open Go Go.Rw Go.Proofs

/-- a slice that the caller may append to -/
def Own (e sz : Nat) (rows : List (List AV)) (r : AV) : Prop := ∃ tag, appOK tag e sz ∧ r = .sl tag rows

theorem Own.intro {e sz : Nat} {rows : List (List AV)} (tag : Tag) (h : appOK tag e sz) : Own e sz rows (.sl tag rows) := ⟨tag, h, rfl⟩

def encB (b : UInt8) : List AV := [.v (.int .u8 (b.toNat : Int))]
def eB (l : List UInt8) : List (List AV) := l.map encB

@[simp] theorem eB_length (l : List UInt8) : (eB l).length = l.length := by simp [eB]
@[simp] theorem eB_nil : eB [] = [] := rfl
@[simp] theorem eB_append (l m : List UInt8) : eB l ++ eB m = eB (l ++ m) := by simp [eB]
@[simp] theorem eB_get (l : List UInt8) (i : Nat) : (eB l)[i]? = (l[i]?).map encB := by simp [eB]
@[simp] theorem eB_getE (l : List UInt8) (i : Nat) (h : i < (eB l).length) : (eB l)[i] = encB (l[i]'(by simpa using h)) := by simp [eB]
@[simp] theorem eB_drop (l : List UInt8) (i : Nat) : (eB l).drop i = eB (l.drop i) := by simp [eB]
@[simp] theorem eB_take (l : List UInt8) (i : Nat) : (eB l).take i = eB (l.take i) := by simp [eB]
@[simp] theorem eB_tail (l : List UInt8) : (eB l).tail = eB l.tail := by cases l <;> rfl
@[simp] theorem encB_length (b : UInt8) : (encB b).length = 1 := rfl
theorem eB_one (l : List UInt8) : ∀ r ∈ eB l, r.length = 1 := by
  intro r hr
  obtain ⟨b, _, rfl⟩ := List.mem_map.1 hr
  rfl
@[simp] theorem eB_rows (l : List UInt8) : (∀ r : List AV, r ∈ eB l → r.length = 1) ↔ True := iff_of_true (eB_one l) trivial
@[simp] theorem rowsBytes_eB (l : List UInt8) : rowsBytes (eB l) = some l := by
  induction l with
  | nil => rfl
  | cons b l ih =>
    simp only [eB, List.map_cons, rowsBytes, rowByte, encB] at *
    simp [ih]

def encU (n : Nat) : List AV := [.v (.int .u64 (n : Int))]
def eU (l : List Nat) : List (List AV) := l.map encU
@[simp] theorem eU_length (l : List Nat) : (eU l).length = l.length := by simp [eU]
@[simp] theorem eU_nil : eU [] = [] := rfl
@[simp] theorem eU_append (l m : List Nat) : eU l ++ eU m = eU (l ++ m) := by simp [eU]
@[simp] theorem eU_get (l : List Nat) (i : Nat) : (eU l)[i]? = (l[i]?).map encU := by simp [eU]
@[simp] theorem eU_getE (l : List Nat) (i : Nat) (h : i < (eU l).length) : (eU l)[i] = encU (l[i]'(by simpa using h)) := by simp [eU]
theorem eU_one (l : List Nat) : ∀ r ∈ eU l, r.length = 1 := by
  intro r hr
  obtain ⟨b, _, rfl⟩ := List.mem_map.1 hr
  rfl

@[simp] theorem eU_rows (l : List Nat) : (∀ r : List AV, r ∈ eU l → r.length = 1) ↔ True := iff_of_true (eU_one l) trivial

theorem eB_push (l : List UInt8) (n : Nat) (h : n < 256) : eB l ++ [[AV.v (.int .u8 (n : Int))]] = eB (l ++ [UInt8.ofNat n]) := by
  have : (UInt8.ofNat n).toNat = n := by simp; omega
  simp [eB, encB, this]
theorem eB_pushw (l : List UInt8) (n : Nat) : eB l ++ [[AV.v (.int .u8 (IntKind.u8.wrap (n : Int)))]] = eB (l ++ [UInt8.ofNat n]) := by
  have h1 : IntKind.u8.wrap (n : Int) = ((n % 256 : Nat) : Int) := by simp [IntKind.wrap, IntKind.bits, IntKind.signed]
  have h2 : (UInt8.ofNat n).toNat = n % 256 := by simp
  rw [h1, ← h2]; simp [eB, encB]

end Go.Proofs.Ytbgifnlaaophcaa

/- Contracts: bytes. No condition. -/
set_option linter.unusedSimpArgs false
set_option linter.unusedVariables false
set_option maxRecDepth 10000
namespace Go.Proofs.Ytbgifnlaaophcaa
open Go Go.Rw Go.Proofs
-- a goal is never to be run by the elaborator
attribute [local irreducible] awp aops aop aopsE aeff

theorem clone_bytes (l : List UInt8) (hl : l.length ≤ 140737488355328) : ASpec Try.prog 80 [.sl .no (eB l)] (Own 5 1 (eB l)) := by
  refine ASpec.of_awp Try.func80 (by kernel_rfl) rfl (by rw [Try.results80]) Try.ntmps80 ?_
  simp -implicitDefEqProofs
  refine nilK.intro (fun h => ?_) ?_
  · simp -implicitDefEqProofs [h]; exact Own.intro _ (by simp)
  · simp -implicitDefEqProofs [hl]; exact Own.intro _ (by simp)

theorem len8_get : ∀ x : Fin 256, Lib.len8tab[x.val]? = some (UInt8.ofNat (Lib.bitLen x.val)) := by decide +kernel

def LenSt (n bd cb : Nat) (t : Nat → AV) (_ : Nat → Option (List AV)) : Prop := ∃ x c : Nat, t 0 = .v (.int .u64 x) ∧ t 2 = .v (.int .i64 c) ∧ c + Lib.bitLen x = Lib.bitLen n ∧ x < bd ∧ c ≤ cb

theorem len64_spec (n : Nat) (h : n < 18446744073709551616) : ASpec Try.prog 129 [.v (.int .u64 n)] (· = .v (.int .i64 (Lib.bitLen n : Nat))) := by
  have hn64 : Lib.bitLen n ≤ 64 := Lib.bitLen_le n 64 (by omega) h
  refine ASpec.of_awp Try.func129 (by kernel_rfl) rfl (by rw [Try.results129]) Try.ntmps129 ?_
  simp -implicitDefEqProofs
  refine branch_join (LenSt n 4294967296 32) (fun hb => ?_) (fun hb => ?_) ?_
  · simp at hb
    have hs := Lib.bitLen_shift32 n (by omega) (by omega)
    simp -implicitDefEqProofs [aNum_shr, IntKind.bits]
    exact ⟨n / 4294967296, 32, by simp [Int.fdiv_eq_ediv_of_nonneg], by simp, by omega, by omega, by omega⟩
  · simp at hb
    simp -implicitDefEqProofs
    exact ⟨n, 0, by simp, by simp, by omega, by omega, by omega⟩
  rintro t hh ⟨x, c, h0, h2, hl, hx, hc⟩
  simp -implicitDefEqProofs [h0]
  refine branch_join (LenSt n 65536 48) (fun hb => ?_) (fun hb => ?_) ?_
  · simp at hb
    have hs := Lib.bitLen_shift16 x (by omega) (by omega)
    simp -implicitDefEqProofs (disch := omega) [aNum_shr, IntKind.bits, h0, h2, w64]
    exact ⟨x / 65536, c + 16, by simp [Int.fdiv_eq_ediv_of_nonneg], by simp, by omega, by omega, by omega⟩
  · simp at hb
    simp -implicitDefEqProofs
    exact ⟨x, c, by simp [h0], by simp [h2], by omega, by omega, by omega⟩
  clear h0 h2 hl hx hc
  rintro t hh ⟨x, c, h0, h2, hl, hx, hc⟩
  simp -implicitDefEqProofs [h0]
  refine branch_join (LenSt n 256 56) (fun hb => ?_) (fun hb => ?_) ?_
  · simp at hb
    have hs := Lib.bitLen_shift8 x (by omega) (by omega)
    simp -implicitDefEqProofs (disch := omega) [aNum_shr, IntKind.bits, h0, h2, w64]
    exact ⟨x / 256, c + 8, by simp [Int.fdiv_eq_ediv_of_nonneg], by simp, by omega, by omega, by omega⟩
  · simp at hb
    simp -implicitDefEqProofs
    exact ⟨x, c, by simp [h0], by simp [h2], by omega, by omega, by omega⟩
  clear h0 h2 hl hx hc
  rintro t hh ⟨x, c, h0, h2, hl, hx, hc⟩
  have ht := len8_get ⟨x, hx⟩
  simp only at ht
  have hb8 := Lib.bitLen_le8 ⟨x, hx⟩
  simp only at hb8
  have hw : IntKind.u8.wrap (x : Int) = x := wu8 (by omega) (by omega)
  simp -implicitDefEqProofs (disch := omega) [h0, h2, hw]
  rw [show ({data := _} : ByteArray)[x]? = some (UInt8.ofNat (Lib.bitLen x)) from ht]
  have hm : Lib.bitLen x % 256 = Lib.bitLen x := by omega
  simp -implicitDefEqProofs (disch := omega) [w64, hm]
  omega
end Go.Proofs.Ytbgifnlaaophcaa

/- Contracts: numbers as bytes. No condition. -/
set_option linter.unusedSimpArgs false
set_option linter.unusedVariables false
set_option maxRecDepth 10000
namespace Go.Proofs.Ytbgifnlaaophcaa
open Go Go.Rw Go.Proofs
-- a goal is never to be run by the elaborator
attribute [local irreducible] awp aops aop aopsE aeff

theorem size_spec (n : Nat) (h : n < 18446744073709551616) : ASpec Try.prog 118 [.v (.int .u64 n)] (· = .v (.int .i64 (sizeN n : Nat))) := by
  have hn64 : Lib.bitLen n ≤ 64 := Lib.bitLen_le n 64 (by omega) h
  refine ASpec.of_awp Try.func118 (by kernel_rfl) rfl (by rw [Try.results118]) Try.ntmps118 ?_
  simp -implicitDefEqProofs
  refine CallK.eq (len64_spec n h) ?_
  simp -implicitDefEqProofs (disch := omega) [w64]
  unfold sizeN
  omega

def PutI (b : List UInt8) (ns : List Nat) (t : Nat → AV) (_ : Nat → Option (List AV)) : Prop := ∃ (k : Nat) (out : List UInt8) (tag : Tag), t 11 = .sl .no (eU ns) ∧ t 12 = .v (.int .i64 ns.length) ∧ t 13 = .v (.int .i64 k) ∧
  t 5 = .sl tag (eB out) ∧ appOK tag 5 1 ∧ k ≤ ns.length ∧ out ++ forms (ns.drop k) = b ++ forms ns ∧ out.length ≤ b.length + 9 * k
def PutJ (b : List UInt8) (ns : List Nat) (k n : Nat) (out' : List UInt8) (t : Nat → AV) (_ : Nat → Option (List AV)) : Prop := ∃ (j : Nat) (out : List UInt8) (tag : Tag), t 11 = .sl .no (eU ns) ∧ t 12 = .v (.int .i64 ns.length) ∧ t 13 = .v (.int .i64 k) ∧
  t 5 = .sl tag (eB out) ∧ appOK tag 5 1 ∧ t 7 = .v (.int .u64 n) ∧ t 8 = .v (.int .i64 j) ∧ j ≤ 8 ∧ out ++ dig j n = out'

theorem put_spec (b : List UInt8) (ns : List Nat) (hns : ∀ n ∈ ns, n < 18446744073709551616) (hl : b.length + 9 * ns.length ≤ 140737488355328) :
    ASpec Try.prog 75 [.sl .no (eB b), .sl .no (eU ns)] (Own 5 1 (eB (b ++ forms ns))) := by
  refine ASpec.of_awp Try.func75 (by kernel_rfl) rfl (by rw [Try.results75]) Try.ntmps75 ?_
  simp -implicitDefEqProofs
  refine CallK.of (clone_bytes b (by omega)) ?_
  rintro _ ⟨tag, htag, rfl⟩
  simp -implicitDefEqProofs
  intro hlen
  refine loopK.intro (PutI b ns) (fun t => ns.length - natOf (t 13)) ?_ ?_
  · exact ⟨0, b, tag, by simp, by simp, by simp, by simp, htag, by omega, by simp, by omega⟩
  · rintro t hh ⟨k, out, tag, h11, h12, h13, h5, ht, hk, ho, hol⟩
    simp -implicitDefEqProofs [h12, h13]
    refine branch_dec (fun hlt => ?_) (fun hlt => ?_)
    · have hlt : k < ns.length := by omega
      have hx : ns[k]? = some ns[k] := by simp [hlt]
      have hx64 := hns ns[k] (List.getElem_mem hlt)
      have hsz := sizeN_le hx64
      simp -implicitDefEqProofs [h11, h12, h13, hx, hlt, encU]
      refine CallK.eq (size_spec _ hx64) ?_
      have hw : IntKind.u8.wrap (sizeN ns[k] : Int) = (sizeN ns[k] : Int) := wu8 (by omega) (by omega)
      simp -implicitDefEqProofs [h5, ht, hw]
      refine ⟨by omega, ?_⟩
      rw [eB_push _ _ (by omega)]
      refine loopK.intro (PutJ b ns k ns[k] (out ++ formF ns[k])) (fun t => natOf (t 8)) ?_ ?_
      · exact ⟨sizeN ns[k], out ++ [UInt8.ofNat (sizeN ns[k])], _, by simp [h11], by simp [h12], by simp [h13], by simp; rfl, by simp, by simp, by simp, hsz, by simp [formF]⟩
      · rintro t2 hh2 ⟨j, o2, tag2, g11, g12, g13, g5, gt, g7, g8, hj, ho2⟩
        simp -implicitDefEqProofs [g8]
        cases j with
        | zero =>
          simp -implicitDefEqProofs (disch := omega) [g13, w64]
          simp only [dig, List.append_nil] at ho2
          subst ho2
          refine ⟨⟨k + 1, out ++ formF ns[k], tag2, by simp [g11], by simp [g12], by simp, by simp [g5], gt, by omega, ?_, ?_⟩, ?_⟩
          · rw [← ho, List.drop_eq_getElem_cons hlt, forms_cons]; simp
          · simp [formF]; omega
          · simp [natOf, h13]; omega
        | succ j =>
          simp -implicitDefEqProofs (disch := omega) [g5, g7, g8, gt, w64, aNum_shr]
          have hfd : Int.fdiv (ns[k] : Int) (2 ^ min (8 * (j : Int)).toNat IntKind.u64.bits) = ((ns[k] / 256 ^ j : Nat) : Int) := by
            have h1 : min (8 * (j : Int)).toNat IntKind.u64.bits = 8 * j := by simp [IntKind.bits]; omega
            rw [h1, Int.fdiv_eq_ediv_of_nonneg _ (by exact_mod_cast Nat.zero_le _), show (256 : Nat) ^ j = 2 ^ (8 * j) by rw [Nat.pow_mul]]
            norm_cast
          rw [hfd, eB_pushw]
          have hlen2 : o2.length + (j + 1) = out.length + sizeN ns[k] + 1 := by
            have := congrArg List.length ho2
            simp [formF] at this
            omega
          refine ⟨by omega, j, o2 ++ [UInt8.ofNat (ns[k] / 256 ^ j)], _, by simp [g11], by simp [g12], by simp [g13], by simp; rfl, by simp, by simp [g7], by simp, by omega, ?_⟩
          rw [← ho2]
          simp [dig]
    · have hk' : k = ns.length := by omega
      subst hk'
      simp -implicitDefEqProofs [h5]
      simp [forms] at ho
      rw [ho]
      exact ⟨tag, ht, rfl⟩

end Go.Proofs.Ytbgifnlaaophcaa

/- Contracts: sums and frames. No condition. -/
set_option linter.unusedSimpArgs false
set_option linter.unusedVariables false
set_option maxRecDepth 10000
namespace Go.Proofs.Ytbgifnlaaophcaa
open Go Go.Rw Go.Proofs
-- a goal is never to be run by the elaborator
attribute [local irreducible] awp aops aop aopsE aeff

/-- slices of bytes, side by side -/
def eBB (l : List (List UInt8)) : List (List AV) := l.map fun p => [.sl .no (eB p)]
@[simp] theorem eBB_length (l : List (List UInt8)) : (eBB l).length = l.length := by simp [eBB]
@[simp] theorem eBB_get (l : List (List UInt8)) (i : Nat) : (eBB l)[i]? = (l[i]?).map fun p => [.sl .no (eB p)] := by simp [eBB]

def OfI (parts : List (List UInt8)) (t : Nat → AV) (_ : Nat → Option (List AV)) : Prop := ∃ (k : Nat) (c : BitVec 32), t 8 = .sl .no (eBB parts) ∧ t 9 = .v (.int .i64 parts.length) ∧ t 10 = .v (.int .i64 k) ∧
  t 3 = .v (.int .u32 (n32 c)) ∧ k ≤ parts.length ∧ crcL c (parts.drop k).flatten = crcL (BitVec.allOnes 32) parts.flatten
def OfJ (parts : List (List UInt8)) (k : Nat) (p : List UInt8) (c' : BitVec 32) (t : Nat → AV) (_ : Nat → Option (List AV)) : Prop := ∃ (j : Nat) (c : BitVec 32), t 8 = .sl .no (eBB parts) ∧ t 9 = .v (.int .i64 parts.length) ∧ t 10 = .v (.int .i64 k) ∧
  t 3 = .v (.int .u32 (n32 c)) ∧ t 14 = .sl .no (eB p) ∧ t 15 = .v (.int .i64 p.length) ∧ t 16 = .v (.int .i64 j) ∧ j ≤ p.length ∧ crcL c (p.drop j) = c'
def OfK (parts : List (List UInt8)) (k : Nat) (p : List UInt8) (j : Nat) (c' : BitVec 32) (t : Nat → AV) (_ : Nat → Option (List AV)) : Prop := ∃ (m : Nat) (c : BitVec 32), t 8 = .sl .no (eBB parts) ∧ t 9 = .v (.int .i64 parts.length) ∧ t 10 = .v (.int .i64 k) ∧
  t 3 = .v (.int .u32 (n32 c)) ∧ t 14 = .sl .no (eB p) ∧ t 15 = .v (.int .i64 p.length) ∧ t 16 = .v (.int .i64 j) ∧ t 24 = .v (.int .i64 m) ∧ m ≤ 8 ∧ crcBits (8 - m) c = c'

theorem of_spec (parts : List (List UInt8)) : ASpec Try.prog 111 [.sl .no (eBB parts)] (· = .v (.int .u32 (n32 (crcOf parts.flatten)))) := by
  refine ASpec.of_awp Try.func111 (by kernel_rfl) rfl (by rw [Try.results111]) Try.ntmps111 ?_
  simp -implicitDefEqProofs
  intro hlen
  refine loopK.intro (OfI parts) (fun t => parts.length - natOf (t 10)) ?_ ?_
  · exact ⟨0, BitVec.allOnes 32, by simp, by simp, by simp, by simp; rfl, by omega, by simp⟩
  rintro t hh ⟨k, c, h8, h9, h10, h3, hk, hc⟩
  simp -implicitDefEqProofs [h9, h10]
  refine branch_dec (fun hlt => ?_) (fun hlt => ?_)
  · have hlt : k < parts.length := by omega
    have hx : parts[k]? = some parts[k] := by simp [hlt]
    simp -implicitDefEqProofs [h8, h9, h10, hx]
    intro hlen2
    refine loopK.intro (OfJ parts k parts[k] (crcL c parts[k])) (fun t => parts[k].length - natOf (t 16)) ?_ ?_
    · exact ⟨0, c, by simp [h8], by simp [h9], by simp [h10], by simp [h3], by simp, by simp, by simp, by omega, by simp⟩
    rintro t2 hh2 ⟨j, c2, g8, g9, g10, g3, g14, g15, g16, hj, hc2⟩
    simp -implicitDefEqProofs [g15, g16]
    refine branch_dec (fun hlt2 => ?_) (fun hlt2 => ?_)
    · have hlt2 : j < parts[k].length := by omega
      have hx2 : parts[k][j]? = some parts[k][j] := by simp [hlt2]
      have hb := w32_n parts[k][j].toNat (by have := parts[k][j].toNat_lt; omega)
      simp -implicitDefEqProofs [g14, g16, g3, hx2, encB, hb, bw_xor]
      refine loopK.intro (OfK parts k parts[k] j (crcByte c2 parts[k][j])) (fun t => 8 - natOf (t 24)) ?_ ?_
      · exact ⟨0, c2 ^^^ BitVec.ofNat 32 parts[k][j].toNat, by simp [g8], by simp [g9], by simp [g10], by simp, by simp [g14], by simp [g15], by simp [g16], by simp, by omega, rfl⟩
      rintro t3 hh3 ⟨m, c3, f8, f9, f10, f3, f14, f15, f16, f24, hm, hc3⟩
      simp -implicitDefEqProofs [f24]
      refine branch_dec (fun hlt3 => ?_) (fun hlt3 => ?_)
      · have hlt3 : m < 8 := by omega
        have e3 : bitOp .and .u32 3988292384 (n32 (-(c3 &&& 1#32))) = n32 (3988292384#32 &&& -(c3 &&& 1#32)) := bw_and 3988292384#32 _
        simp -implicitDefEqProofs (disch := omega) [f3, f24, aNum_shr, aUn_neg, IntKind.bits, bw_and1, bw_shr1, bw_neg', e3, bw_xor, w64]
        refine ⟨⟨m + 1, _, by simp [f8], by simp [f9], by simp [f10], by simp; rfl, by simp [f14], by simp [f15], by simp [f16], by simp, by omega, ?_⟩, by omega⟩
        rw [← hc3, show 8 - m = (8 - (m + 1)) + 1 by omega]
        rfl
      · have hm8 : m = 8 := by omega
        subst hm8
        simp -implicitDefEqProofs (disch := omega) [f16, w64]
        simp only [crcBits, Nat.sub_self] at hc3
        subst hc3
        refine ⟨⟨j + 1, _, by simp [f8], by simp [f9], by simp [f10], by simp [f3]; rfl, by simp [f14], by simp [f15], by simp, by omega, ?_⟩, by simp [g16]; omega⟩
        rw [← hc2, List.drop_eq_getElem_cons hlt2, crcL_cons]
    · have hj' : j = parts[k].length := by omega
      subst hj'
      simp -implicitDefEqProofs (disch := omega) [g10, w64]
      simp only [List.drop_length, crcL_nil] at hc2
      subst hc2
      refine ⟨⟨k + 1, _, by simp [g8], by simp [g9], by simp, by simp [g3]; rfl, by omega, ?_⟩, by simp [h10]; omega⟩
      rw [← hc, List.drop_eq_getElem_cons hlt, List.flatten_cons, crcL_append]
  · have hk' : k = parts.length := by omega
    subst hk'
    simp only [List.drop_length, List.flatten_nil, crcL_nil] at hc
    simp -implicitDefEqProofs [h3, aUn_xor32]
    rw [hc]; rfl

theorem of1_spec (l : List UInt8) : ASpec Try.prog 111 [.sl .no [[.sl .no (eB l)]]] (· = .v (.int .u32 (n32 (crcOf l)))) := by
  have := of_spec [l]
  simpa [eBB] using this

theorem byteN (n : Nat) : (UInt8.ofNat n).toNat = n % 256 := by simp

def TailI (c : BitVec 32) (t : Nat → AV) (_ : Nat → Option (List AV)) : Prop := ∃ (k : Nat) (tag : Tag), t 0 = .v (.int .u32 (n32 c)) ∧ t 5 = .v (.int .i64 k) ∧ t 3 = .sl tag (eB ((tailF c).take k)) ∧ appOK tag 5 1 ∧ k ≤ 4

theorem tailF_get (c : BitVec 32) (k : Nat) (hk : k < 4) : (tailF c)[k]? = some (UInt8.ofNat (c.toNat / 2 ^ (8 * k))) := by
  match k, hk with
  | 0, _ => simp [tailF]
  | 1, _ => simp [tailF]
  | 2, _ => simp [tailF]
  | 3, _ => simp [tailF]

theorem tail_spec (c : BitVec 32) : ASpec Try.prog 110 [.v (.int .u32 (n32 c))] (Own 5 1 (eB (tailF c))) := by
  refine ASpec.of_awp Try.func110 (by kernel_rfl) rfl (by rw [Try.results110]) Try.ntmps110 ?_
  simp -implicitDefEqProofs
  refine loopK.intro (TailI c) (fun t => 4 - natOf (t 5)) ?_ ?_
  · exact ⟨0, .nil, by simp, by simp, by simp, by simp, by omega⟩
  rintro t hh ⟨k, tag, h0, h5, h3, ht, hk⟩
  simp -implicitDefEqProofs [h5]
  refine branch_dec (fun hlt => ?_) (fun hlt => ?_)
  · have hlt : k < 4 := by omega
    have e1 : IntKind.i64.wrap (8 * (k : Int)) = 8 * (k : Int) := w64 (by omega) (by omega)
    have e2 : min (8 * (k : Int)).toNat 32 = 8 * k := by omega
    have e3 : Int.fdiv (n32 c) (2 ^ (8 * k)) = ((c.toNat / 2 ^ (8 * k) : Nat) : Int) := by
      rw [bw_shr]; simp [n32, Nat.shiftRight_eq_div_pow]
    simp -implicitDefEqProofs (disch := omega) [h0, h3, h5, ht, aNum_shr, IntKind.bits, e1, e2, e3, w64]
    have e4 : ((c.toNat : Int) / 2 ^ (8 * k)) = ((c.toNat / 2 ^ (8 * k) : Nat) : Int) := by push_cast; rfl
    simp only [e4, eB_pushw]
    have e5 : (tailF c).take k ++ [UInt8.ofNat (c.toNat / 2 ^ (8 * k))] = (tailF c).take (k + 1) := by
      rw [List.take_add_one, tailF_get c k hlt]; rfl
    rw [e5]
    refine ⟨by omega, ⟨k + 1, _, by simp [h0], by simp, by simp; rfl, by simp, by omega⟩, by omega⟩
  · have hk' : k = 4 := by omega
    subst hk'
    simp -implicitDefEqProofs [h3]
    exact ⟨tag, ht, by rw [List.take_of_length_le (by simp)]⟩

theorem seal_spec (l : List UInt8) (hl : l.length + 4 ≤ 140737488355328) : ASpec Try.prog 77 [.sl .no (eB l)] (Own 5 1 (eB (sealF l))) := by
  refine ASpec.of_awp Try.func77 (by kernel_rfl) rfl (by rw [Try.results77]) Try.ntmps77 ?_
  simp -implicitDefEqProofs
  refine CallK.of (clone_bytes l (by omega)) ?_
  rintro _ ⟨tag, htag, rfl⟩
  simp -implicitDefEqProofs
  refine CallK.eq (of1_spec l) ?_
  simp -implicitDefEqProofs
  refine CallK.of (tail_spec _) ?_
  rintro _ ⟨tag2, htag2, rfl⟩
  simp -implicitDefEqProofs [htag]
  refine ⟨by omega, ?_⟩
  exact Own.intro _ (by simp)
end Go.Proofs.Ytbgifnlaaophcaa

/- Contracts: frames are opened. No condition. -/
set_option linter.unusedSimpArgs false
set_option linter.unusedVariables false
set_option maxRecDepth 10000
namespace Go.Proofs.Ytbgifnlaaophcaa
open Go Go.Rw Go.Proofs
-- a goal is never to be run by the elaborator
attribute [local irreducible] awp aops aop aopsE aeff

def EqI (a b : List UInt8) (t : Nat → AV) (_ : Nat → Option (List AV)) : Prop := ∃ k : Nat, t 0 = .sl .no (eB a) ∧ t 1 = .sl .no (eB b) ∧ t 12 = .v (.int .i64 a.length) ∧ t 13 = .v (.int .i64 k) ∧ k ≤ a.length ∧ a.take k = b.take k

theorem equal_bytes (a b : List UInt8) : ASpec Try.prog 109 [.sl .no (eB a), .sl .no (eB b)] (· = .v (.bool (decide (a = b)))) := by
  refine ASpec.of_awp Try.func109 (by kernel_rfl) rfl (by rw [Try.results109]) Try.ntmps109 ?_
  simp -implicitDefEqProofs
  intro h1 h2
  refine branch_dec (fun hb => ?_) (fun hb => ?_)
  · have hl : a.length = b.length := by omega
    simp -implicitDefEqProofs
    intro _
    refine loopK.intro (EqI a b) (fun t => a.length - natOf (t 13)) ?_ ?_
    · exact ⟨0, by simp, by simp, by simp, by simp, by omega, by simp⟩
    rintro t hh ⟨k, g0, g1, g12, g13, hk, he⟩
    simp -implicitDefEqProofs [g12, g13]
    refine branch_dec (fun hlt => ?_) (fun hlt => ?_)
    · have hlt : k < a.length := by omega
      have hlt2 : k < b.length := by omega
      have hx : a[k]? = some a[k] := by simp [hlt]
      have hy : b[k]? = some b[k] := by simp [hlt2]
      simp -implicitDefEqProofs [g13]
      refine regionK.intro 9 follows_mixed (by kernel_rfl) ?_
      simp -implicitDefEqProofs [g0, g1, g13, hx, hy, encB]
      refine branch_dec (fun hb2 => ?_) (fun hb2 => ?_)
      · have hxy : a[k] = b[k] := by
          apply UInt8.toNat_inj.1
          omega
        simp -implicitDefEqProofs (disch := omega) [g13, w64]
        refine ⟨⟨k + 1, by simp [g0], by simp [g1], by simp [g12], by simp, by omega, ?_⟩, by omega⟩
        rw [List.take_add_one, List.take_add_one, he, hx, hy, hxy]
      · simp -implicitDefEqProofs
        rintro rfl
        rw [hx] at hy
        simp at hy hb2
    · have hk' : k = a.length := by omega
      subst hk'
      simp -implicitDefEqProofs
      rw [List.take_length, hl, List.take_length] at he
      exact he
  · simp -implicitDefEqProofs
    rintro rfl; simp at hb

def openA (o : Option (List UInt8)) : AV := match o with
  | some l => .tup [.sl .no (eB l), .v (.int .i64 0)]
  | none => .tup [.sl .no [], .v (.int .i64 31)]
theorem open_spec (f : List UInt8) (hf : f.length ≤ 140737488355328) : ASpec Try.prog 60 [.sl .no (eB f)] (· = openA (openF f)) := by
  refine ASpec.of_awp Try.func60 (by kernel_rfl) rfl (by rw [Try.results60]) Try.ntmps60 ?_
  simp -implicitDefEqProofs
  intro hlen
  by_cases h4 : f.length < 4
  · have e0 : IntKind.i64.wrap ((f.length : Int) - 4) = (f.length : Int) - 4 := w64 (by omega) (by omega)
    have h4' : (f.length : Int) - 4 < 0 := by omega
    simp -implicitDefEqProofs [e0]
    refine regionK.intro 15 follows_mixed (by kernel_rfl) ?_
    have ho : openF f = none := by simp [openF, h4]
    simp -implicitDefEqProofs [h4', ho, openA]
  · obtain ⟨m, hm⟩ : ∃ m, f.length = m + 4 := ⟨f.length - 4, by omega⟩
    have e0 : IntKind.i64.wrap (m : Int) = (m : Int) := w64 (by omega) (by omega)
    have hp : (0 : Int) ≤ (m : Int) + 4 := by omega
    have hz : ¬ (m : Int) < 0 := by omega
    have hs : (f.drop m).take (((m : Int) + 4).toNat - m) = f.drop m := List.take_of_length_le (by simp; omega)
    have hq : (m : Int) ≤ (m : Int) + 4 := by omega
    have ho : openF f = if tailF (crcOf (f.take m)) = f.drop m then some (f.take m) else none := by
      have h4'' : ¬ m + 4 < 4 := by omega
      simp [openF, hm, h4'']
    simp -implicitDefEqProofs [hm, e0]
    refine regionK.intro 15 follows_mixed (by kernel_rfl) ?_
    simp -implicitDefEqProofs [hm, hp, hz, hq]
    refine CallQ.eq (of1_spec (f.take m)) ?_
    simp -implicitDefEqProofs
    refine CallQ.of (tail_spec _) (x := .sl .no (eB (tailF (crcOf (f.take m))))) (by rintro _ ⟨tag, _, rfl⟩; rfl) ?_
    simp -implicitDefEqProofs [hm, hp, hz, hq]
    rw [hs]
    refine CallQ.eq (equal_bytes _ _) ?_
    simp -implicitDefEqProofs
    refine branch_dec (fun he => ?_) (fun hne => ?_)
    · rw [if_pos he] at ho
      simp -implicitDefEqProofs [hm, hp, hq]
      refine CallK.of (clone_bytes (f.take m) (by simp; omega)) ?_
      rintro _ ⟨tag, _, rfl⟩
      simp -implicitDefEqProofs [ho, openA]
    · rw [if_neg hne] at ho
      simp -implicitDefEqProofs [ho, openA]
end Go.Proofs.Ytbgifnlaaophcaa

/- Words: how plain data lie in Go. No condition. -/
set_option linter.unusedSimpArgs false
set_option linter.unusedVariables false
namespace Go.Proofs.Ytbgifnlaaophcaa
open Go Go.Rw Go.Proofs

abbrev eI (n : Int) : AV := .v (.int .i64 n)
def eV (v : PView) : List AV := [eI v.add, eI v.del]
def eT (t : PTag) : List AV := [eI t.num, eI t.node]
def eE (x : PEntry) : List AV := [eI x.key, eI x.tag.num, eI x.tag.node, .v (.float .f64 x.value)]
def eC (c : PCell) : List AV := [eI c.node, eI c.change.add, eI c.change.del]
def eCs (l : List PCell) : List (List AV) := l.map eC
def eEs (l : List PEntry) : List (List AV) := l.map eE
def eM (m : PMsg) : List AV := [eI m.kind, eI m.frm, eI m.to, eI m.inc, eI m.seq, eI m.view.add, eI m.view.del, .sl .no (eCs m.cells), .sl .no (eEs m.book)]
@[simp] theorem eCs_length (l : List PCell) : (eCs l).length = l.length := by simp [eCs]
@[simp] theorem eEs_length (l : List PEntry) : (eEs l).length = l.length := by simp [eEs]
@[simp] theorem eCs_get (l : List PCell) (i : Nat) : (eCs l)[i]? = (l[i]?).map eC := by simp [eCs]
@[simp] theorem eEs_get (l : List PEntry) (i : Nat) : (eEs l)[i]? = (l[i]?).map eE := by simp [eEs]
@[simp] theorem eCs_nil : eCs [] = [] := rfl
@[simp] theorem eEs_nil : eEs [] = [] := rfl
@[simp] theorem eCs_append (l m : List PCell) : eCs l ++ eCs m = eCs (l ++ m) := by simp [eCs]
@[simp] theorem eEs_append (l m : List PEntry) : eEs l ++ eEs m = eEs (l ++ m) := by simp [eEs]
theorem eCs_one (l : List PCell) : ∀ r ∈ eCs l, r.length = 3 := by
  intro r hr
  obtain ⟨b, _, rfl⟩ := List.mem_map.1 hr
  rfl
theorem eEs_one (l : List PEntry) : ∀ r ∈ eEs l, r.length = 4 := by
  intro r hr
  obtain ⟨b, _, rfl⟩ := List.mem_map.1 hr
  rfl
@[simp] theorem eCs_rows (l : List PCell) : (∀ r : List AV, r ∈ eCs l → r.length = 3) ↔ True := iff_of_true (eCs_one l) trivial
@[simp] theorem eEs_rows (l : List PEntry) : (∀ r : List AV, r ∈ eEs l → r.length = 4) ↔ True := iff_of_true (eEs_one l) trivial
end Go.Proofs.Ytbgifnlaaophcaa

/- Contracts: what can be. No condition. -/
set_option linter.unusedSimpArgs false
set_option linter.unusedVariables false
set_option maxRecDepth 10000
namespace Go.Proofs.Ytbgifnlaaophcaa
open Go Go.Rw Go.Proofs
-- a goal is never to be run by the elaborator
attribute [local irreducible] awp aops aop aopsE aeff

theorem between_spec (n least most : Int) : ASpec Try.prog 56 [eI n, eI least, eI most] (· = .v (.bool (betweenB n least most))) := by
  refine ASpec.of_awp Try.func56 (by kernel_rfl) rfl (by rw [Try.results56]) Try.ntmps56 ?_
  simp -implicitDefEqProofs
  refine branch_dec (fun h1 => ?_) (fun h1 => ?_) <;> simp -implicitDefEqProofs [h1, betweenB]

theorem change_right (v : PView) : ASpec Try.prog 57 [.agg (eV v)] (· = .v (.bool (rightV v))) := by
  refine ASpec.of_awp Try.func57 (by kernel_rfl) rfl (by rw [Try.results57]) Try.ntmps57 ?_
  simp -implicitDefEqProofs [eV]
  refine allocK.intro (fun b hb => ?_)
  simp -implicitDefEqProofs
  refine branch_dec (fun h1 => ?_) (fun h1 => ?_) <;> simp -implicitDefEqProofs [h1, rightV]
  refine branch_dec (fun h2 => ?_) (fun h2 => ?_) <;> simp -implicitDefEqProofs [h1, h2, rightV]
  refine branch_dec (fun h3 => ?_) (fun h3 => ?_) <;> simp -implicitDefEqProofs [h1, h2, h3, rightV]

theorem tag_right (t : PTag) : ASpec Try.prog 108 [.agg (eT t)] (· = .v (.bool (rightT t))) := by
  refine ASpec.of_awp Try.func108 (by kernel_rfl) rfl (by rw [Try.results108]) Try.ntmps108 ?_
  simp -implicitDefEqProofs [eT]
  refine allocK.intro (fun b hb => ?_)
  simp -implicitDefEqProofs
  refine branch_dec (fun h1 => ?_) (fun h1 => ?_) <;> simp -implicitDefEqProofs [h1, rightT]
  refine branch_dec (fun h2 => ?_) (fun h2 => ?_) <;> simp -implicitDefEqProofs [h1, h2, rightT]
  refine branch_dec (fun h3 => ?_) (fun h3 => ?_) <;> simp -implicitDefEqProofs [h1, h2, h3, rightT]
  refine branch_dec (fun h4 => ?_) (fun h4 => ?_) <;> simp -implicitDefEqProofs [h1, h2, h3, h4, rightT]
  refine branch_dec (fun h5 => ?_) (fun h5 => ?_) <;> simp -implicitDefEqProofs [h1, h2, h3, h4, h5, rightT]
end Go.Proofs.Ytbgifnlaaophcaa

/- Contracts: numbers are read. No condition. -/
set_option linter.unusedSimpArgs false
set_option linter.unusedVariables false
set_option maxRecDepth 10000
namespace Go.Proofs.Ytbgifnlaaophcaa
open Go Go.Rw Go.Proofs
-- a goal is never to be run by the elaborator
attribute [local irreducible] awp aops aop aopsE aeff

def getA (o : Option (Nat × List UInt8)) : AV := match o with
  | some (n, l) => .tup [.v (.int .u64 n), .sl .no (eB l), .v (.int .i64 0)]
  | none => .tup [.v (.int .u64 0), .sl .no [], .v (.int .i64 21)]

theorem or_byte (n : Nat) (x : UInt8) (h : n * 256 + x.toNat < 18446744073709551616) : bitOp .or .u64 (IntKind.u64.wrap ((n : Int) * 256)) (x.toNat : Int) = (n : Int) * 256 + (x.toNat : Int) := by
  have h1 : IntKind.u64.wrap ((n : Int) * 256) = ((n * 256 : Nat) : Int) := by rw [wu64 (by omega) (by omega)]; push_cast; rfl
  rw [h1]
  have : bitOp .or .u64 ((n * 256 : Nat) : Int) (x.toNat : Int) = IntKind.u64.wrap ((BitVec.ofInt 64 ((n * 256 : Nat) : Int) ||| BitVec.ofInt 64 (x.toNat : Int)).toNat : Int) := rfl
  rw [this, BitVec.ofInt_natCast, BitVec.ofInt_natCast]
  have h2 := x.toNat_lt
  have h3 : (BitVec.ofNat 64 (n * 256) ||| BitVec.ofNat 64 x.toNat).toNat = n * 256 + x.toNat := by
    rw [BitVec.toNat_or, BitVec.toNat_ofNat, BitVec.toNat_ofNat, Nat.mod_eq_of_lt (by omega), Nat.mod_eq_of_lt (by omega)]
    have := Nat.two_pow_add_eq_or_of_lt (i := 8) (b := x.toNat) (by omega) n
    rw [Nat.mul_comm n 256, show (256 : Nat) = 2 ^ 8 from rfl, ← this]
  rw [h3, wu64 (by omega) (by omega)]
  push_cast; rfl

def GetI (b seg : List UInt8) (k : Nat) (t : Nat → AV) (_ : Nat → Option (List AV)) : Prop := ∃ j : Nat, t 0 = .sl .no (eB b) ∧ t 5 = .v (.int .i64 k) ∧ t 35 = .sl .no (eB seg) ∧ t 36 = .v (.int .i64 seg.length) ∧
  t 37 = .v (.int .i64 j) ∧ t 6 = .v (.int .u64 (valN (seg.take j))) ∧ j ≤ seg.length

theorem get_spec (b : List UInt8) (hl : b.length ≤ 140737488355328) : ASpec Try.prog 113 [.sl .no (eB b)] (· = getA (getF b)) := by
  refine ASpec.of_awp Try.func113 (by kernel_rfl) rfl (by rw [Try.results113]) Try.ntmps113 ?_
  cases b with
  | nil =>
    simp -implicitDefEqProofs [getA, getF]
  | cons x r =>
    have hx := x.toNat_lt
    have hc : IntKind.i64.wrap (x.toNat : Int) = (x.toNat : Int) := w64 (by omega) (by omega)
    simp only [List.length_cons] at hl
    have hr : IntKind.i64.wrap (r.length : Int) = (r.length : Int) := w64 (by omega) (by omega)
    have hz : ¬ ((r.length : Int) + 1 = 0) := by omega
    simp -implicitDefEqProofs [hz, encB]
    intro _
    refine branch_dec (fun h1 => ?_) (fun h1 => ?_)
    · have hg : getF (x :: r) = none := by simp only [getF]; rw [if_pos (.inl (by omega))]
      simp -implicitDefEqProofs [hg, getA, h1]
    · simp -implicitDefEqProofs [hc, hr, encB, h1]
      intro _
      refine branch_dec (fun h2 => ?_) (fun h2 => ?_)
      · have hg : getF (x :: r) = none := by simp only [getF]; rw [if_pos (.inr (by omega))]
        simp -implicitDefEqProofs [hg, getA, h1]
      · have hk : x.toNat ≤ r.length := by omega
        have e1 : IntKind.i64.wrap (1 + (x.toNat : Int)) = 1 + (x.toNat : Int) := w64 (by omega) (by omega)
        have e2 : (1 : Int) + (x.toNat : Int) ≤ (r.length : Int) + 1 := by omega
        have e3 : (1 + (x.toNat : Int)).toNat - 1 = x.toNat := by omega
        have e4 : (1 : Int) ≤ 1 + (x.toNat : Int) := by omega
        obtain ⟨seg, hs⟩ : ∃ seg, r.take x.toNat = seg := ⟨_, rfl⟩
        have hsl : seg.length = x.toNat := by rw [← hs]; simp; omega
        have hge : getF (x :: r) = if sizeN (valN seg) = x.toNat then some (valN seg, r.drop x.toNat) else none := by
          simp only [getF]
          rw [if_neg (by omega), hs]
        have h64 : valN seg < 18446744073709551616 := by
          have g1 := valN_lt seg
          have g2 : (256 : Nat) ^ seg.length ≤ 256 ^ 8 := Nat.pow_le_pow_right (by omega) (by omega)
          have g3 : (256 : Nat) ^ 8 = 18446744073709551616 := by decide
          omega
        simp -implicitDefEqProofs [hc, hr, encB, e1, h1, h2, e2, e3, e4, hs]
        intro _
        refine loopK.intro (GetI (x :: r) seg x.toNat) (fun t => seg.length - natOf (t 37)) ?_ ?_
        · exact ⟨0, by simp, by simp, by simp [hs], by simp, by simp, by simp [valN], by omega⟩
        rintro t hh ⟨j, g0, g5, g35, g36, g37, g6, hj⟩
        simp -implicitDefEqProofs [g36, g37]
        refine branch_dec (fun hlt => ?_) (fun hlt => ?_)
        · have hlt : j < seg.length := by omega
          have hy : seg[j]? = some seg[j] := by simp [hlt]
          have hsn : valN (seg.take (j + 1)) = valN (seg.take j) * 256 + seg[j].toNat := by
            rw [List.take_add_one, hy]; exact valN_snoc _ _
          have hb : valN (seg.take j) * 256 + seg[j].toNat < 18446744073709551616 := by
            have g1 := valN_lt (seg.take (j + 1))
            have g2 : (256 : Nat) ^ (seg.take (j + 1)).length ≤ 256 ^ 8 := Nat.pow_le_pow_right (by omega) (by simp; omega)
            have g3 : (256 : Nat) ^ 8 = 18446744073709551616 := by decide
            omega
          have hor := or_byte _ _ hb
          have hu : IntKind.u64.wrap (seg[j].toNat : Int) = (seg[j].toNat : Int) := wu64 (by omega) (by have := seg[j].toNat_lt; omega)
          have hj1 : IntKind.i64.wrap ((j : Int) + 1) = (j : Int) + 1 := w64 (by omega) (by omega)
          simp -implicitDefEqProofs [g35, g37, g6, hy, encB, aNum_shl, IntKind.bits, hor, hu, hj1]
          exact ⟨⟨j + 1, by simp [g0], by simp [g5], by simp [g35], by simp [g36], by simp, by simp [hsn], by omega⟩, by omega⟩
        · have hj' : j = seg.length := by omega
          subst hj'
          rw [List.take_length] at g6
          simp -implicitDefEqProofs [g6]
          refine CallK.eq (size_spec _ h64) ?_
          simp -implicitDefEqProofs [g5]
          refine branch_dec (fun hq => ?_) (fun hq => ?_)
          · rw [if_pos (by omega)] at hge
            have e5 : (0 : Int) ≤ 1 + (x.toNat : Int) := by omega
            have e6 : (1 + (x.toNat : Int)).toNat = x.toNat + 1 := by omega
            have e7 : (r.drop x.toNat).take (r.length - x.toNat) = r.drop x.toNat := List.take_of_length_le (by simp)
            simp -implicitDefEqProofs [hge, getA, g0, g5, g6, e1, e2, e5, e6, e7]
            refine CallK.of (clone_bytes (r.drop x.toNat) (by simp; omega)) ?_
            rintro _ ⟨tag, _, rfl⟩
            simp -implicitDefEqProofs [hge, getA]
          · rw [if_neg (by omega)] at hge
            simp -implicitDefEqProofs [hge, getA]
end Go.Proofs.Ytbgifnlaaophcaa

/- Contracts: numbers, sets of changes. No condition. -/
set_option linter.unusedSimpArgs false
set_option linter.unusedVariables false
set_option maxRecDepth 10000
namespace Go.Proofs.Ytbgifnlaaophcaa
open Go Go.Rw Go.Proofs
-- a goal is never to be run by the elaborator
attribute [local irreducible] awp aops aop aopsE aeff

abbrev eF (b : Nat) : AV := .v (.float .f64 b)
def bitsF (b : Nat) : Nat := cleanB nanB b
/-- the number of bits: what is no number has one form -/
def ofF (b : Nat) : Nat := cleanB nanB b

theorem reps1 {I : Imm} {x : Value} {ys : List Value} (h : Reps I [.v x] ys) : ys = [x] := by
  obtain ⟨h1, h2⟩ := h
  match ys, h1 with
  | [y], _ =>
    have := h2 0 (.v x) y rfl rfl
    cases this
    rfl

theorem f64bits_spec (b : Nat) : ASpec Try.prog 115 [eF b] (· = .v (.int .u64 b)) := by
  refine ASpec.extern Try.func115 (by kernel_rfl) (by kernel_rfl) (by kernel_rfl) (e := Extern.MathFloatBits.float64bits) (by kernel_rfl) (fun I w cargs h => ?_) (fun _ _ _ _ => trivial)
  rw [reps1 h]
  exact ⟨_, rfl, fun I' => .v _⟩

theorem f64from_spec (b : Nat) : ASpec Try.prog 71 [.v (.int .u64 b)] (· = eF b) := by
  refine ASpec.extern Try.func71 (by kernel_rfl) (by kernel_rfl) (by kernel_rfl) (e := Extern.MathFloatBits.float64frombits) (by kernel_rfl) (fun I w cargs h => ?_) (fun _ _ _ _ => trivial)
  rw [reps1 h]
  exact ⟨_, rfl, fun I' => .v _⟩

theorem nan_spec : ASpec Try.prog 114 [] (· = eF 9221120237041090561) := by
  refine ASpec.of_awp Try.func114 (by kernel_rfl) rfl (by rw [Try.results114]) Try.ntmps114 ?_
  simp -implicitDefEqProofs
  refine CallK.eq (f64from_spec 9221120237041090561) ?_
  simp -implicitDefEqProofs

theorem num_bits (b : Nat) : ASpec Try.prog 66 [eF b] (· = .v (.int .u64 (bitsF b))) := by
  refine ASpec.of_awp Try.func66 (by kernel_rfl) rfl (by rw [Try.results66]) Try.ntmps66 ?_
  simp -implicitDefEqProofs
  refine branch_intro (fun h => ?_) (fun h => ?_)
  · simp -implicitDefEqProofs [bitsF, cleanB, h]
  · simp -implicitDefEqProofs [bitsF, cleanB, h]
    refine CallK.eq (f64bits_spec b) ?_
    simp -implicitDefEqProofs [bitsF, cleanB, h]

theorem num_of (b : Nat) : ASpec Try.prog 65 [.v (.int .u64 b)] (· = eF (ofF b)) := by
  refine ASpec.of_awp Try.func65 (by kernel_rfl) rfl (by rw [Try.results65]) Try.ntmps65 ?_
  simp -implicitDefEqProofs
  refine CallK.eq (f64from_spec b) ?_
  simp -implicitDefEqProofs
  refine branch_intro (fun h => ?_) (fun h => ?_)
  · simp -implicitDefEqProofs [ofF, cleanB, h]
    refine CallK.eq nan_spec ?_
    simp -implicitDefEqProofs [ofF, cleanB, h]
  · simp -implicitDefEqProofs [ofF, cleanB, h]

theorem num_same (a b : Nat) : ASpec Try.prog 121 [eF a, eF b] (· = .v (.bool (decide (bitsF a = bitsF b)))) := by
  refine ASpec.of_awp Try.func121 (by kernel_rfl) rfl (by rw [Try.results121]) Try.ntmps121 ?_
  simp -implicitDefEqProofs
  refine CallK.eq (num_bits a) ?_
  simp -implicitDefEqProofs
  refine CallK.eq (num_bits b) ?_
  simp -implicitDefEqProofs
  try omega

theorem change_name (v : PView) (h : rightV v = true) : ASpec Try.prog 76 [.agg (eV v)] (· = eI (nameV v)) := by
  refine ASpec.of_awp Try.func76 (by kernel_rfl) rfl (by rw [Try.results76]) Try.ntmps76 ?_
  simp -implicitDefEqProofs [eV]
  refine allocK.intro (fun b hb => ?_)
  simp [rightV] at h
  have e1 : IntKind.i64.wrap (v.add * 64) = v.add * 64 := w64 (by omega) (by omega)
  have e2 : IntKind.i64.wrap (v.add * 64 + v.del) = v.add * 64 + v.del := w64 (by omega) (by omega)
  simp -implicitDefEqProofs [e1, e2, nameV]

def namedA (n : Int) : AV := if 0 ≤ n ∧ n < 4096 then .tup [.agg (eV ⟨n / 64, n % 64⟩), eI 0] else .tup [.agg (eV ⟨0, 0⟩), eI 41]
theorem change_named (n : Int) : ASpec Try.prog 112 [eI n] (· = namedA n) := by
  refine ASpec.of_awp Try.func112 (by kernel_rfl) rfl (by rw [Try.results112]) Try.ntmps112 ?_
  simp -implicitDefEqProofs
  refine allocK.intro (fun b hb => ?_)
  by_cases h : 0 ≤ n ∧ n < 4096
  · have h1 : ¬ n < 0 := by omega
    have h2 : ¬ 4096 ≤ n := by omega
    have e1 : n.tdiv 64 = n / 64 := Int.tdiv_eq_ediv_of_nonneg h.1
    have e2 : n.tmod 64 = n % 64 := Int.tmod_eq_emod_of_nonneg h.1
    have e3 : IntKind.i64.wrap (n / 64) = n / 64 := w64 (by omega) (by omega)
    have hr : namedA n = .tup [.agg (eV ⟨n / 64, n % 64⟩), eI 0] := if_pos h
    simp -implicitDefEqProofs [h1, h2, e1, e2, e3, hr, eV]
  · have hr : namedA n = .tup [.agg (eV ⟨0, 0⟩), eI 41] := if_neg h
    by_cases h1 : n < 0
    · simp -implicitDefEqProofs [h1, hr, eV]
    · have h2 : 4096 ≤ n := by omega
      simp -implicitDefEqProofs [h1, h2, hr, eV]

theorem ones64_spec : ∀ n : Fin 64, ASpec Try.prog 136 [.v (.int .u64 (n.val : Nat))] (· = eI (popN 64 n.val : Nat)) := by
  intro n
  refine ASpec.of_awp Try.func136 (by kernel_rfl) rfl (by rw [Try.results136]) Try.ntmps136 ?_
  simp -implicitDefEqProofs [aNum_shr, IntKind.bits]
  revert n
  decide +kernel

theorem ones_spec (n : Int) (h1 : 0 ≤ n) (h2 : n < 64) : ASpec Try.prog 128 [.v (.int .u64 n)] (· = eI (popN 64 n.toNat : Nat)) := by
  have h := ones64_spec ⟨n.toNat, by omega⟩
  have e : ((n.toNat : Nat) : Int) = n := by omega
  simp only [e] at h
  refine ASpec.of_awp Try.func128 (by kernel_rfl) rfl (by rw [Try.results128]) Try.ntmps128 ?_
  simp -implicitDefEqProofs
  refine CallK.eq h ?_
  simp -implicitDefEqProofs

theorem popN_lt (k n : Nat) : popN k n ≤ k := by
  induction k generalizing n with
  | zero => simp [popN]
  | succ k ih => have := ih (n / 2); simp only [popN]; omega

theorem change_size (v : PView) (h : rightV v = true) : ASpec Try.prog 103 [.agg (eV v)] (· = eI (sizeV v)) := by
  refine ASpec.of_awp Try.func103 (by kernel_rfl) rfl (by rw [Try.results103]) Try.ntmps103 ?_
  simp -implicitDefEqProofs [eV]
  refine allocK.intro (fun b hb => ?_)
  simp [rightV] at h
  have e1 : IntKind.u64.wrap v.add = v.add := wu64 (by omega) (by omega)
  have e2 : IntKind.u64.wrap v.del = v.del := wu64 (by omega) (by omega)
  have e3 : IntKind.i64.wrap ((popN 64 v.add.toNat : Int) + popN 64 v.del.toNat) = (popN 64 v.add.toNat : Int) + popN 64 v.del.toNat := by
    have g1 := popN_lt 64 v.add.toNat
    have g2 := popN_lt 64 v.del.toNat
    exact w64 (by omega) (by omega)
  simp -implicitDefEqProofs
  refine regionK.intro 10 follows_mixed (by kernel_rfl) ?_
  simp -implicitDefEqProofs [e1]
  refine CallQ.eq (ones_spec v.add (by omega) (by omega)) ?_
  simp -implicitDefEqProofs [e2]
  refine CallQ.eq (ones_spec v.del (by omega) (by omega)) ?_
  simp -implicitDefEqProofs [e3, sizeV]
end Go.Proofs.Ytbgifnlaaophcaa

/- Contracts: lists of cells and entries that can be. No condition. -/
set_option linter.unusedSimpArgs false
set_option linter.unusedVariables false
set_option maxRecDepth 10000
namespace Go.Proofs.Ytbgifnlaaophcaa
open Go Go.Rw Go.Proofs
-- a goal is never to be run by the elaborator
attribute [local irreducible] awp aops aop aopsE aeff

def CcI (l : List PCell) (t : Nat → AV) (_ : Nat → Option (List AV)) : Prop := ∃ (k : Nat) (last : Int), t 6 = .sl .no (eCs l) ∧ t 7 = eI l.length ∧ t 8 = eI k ∧ t 3 = eI last ∧ k ≤ l.length ∧ checkC last (l.drop k) = checkC (-1) l

theorem cells_check (l : List PCell) : ASpec Try.prog 58 [.sl .no (eCs l)] (· = eI (if checkC (-1) l = true then 0 else 101)) := by
  refine ASpec.of_awp Try.func58 (by kernel_rfl) rfl (by rw [Try.results58]) Try.ntmps58 ?_
  simp -implicitDefEqProofs
  intro hlen
  refine loopK.intro (CcI l) (fun t => l.length - natOf (t 8)) ?_ ?_
  · exact ⟨0, -1, by simp, by simp, by simp, by simp, by omega, by simp⟩
  rintro t hh ⟨k, last, g6, g7, g8, g3, hk, hc⟩
  simp -implicitDefEqProofs [g7, g8]
  refine branch_dec (fun hlt => ?_) (fun hlt => ?_)
  · have hlt : k < l.length := by omega
    obtain ⟨c, hx⟩ : ∃ c, l[k]? = some c := ⟨l[k], by simp [hlt]⟩
    have hd : l.drop k = c :: l.drop (k + 1) := by
      rw [List.drop_eq_getElem_cons hlt]
      rw [List.getElem?_eq_getElem hlt] at hx
      injection hx with hx
      rw [hx]
    rw [hd, checkC] at hc
    have hj1 : IntKind.i64.wrap ((k : Int) + 1) = (k : Int) + 1 := w64 (by omega) (by omega)
    simp -implicitDefEqProofs [g6, g8, hx, eC]
    refine allocK.intro (fun b hb => ?_)
    simp -implicitDefEqProofs [g3]
    have bad : okC last c = false → checkC (-1) l = false := fun h => by rw [← hc, h]; rfl
    have b1 := fun h => bad (okC_1 last c h)
    have b2 := fun h => bad (okC_2 last c h)
    have b3 := fun h => bad (okC_3 last c h)
    have b4 := fun h => bad (okC_4 last c h)
    refine branch_dec (fun h1 => ?_) (fun h1 => ?_)
    · simp -implicitDefEqProofs [h1, b1 h1]
    · simp -implicitDefEqProofs [h1]
      refine branch_dec (fun h2 => ?_) (fun h2 => ?_)
      · simp -implicitDefEqProofs [h1, h2, b2 h2]
      · simp -implicitDefEqProofs [h1, h2]
        refine CallK.with (change_right c.change) (by simp [eV]) ?_
        simp -implicitDefEqProofs
        refine branch_intro (fun h3 => ?_) (fun h3 => ?_)
        · simp -implicitDefEqProofs [h3]
          refine CallK.with (change_size c.change h3) (by simp [eV]) ?_
          simp -implicitDefEqProofs
          refine branch_dec (fun h4 => ?_) (fun h4 => ?_)
          · simp -implicitDefEqProofs [h4, b4 h4]
          · rw [okC_5 _ _ h1 h2 h3 h4, Bool.true_and] at hc
            simp -implicitDefEqProofs [h4, hj1, g8]
            exact ⟨⟨k + 1, c.node, by simp [g6], by simp [g7], by simp, by simp, by omega, hc⟩, by omega⟩
        · simp -implicitDefEqProofs [h3, b3 h3]
  · have hk' : k = l.length := by omega
    subst hk'
    rw [List.drop_length, checkC] at hc
    simp -implicitDefEqProofs [← hc]

def CeI (l : List PEntry) (t : Nat → AV) (_ : Nat → Option (List AV)) : Prop := ∃ (k : Nat) (last : Int), t 6 = .sl .no (eEs l) ∧ t 7 = eI l.length ∧ t 8 = eI k ∧ t 3 = eI last ∧ k ≤ l.length ∧ checkE last (l.drop k) = checkE (-1) l

theorem book_check (l : List PEntry) : ASpec Try.prog 59 [.sl .no (eEs l)] (· = eI (if checkE (-1) l = true then 0 else 71)) := by
  refine ASpec.of_awp Try.func59 (by kernel_rfl) rfl (by rw [Try.results59]) Try.ntmps59 ?_
  simp -implicitDefEqProofs
  intro hlen
  refine loopK.intro (CeI l) (fun t => l.length - natOf (t 8)) ?_ ?_
  · exact ⟨0, -1, by simp, by simp, by simp, by simp, by omega, by simp⟩
  rintro t hh ⟨k, last, g6, g7, g8, g3, hk, hc⟩
  simp -implicitDefEqProofs [g7, g8]
  refine branch_dec (fun hlt => ?_) (fun hlt => ?_)
  · have hlt : k < l.length := by omega
    obtain ⟨c, hx⟩ : ∃ c, l[k]? = some c := ⟨l[k], by simp [hlt]⟩
    have hd : l.drop k = c :: l.drop (k + 1) := by
      rw [List.drop_eq_getElem_cons hlt]
      rw [List.getElem?_eq_getElem hlt] at hx
      injection hx with hx
      rw [hx]
    rw [hd, checkE] at hc
    have hj1 : IntKind.i64.wrap ((k : Int) + 1) = (k : Int) + 1 := w64 (by omega) (by omega)
    simp -implicitDefEqProofs [g6, g8, hx, eE]
    refine allocK.intro (fun b hb => ?_)
    simp -implicitDefEqProofs [g3]
    have bad : okE last c = false → checkE (-1) l = false := fun h => by rw [← hc, h]; rfl
    have b1 := fun h => bad (okE_1 last c h)
    have b2 := fun h => bad (okE_2 last c h)
    have b3 := fun h => bad (okE_3 last c h)
    have b4 := fun h => bad (okE_4 last c h)
    refine branch_dec (fun h1 => ?_) (fun h1 => ?_)
    · simp -implicitDefEqProofs [h1, b1 h1]
    · simp -implicitDefEqProofs [h1]
      refine branch_dec (fun h2 => ?_) (fun h2 => ?_)
      · simp -implicitDefEqProofs [h1, h2, b2 h2]
      · simp -implicitDefEqProofs [h1, h2]
        refine CallK.with (tag_right c.tag) (by simp [eT]) ?_
        simp -implicitDefEqProofs
        refine branch_intro (fun h3 => ?_) (fun h3 => ?_)
        · simp -implicitDefEqProofs [h3]
          refine branch_dec (fun h4 => ?_) (fun h4 => ?_)
          · simp -implicitDefEqProofs [h4, b4 h4]
          · rw [okE_5 _ _ h1 h2 h3 h4, Bool.true_and] at hc
            simp -implicitDefEqProofs [h4, hj1, g8]
            exact ⟨⟨k + 1, c.key, by simp [g6], by simp [g7], by simp, by simp, by omega, hc⟩, by omega⟩
        · simp -implicitDefEqProofs [h3, b3 h3]
  · have hk' : k = l.length := by omega
    subst hk'
    rw [List.drop_length, checkE] at hc
    simp -implicitDefEqProofs [← hc]
end Go.Proofs.Ytbgifnlaaophcaa

/- Contracts: lists that are the same. No condition. -/
set_option linter.unusedSimpArgs false
set_option linter.unusedVariables false
set_option maxRecDepth 10000
namespace Go.Proofs.Ytbgifnlaaophcaa
open Go Go.Rw Go.Proofs
-- a goal is never to be run by the elaborator
attribute [local irreducible] awp aops aop aopsE aeff

def EqcI (a b : List PCell) (t : Nat → AV) (_ : Nat → Option (List AV)) : Prop := ∃ k : Nat, t 0 = .sl .no (eCs a) ∧ t 1 = .sl .no (eCs b) ∧ t 12 = .v (.int .i64 a.length) ∧ t 13 = .v (.int .i64 k) ∧ k ≤ a.length ∧ a.take k = b.take k

theorem equal_cells (a b : List PCell) : ASpec Try.prog 78 [.sl .no (eCs a), .sl .no (eCs b)] (· = .v (.bool (decide (a = b)))) := by
  refine ASpec.of_awp Try.func78 (by kernel_rfl) rfl (by rw [Try.results78]) Try.ntmps78 ?_
  simp -implicitDefEqProofs
  intro h1 h2
  refine branch_dec (fun hb => ?_) (fun hb => ?_)
  · have hl : a.length = b.length := by omega
    simp -implicitDefEqProofs
    intro _
    refine loopK.intro (EqcI a b) (fun t => a.length - natOf (t 13)) ?_ ?_
    · exact ⟨0, by simp, by simp, by simp, by simp, by omega, by simp⟩
    rintro t hh ⟨k, g0, g1, g12, g13, hk, he⟩
    simp -implicitDefEqProofs [g12, g13]
    refine branch_dec (fun hlt => ?_) (fun hlt => ?_)
    · have hlt : k < a.length := by omega
      have hlt2 : k < b.length := by omega
      obtain ⟨x, hx⟩ : ∃ x, a[k]? = some x := ⟨a[k], by simp [hlt]⟩
      obtain ⟨y, hy⟩ : ∃ y, b[k]? = some y := ⟨b[k], by simp [hlt2]⟩
      have hj1 : IntKind.i64.wrap ((k : Int) + 1) = (k : Int) + 1 := w64 (by omega) (by omega)
      simp -implicitDefEqProofs [g13]
      refine regionK.intro 9 follows_mixed (by kernel_rfl) ?_
      simp -implicitDefEqProofs [g0, g1, g13, hx, hy, eC]
      refine branch_intro (fun hb2 => ?_) (fun hb2 => ?_)
      · have hne : x ≠ y := by rintro rfl; simp at hb2
        simp -implicitDefEqProofs
        rintro rfl
        rw [hx] at hy
        exact hne (Option.some.inj hy)
      · have hxy : x = y := by
          obtain ⟨n1, a1, d1⟩ := x
          obtain ⟨n2, a2, d2⟩ := y
          simp at hb2
          simp [hb2]
        simp -implicitDefEqProofs [g13, hj1]
        refine ⟨⟨k + 1, by simp [g0], by simp [g1], by simp [g12], by simp, by omega, ?_⟩, by omega⟩
        rw [List.take_add_one, List.take_add_one, he, hx, hy, hxy]
    · have hk' : k = a.length := by omega
      subst hk'
      simp -implicitDefEqProofs
      rw [List.take_length, hl, List.take_length] at he
      exact he
  · simp -implicitDefEqProofs
    rintro rfl; simp at hb

/-- the same entry -/
def sameE (x y : PEntry) : Bool := decide (x.key = y.key) && decide (x.tag = y.tag) && decide (bitsF x.value = bitsF y.value)
def sameEs : List PEntry → List PEntry → Bool
  | [], [] => true
  | x :: l, y :: m => sameE x y && sameEs l m
  | _, _ => false

theorem same_entry (x y : PEntry) : ASpec Try.prog 120 [.agg (eE x), .agg (eE y)] (· = .v (.bool (sameE x y))) := by
  refine ASpec.of_awp Try.func120 (by kernel_rfl) rfl (by rw [Try.results120]) Try.ntmps120 ?_
  simp -implicitDefEqProofs [eE]
  refine allocK.intro (fun b hb => ?_)
  simp -implicitDefEqProofs
  refine allocK.intro (fun b2 hb2 => ?_)
  have hbb : ¬ b = b2 := by rintro rfl; simp at hb2
  have hbb' : ¬ b2 = b := fun h => hbb h.symm
  simp -implicitDefEqProofs [hbb, hbb']
  refine branch_dec (fun h1 => ?_) (fun h1 => ?_)
  · simp -implicitDefEqProofs [hbb, hbb', h1]
    refine branch_intro (fun h2 => ?_) (fun h2 => ?_)
    · simp -implicitDefEqProofs [hbb, hbb', h2]
      refine CallK.eq (num_same x.value y.value) ?_
      have ht : x.tag = y.tag := by
        obtain ⟨k1, ⟨n1, a1⟩, v1⟩ := x
        obtain ⟨k2, ⟨n2, a2⟩, v2⟩ := y
        simp at h2
        simp [h2]
      simp -implicitDefEqProofs [sameE, h1, ht]
    · have ht : ¬ x.tag = y.tag := by
        rintro ht
        rw [ht] at h2
        simp at h2
      simp -implicitDefEqProofs [hbb, hbb', h2, sameE, ht]
  · simp -implicitDefEqProofs [h1, sameE]

def EqeI (a b : List PEntry) (t : Nat → AV) (_ : Nat → Option (List AV)) : Prop := ∃ k : Nat, t 15 = .sl .no (eEs a) ∧ t 1 = .sl .no (eEs b) ∧ t 2 = .fn 120 [] ∧ t 16 = .v (.int .i64 a.length) ∧ t 17 = .v (.int .i64 k) ∧ k ≤ a.length ∧ sameEs (a.drop k) (b.drop k) = sameEs a b

theorem sameEs_len : ∀ {a b : List PEntry}, a.length ≠ b.length → sameEs a b = false
  | [], [], h => absurd rfl h
  | [], _ :: _, _ => rfl
  | _ :: _, [], _ => rfl
  | x :: a, y :: b, h => by
    have := sameEs_len (a := a) (b := b) (by simp at h; exact h)
    simp [sameEs, this]

theorem equalf_entries (a b : List PEntry) : ASpec Try.prog 119 [.sl .no (eEs a), .sl .no (eEs b), .fn 120 []] (· = .v (.bool (sameEs a b))) := by
  refine ASpec.of_awp Try.func119 (by kernel_rfl) rfl (by rw [Try.results119]) Try.ntmps119 ?_
  simp -implicitDefEqProofs
  intro h1 h2
  refine branch_dec (fun hb => ?_) (fun hb => ?_)
  · have hl : a.length = b.length := by omega
    simp -implicitDefEqProofs
    intro _
    refine loopK.intro (EqeI a b) (fun t => a.length - natOf (t 17)) ?_ ?_
    · exact ⟨0, by simp, by simp, by simp, by simp, by simp, by omega, by simp⟩
    rintro t hh ⟨k, g15, g1, g2, g16, g17, hk, he⟩
    simp -implicitDefEqProofs [g16, g17]
    refine branch_dec (fun hlt => ?_) (fun hlt => ?_)
    · have hlt : k < a.length := by omega
      have hlt2 : k < b.length := by omega
      obtain ⟨x, hx⟩ : ∃ x, a[k]? = some x := ⟨a[k], by simp [hlt]⟩
      obtain ⟨y, hy⟩ : ∃ y, b[k]? = some y := ⟨b[k], by simp [hlt2]⟩
      have hdx : a.drop k = x :: a.drop (k + 1) := by
        rw [List.drop_eq_getElem_cons hlt]; rw [List.getElem?_eq_getElem hlt] at hx; rw [Option.some.inj hx]
      have hdy : b.drop k = y :: b.drop (k + 1) := by
        rw [List.drop_eq_getElem_cons hlt2]; rw [List.getElem?_eq_getElem hlt2] at hy; rw [Option.some.inj hy]
      rw [hdx, hdy, sameEs] at he
      have hj1 : IntKind.i64.wrap ((k : Int) + 1) = (k : Int) + 1 := w64 (by omega) (by omega)
      simp -implicitDefEqProofs [g15, g17, hx, eE]
      refine allocK.intro (fun b1 hb1 => ?_)
      simp -implicitDefEqProofs [g1, hy, eE]
      refine allocK.intro (fun b2 hb2 => ?_)
      have hbb : ¬ b1 = b2 := by rintro rfl; simp at hb2
      have hbb' : ¬ b2 = b1 := fun h => hbb h.symm
      simp -implicitDefEqProofs [g2, hbb, hbb']
      refine CallK.with (same_entry x y) (by simp [eE]) ?_
      simp -implicitDefEqProofs
      refine branch_intro (fun h3 => ?_) (fun h3 => ?_)
      · rw [h3, Bool.true_and] at he
        simp -implicitDefEqProofs [g17, hj1]
        exact ⟨⟨k + 1, by simp [g15], by simp [g1], by simp [g2], by simp [g16], by simp, by omega, he⟩, by omega⟩
      · rw [h3, Bool.false_and] at he
        simp -implicitDefEqProofs [← he]
    · have hk' : k = a.length := by omega
      subst hk'
      rw [List.drop_length, hl, List.drop_length, sameEs] at he
      simp -implicitDefEqProofs [← he]
  · have hr : sameEs a b = false := sameEs_len (by omega)
    simp -implicitDefEqProofs [hr]

theorem book_same (a b : List PEntry) : ASpec Try.prog 79 [.sl .no (eEs a), .sl .no (eEs b)] (· = .v (.bool (sameEs a b))) := by
  refine ASpec.of_awp Try.func79 (by kernel_rfl) rfl (by rw [Try.results79]) Try.ntmps79 ?_
  simp -implicitDefEqProofs
  refine CallK.eq (equalf_entries a b) ?_
  simp -implicitDefEqProofs
end Go.Proofs.Ytbgifnlaaophcaa

/- Contracts: messages. No condition. -/
set_option linter.unusedSimpArgs false
set_option linter.unusedVariables false
set_option maxRecDepth 10000
namespace Go.Proofs.Ytbgifnlaaophcaa
open Go Go.Rw Go.Proofs
-- a goal is never to be run by the elaborator
attribute [local irreducible] awp aops aop aopsE aeff

theorem msg_right (m : PMsg) : ASpec Try.prog 19 [.agg (eM m)] (· = .v (.bool (rightM m))) := by
  refine ASpec.of_awp Try.func19 (by kernel_rfl) rfl (by rw [Try.results19]) Try.ntmps19 ?_
  simp -implicitDefEqProofs [eM]
  refine allocK.intro (fun b hb => ?_)
  simp -implicitDefEqProofs
  refine CallK.eq (between_spec m.kind 0 7) ?_
  simp -implicitDefEqProofs
  refine branch_intro (fun h1 => ?_) (fun h1 => ?_) <;> simp -implicitDefEqProofs [h1, rightM]
  refine CallK.eq (between_spec m.frm 0 5) ?_
  simp -implicitDefEqProofs
  refine branch_intro (fun h2 => ?_) (fun h2 => ?_) <;> simp -implicitDefEqProofs [h1, h2, rightM]
  refine CallK.eq (between_spec m.to 0 5) ?_
  simp -implicitDefEqProofs
  refine branch_intro (fun h3 => ?_) (fun h3 => ?_) <;> simp -implicitDefEqProofs [h1, h2, h3, rightM]
  refine CallK.eq (between_spec m.inc 1 1000000) ?_
  simp -implicitDefEqProofs
  refine branch_intro (fun h4 => ?_) (fun h4 => ?_) <;> simp -implicitDefEqProofs [h1, h2, h3, h4, rightM]
  refine CallK.eq (between_spec m.seq 1 1000000) ?_
  simp -implicitDefEqProofs
  refine branch_intro (fun h5 => ?_) (fun h5 => ?_) <;> simp -implicitDefEqProofs [h1, h2, h3, h4, h5, rightM]
  intro hl
  have p6 : (0 < m.cells.length) ↔ m.cells ≠ [] := List.length_pos_iff
  have p7 : (0 < m.book.length) ↔ m.book ≠ [] := List.length_pos_iff
  have rest : ((decide (m.cells = []) || decide (m.kind = 1) || decide (m.kind = 5)) && (decide (m.book = []) || decide (m.kind = 3) || decide (m.kind = 6))) = true →
      rightM m = (rightV m.view && checkC (-1) m.cells && checkE (-1) m.book) := fun h => by
    simp only [Bool.and_eq_true] at h
    simp only [rightM, h1, h2, h3, h4, h5, h.1, h.2, Bool.true_and]
  have none : ((decide (m.cells = []) || decide (m.kind = 1) || decide (m.kind = 5)) && (decide (m.book = []) || decide (m.kind = 3) || decide (m.kind = 6))) = false →
      rightM m = false := fun h => by
    rw [Bool.and_eq_false_iff] at h
    rcases h with h | h <;> simp [rightM, h]
  have hk : m.kind = 1 ∨ m.kind = 5 ∨ m.kind = 3 ∨ m.kind = 6 ∨ (m.kind ≠ 1 ∧ m.kind ≠ 5 ∧ m.kind ≠ 3 ∧ m.kind ≠ 6) := by omega
  by_cases ok : ((decide (m.cells = []) || decide (m.kind = 1) || decide (m.kind = 5)) && (decide (m.book = []) || decide (m.kind = 3) || decide (m.kind = 6))) = true
  · have hr := rest ok
    clear rest none
    rcases hk with k | k | k | k | ⟨ka, kb, kc, kd⟩ <;> by_cases q6 : m.cells = [] <;> by_cases q7 : m.book = []
    all_goals first
      | (exfalso; simp_all; done)
      | (simp -implicitDefEqProofs [p6, p7, q6, q7, *]
         intros
         refine CallK.with (change_right m.view) (by simp [eV]) ?_
         simp -implicitDefEqProofs
         refine branch_intro (fun h8 => ?_) (fun h8 => ?_)
         · simp -implicitDefEqProofs [h8]
           refine CallK.with (cells_check m.cells) (by simp [q6]) ?_
           cases h9 : checkC (-1) m.cells
           · simp -implicitDefEqProofs [h8, h9, hr]
           · simp -implicitDefEqProofs [h8, h9]
             refine CallK.with (book_check m.book) (by simp [q7]) ?_
             cases h10 : checkE (-1) m.book <;> simp -implicitDefEqProofs [h8, h9, h10, hr]
         · simp -implicitDefEqProofs [h8, hr])
  · have hr := none (by simpa using ok)
    clear rest none
    rcases hk with k | k | k | k | ⟨ka, kb, kc, kd⟩ <;> by_cases q6 : m.cells = [] <;> by_cases q7 : m.book = []
    all_goals first
      | (exfalso; simp_all; done)
      | (simp -implicitDefEqProofs [p6, p7, q6, q7, *]
         done)
      | (simp -implicitDefEqProofs [p6, p7, q6, q7, *]
         intros
         simp_all
         done)

/-- the same message -/
def headM (a b : PMsg) : Bool := decide (a.kind = b.kind) && decide (a.frm = b.frm) && decide (a.to = b.to) && decide (a.inc = b.inc) && decide (a.seq = b.seq) && (decide (a.view.add = b.view.add) && decide (a.view.del = b.view.del))
def sameM (a b : PMsg) : Bool := headM a b && decide (a.cells = b.cells) && sameEs a.book b.book

theorem msg_same (x y : PMsg) : ASpec Try.prog 24 [.agg (eM x), .agg (eM y)] (· = .v (.bool (sameM x y))) := by
  refine ASpec.of_awp Try.func24 (by kernel_rfl) rfl (by rw [Try.results24]) Try.ntmps24 ?_
  simp -implicitDefEqProofs [eM]
  refine allocK.intro (fun b hb => ?_)
  simp -implicitDefEqProofs
  refine allocK.intro (fun b2 hb2 => ?_)
  have hbb : ¬ b = b2 := by rintro rfl; simp at hb2
  have hbb' : ¬ b2 = b := fun h => hbb h.symm
  simp -implicitDefEqProofs [hbb, hbb']
  by_cases h1 : x.kind = y.kind
  · by_cases h2 : x.frm = y.frm
    · by_cases h3 : x.to = y.to
      · by_cases h4 : x.inc = y.inc
        · by_cases h5 : x.seq = y.seq
          · by_cases h6 : x.view.add = y.view.add
            · by_cases h7 : x.view.del = y.view.del
              · have hh : headM x y = true := by simp [headM, h1, h2, h3, h4, h5, h6, h7]
                simp -implicitDefEqProofs [hbb, hbb', h1, h2, h3, h4, h5, h6, h7]
                refine CallK.eq (equal_cells x.cells y.cells) ?_
                simp -implicitDefEqProofs [hbb, hbb']
                by_cases h8 : x.cells = y.cells
                · simp -implicitDefEqProofs [hbb, hbb', h8]
                  refine CallK.eq (book_same x.book y.book) ?_
                  simp -implicitDefEqProofs [sameM, hh, h8]
                · simp -implicitDefEqProofs [hbb, hbb', h8, sameM]
              · have e7 : (x.view.del == y.view.del) = false := by simpa using h7
                simp -implicitDefEqProofs [hbb, hbb', h1, h2, h3, h4, h5, h6, h7, e7, sameM, headM]
            · have e6 : (x.view.add == y.view.add) = false := by simpa using h6
              simp -implicitDefEqProofs [hbb, hbb', h1, h2, h3, h4, h5, h6, e6, sameM, headM]
          · simp -implicitDefEqProofs [hbb, hbb', h1, h2, h3, h4, h5, sameM, headM]
        · simp -implicitDefEqProofs [hbb, hbb', h1, h2, h3, h4, sameM, headM]
      · simp -implicitDefEqProofs [hbb, hbb', h1, h2, h3, sameM, headM]
    · simp -implicitDefEqProofs [hbb, hbb', h1, h2, sameM, headM]
  · simp -implicitDefEqProofs [hbb, hbb', h1, sameM, headM]

theorem clone_cells (l : List PCell) (hl : l.length * 24 ≤ 140737488355328) : ASpec Try.prog 90 [.sl .no (eCs l)] (Own 47 3 (eCs l)) := by
  refine ASpec.of_awp Try.func90 (by kernel_rfl) rfl (by rw [Try.results90]) Try.ntmps90 ?_
  simp -implicitDefEqProofs
  refine nilK.intro (fun h => ?_) ?_
  · simp -implicitDefEqProofs [h]; exact Own.intro _ (by simp)
  · simp -implicitDefEqProofs [hl]; exact Own.intro _ (by simp)
theorem clone_entries (l : List PEntry) (hl : l.length * 32 ≤ 140737488355328) : ASpec Try.prog 91 [.sl .no (eEs l)] (Own 52 4 (eEs l)) := by
  refine ASpec.of_awp Try.func91 (by kernel_rfl) rfl (by rw [Try.results91]) Try.ntmps91 ?_
  simp -implicitDefEqProofs
  refine nilK.intro (fun h => ?_) ?_
  · simp -implicitDefEqProofs [h]; exact Own.intro _ (by simp)
  · simp -implicitDefEqProofs [hl]; exact Own.intro _ (by simp)
end Go.Proofs.Ytbgifnlaaophcaa

/- Contracts: frames of messages. No condition. -/
set_option linter.unusedSimpArgs false
set_option linter.unusedVariables false
set_option maxRecDepth 10000
namespace Go.Proofs.Ytbgifnlaaophcaa
open Go Go.Rw Go.Proofs
-- a goal is never to be run by the elaborator
attribute [local irreducible] awp aops aop aopsE aeff

def eIs (l : List Int) : List (List AV) := l.map fun n => [eI n]
@[simp] theorem eIs_length (l : List Int) : (eIs l).length = l.length := by simp [eIs]
@[simp] theorem eIs_get (l : List Int) (i : Nat) : (eIs l)[i]? = (l[i]?).map fun n => [eI n] := by simp [eIs]

theorem msg_copy (m : PMsg) (h1 : m.cells.length * 24 ≤ 140737488355328) (h2 : m.book.length * 32 ≤ 140737488355328) : ASpec Try.prog 29 [.agg (eM m)] (· = .agg (eM m)) := by
  refine ASpec.of_awp Try.func29 (by kernel_rfl) rfl (by rw [Try.results29]) Try.ntmps29 ?_
  simp -implicitDefEqProofs [eM]
  refine allocK.intro (fun b hb => ?_)
  simp -implicitDefEqProofs
  refine allocK.intro (fun b2 hb2 => ?_)
  have hbb : ¬ b = b2 := by rintro rfl; simp at hb2
  have hbb' : ¬ b2 = b := fun h => hbb h.symm
  simp -implicitDefEqProofs [hbb, hbb']
  refine CallK.of (clone_cells m.cells h1) ?_
  rintro _ ⟨tag, ht, rfl⟩
  simp -implicitDefEqProofs [hbb, hbb']
  refine CallK.of (clone_entries m.book h2) ?_
  rintro _ ⟨tag2, ht2, rfl⟩
  simp -implicitDefEqProofs [hbb, hbb', eM]

def FcI (b : Nat) (out : List UInt8) (l : List Int) (t : Nat → AV) (h : Nat → Option (List AV)) : Prop := ∃ (k : Nat) (cur : List UInt8) (tag : Tag), t 5 = .sl .no (eIs l) ∧ t 6 = eI l.length ∧ t 7 = eI k ∧ t 1 = .ptr b 0 ∧ h b = some [.sl tag (eB cur)] ∧
  k ≤ l.length ∧ cur ++ forms ((l.drop k).map Int.toNat) = out ++ forms (l.map Int.toNat) ∧ cur.length ≤ out.length + 9 * k

theorem frame1_spec (b : Nat) (out : List UInt8) (tag0 : Tag) (l : List Int) (hl : ∀ n ∈ l, 0 ≤ n ∧ n < 9223372036854775808) (hs : out.length + 9 * l.length ≤ 140737488355328) :
    MSpec Try.prog 74 [.sl .no (eIs l), .ptr b 0] (one b [.sl tag0 (eB out)]) (fun r h' => ∃ c', (r = .tup [] ∧ ∃ tag, c' = [.sl tag (eB (out ++ forms (l.map Int.toNat)))]) ∧ h' = one b c') := by
  refine MSpec.of_awp Try.func74 (by kernel_rfl) rfl (by rw [Try.results74]) Try.ntmps74 ?_
  simp -implicitDefEqProofs
  intro hlen
  refine loopK.intro (FcI b out l) (fun t => l.length - natOf (t 7)) ?_ ?_
  · exact ⟨0, out, tag0, by simp, by simp, by simp, by simp, by simp, by omega, by simp, by omega⟩
  rintro t hh ⟨k, cur, tag, g5, g6, g7, g1, gh, hk, he, hc⟩
  simp -implicitDefEqProofs [g6, g7]
  refine branch_dec (fun hlt => ?_) (fun hlt => ?_)
  · have hlt : k < l.length := by omega
    obtain ⟨x, hx⟩ : ∃ x, l[k]? = some x := ⟨l[k], by simp [hlt]⟩
    have hd : l.drop k = x :: l.drop (k + 1) := by
      rw [List.drop_eq_getElem_cons hlt]; rw [List.getElem?_eq_getElem hlt] at hx; rw [Option.some.inj hx]
    obtain ⟨x0, x1⟩ := hl x (List.mem_of_getElem? hx)
    have hj1 : IntKind.i64.wrap ((k : Int) + 1) = (k : Int) + 1 := w64 (by omega) (by omega)
    have hu : IntKind.u64.wrap x = x := wu64 (by omega) (by omega)
    have hf : (forms [x.toNat]).length ≤ 9 := by
      have := forms_length (ns := [x.toNat]) (by simp; omega)
      simpa using this
    simp -implicitDefEqProofs [g5, g6, g7, g1, gh, hx, hu]
    refine CallK.via (put_spec cur [x.toNat] (by simp; omega) (by simp; omega)) (by simp [eU, encU]; omega) ?_
    rintro _ ⟨tag2, ht2, rfl⟩
    simp -implicitDefEqProofs [g7, g1, gh, hj1]
    refine ⟨⟨k + 1, cur ++ forms [x.toNat], tag2, by simp [g5], by simp [g6], by simp, by simp [g1], by simp, by omega, ?_, ?_⟩, by omega⟩
    · rw [← he, hd, List.map_cons, show x.toNat :: (l.drop (k + 1)).map Int.toNat = [x.toNat] ++ (l.drop (k + 1)).map Int.toNat from rfl, forms_append, List.append_assoc]
    · simp only [List.length_append]; omega
  · have hk' : k = l.length := by omega
    subst hk'
    simp only [List.drop_length, List.map_nil, forms_nil, List.append_nil] at he
    subst he
    simp -implicitDefEqProofs
    refine ⟨_, SubH_one.2 ?_, _, ⟨tag, rfl⟩, rfl⟩
    simp -implicitDefEqProofs [gh]

def numsC (l : List PCell) : List Nat := l.flatMap fun c => (numC c).map Int.toNat
theorem numsC_cons (c : PCell) (l : List PCell) : numsC (c :: l) = (numC c).map Int.toNat ++ numsC l := rfl
def numsE (l : List PEntry) : List Nat := l.flatMap (numE bitsF)
theorem numsE_cons (c : PEntry) (l : List PEntry) : numsE (c :: l) = numE bitsF c ++ numsE l := rfl

def FrI (m : PMsg) (b bo : Nat) (t : Nat → AV) (h : Nat → Option (List AV)) : Prop := ∃ (k : Nat) (cur : List UInt8) (tag : Tag), t 1 = .ptr b 0 ∧ t 4 = .ptr bo 0 ∧ t 5 = .fn 74 [.ptr bo 0] ∧ t 34 = .sl .no (eCs m.cells) ∧ t 35 = eI m.cells.length ∧ t 36 = eI k ∧
  h b = some (eM m) ∧ h bo = some [.sl tag (eB cur)] ∧ k ≤ m.cells.length ∧ cur ++ forms (numsC (m.cells.drop k)) = forms ((headN m).map Int.toNat) ++ forms (numsC m.cells) ∧ cur.length ≤ 1000 + 100 * k
def FrM (m : PMsg) (b bo : Nat) (t : Nat → AV) (h : Nat → Option (List AV)) : Prop := ∃ (cur : List UInt8) (tag : Tag), t 1 = .ptr b 0 ∧ t 4 = .ptr bo 0 ∧ t 5 = .fn 74 [.ptr bo 0] ∧ h b = some (eM m) ∧ h bo = some [.sl tag (eB cur)] ∧
      cur = forms ((headN m).map Int.toNat) ++ forms (numsC m.cells) ∧ cur.length ≤ 1600
def FrJ (m : PMsg) (b bo : Nat) (t : Nat → AV) (h : Nat → Option (List AV)) : Prop := ∃ (k : Nat) (cur : List UInt8) (tag : Tag), t 1 = .ptr b 0 ∧ t 4 = .ptr bo 0 ∧ t 5 = .fn 74 [.ptr bo 0] ∧ t 56 = .sl .no (eEs m.book) ∧ t 57 = eI m.book.length ∧ t 58 = eI k ∧
  h b = some (eM m) ∧ h bo = some [.sl tag (eB cur)] ∧ k ≤ m.book.length ∧ cur ++ forms (numsE (m.book.drop k)) = forms (numsM bitsF m) ∧ cur.length ≤ 2000 + 100 * k

def frameA (o : Option (List UInt8)) : AV := match o with
  | some l => .tup [.sl .no (eB l), eI 0]
  | none => .tup [.sl .no [], eI 111]
def fitM (m : PMsg) : Prop := ∀ x ∈ m.book, x.value < 18446744073709551616
theorem bitsF_lt {n : Nat} (h : n < 18446744073709551616) : bitsF n < 18446744073709551616 := by
  unfold bitsF cleanB; split <;> omega

theorem msg_frame (m : PMsg) (hf : fitM m) : ASpec Try.prog 23 [.agg (eM m)] (· = frameA (if rightM m = true then some (frameF bitsF m) else none)) := by
  refine ASpec.of_awp Try.func23 (by kernel_rfl) rfl (by rw [Try.results23]) Try.ntmps23 ?_
  simp -implicitDefEqProofs [eM]
  refine allocK.intro (fun b hb => ?_)
  simp -implicitDefEqProofs
  refine CallK.with (msg_right m) (by simp [eM]) ?_
  simp -implicitDefEqProofs
  refine branch_intro (fun hr => ?_) (fun hr => ?_)
  rotate_left
  · simp -implicitDefEqProofs [hr, frameA]
  have R := rightM_of hr
  simp -implicitDefEqProofs
  refine allocK.intro (fun bo hbo => ?_)
  have hbb : ¬ b = bo := by rintro rfl; simp at hbo
  have hbb' : ¬ bo = b := fun h => hbb h.symm
  simp -implicitDefEqProofs [hbb, hbb']
  refine regionK.modes [bo] (qs 18 ++ [.l]) follows_mixed (by kernel_rfl) ?_
  have hn := nameV_lt R.view
  simp -implicitDefEqProofs [hbb, hbb', maskH]
  refine CallQ.with (change_name m.view R.view) (by simp [eV]) ?_
  simp -implicitDefEqProofs [hbb, hbb', maskH]
  have hclen := R.clen
  have hblen := R.blen
  have hh : ∀ n ∈ headN m, 0 ≤ n ∧ n < 9223372036854775808 := by
    have := R.kind; have := R.frm; have := R.to; have := R.inc; have := R.seq
    intro n hn'
    simp [headN] at hn'
    omega
  have hfs := frame1_spec bo [] .no (headN m) hh (by simp [headN])
  refine LoudK.oneOf hfs (by simp [eIs, headN]) (by simp) (by simp [hbb']) ?_
  rintro _ _ ⟨rfl, tag, rfl⟩
  simp -implicitDefEqProofs [hbb, hbb', eM]
  intro hl6
  refine loopK.post (FrI m b bo) (fun t => m.cells.length - natOf (t 36)) (FrM m b bo) ?_ ?_ ?_
  · have hl7 : (forms ((headN m).map Int.toNat)).length ≤ 9 * ((headN m).map Int.toNat).length := forms_length (by
      intro n hn
      obtain ⟨x, hx, rfl⟩ := List.mem_map.1 hn
      have := hh x hx
      omega)
    simp only [List.length_map] at hl7
    exact ⟨0, _, tag, by simp, by simp, by simp, by simp, by simp, by simp, by simp [hbb, hbb', eM], by simp [hbb, hbb']; rfl, by omega, by simp, by simp [headN] at hl7 ⊢; omega⟩
  · rintro t hh2 ⟨k, cur, tag, g1, g4, g5, g34, g35, g36, gb, gbo, hk, he, hc⟩
    simp -implicitDefEqProofs [g35, g36]
    refine branch_dec (fun hlt => ?_) (fun hlt => ?_)
    · have hlt : k < m.cells.length := by omega
      obtain ⟨c, hx⟩ : ∃ c, m.cells[k]? = some c := ⟨m.cells[k], by simp [hlt]⟩
      have hd : m.cells.drop k = c :: m.cells.drop (k + 1) := by
        rw [List.drop_eq_getElem_cons hlt]; rw [List.getElem?_eq_getElem hlt] at hx; rw [Option.some.inj hx]
      have hj1 : IntKind.i64.wrap ((k : Int) + 1) = (k : Int) + 1 := w64 (by omega) (by omega)
      obtain ⟨c0, c1, c2⟩ := R.cells c (List.mem_of_getElem? hx)
      have hcn := nameV_lt c2
      simp -implicitDefEqProofs [g34, g36, hx, eC]
      refine allocK.intro (fun bc hbc => ?_)
      have hb1 : ¬ bc = b := by rintro rfl; rw [gb] at hbc; simp at hbc
      have hb2 : ¬ b = bc := fun h => hb1 h.symm
      have hb3 : ¬ bc = bo := by rintro rfl; rw [gbo] at hbc; simp at hbc
      have hb4 : ¬ bo = bc := fun h => hb3 h.symm
      simp -implicitDefEqProofs [hbb, hbb', hb1, hb2, hb3, hb4]
      refine regionK.modes [bo] (qs 7 ++ [.l]) follows_mixed (by kernel_rfl) ?_
      simp -implicitDefEqProofs [g5, hbb, hbb', hb1, hb2, hb3, hb4, maskH]
      refine CallQ.with (change_name c.change c2) (by simp [eV]) ?_
      simp -implicitDefEqProofs [g5, hbb, hbb', hb1, hb2, hb3, hb4, maskH]
      have hhc : ∀ n ∈ numC c, 0 ≤ n ∧ n < 9223372036854775808 := by
        intro n hn'
        simp [numC] at hn'
        omega
      have hfc := frame1_spec bo cur tag (numC c) hhc (by simp [numC]; omega)
      refine LoudK.oneOf hfc (by simp [eIs, numC]) (by simp) (by simp [hb4, gbo]) ?_
      rintro _ _ ⟨rfl, tag2, rfl⟩
      simp -implicitDefEqProofs [g36, hj1]
      have hl7 : (forms ((numC c).map Int.toNat)).length ≤ 9 * ((numC c).map Int.toNat).length := forms_length (by
        intro n hn
        obtain ⟨x, hx, rfl⟩ := List.mem_map.1 hn
        have := hhc x hx
        omega)
      simp only [List.length_map] at hl7
      refine ⟨⟨k + 1, _, tag2, by simp [g1], by simp [g4], by simp [g5], by simp [g34], by simp [g35], by simp, by simp [hbb, hbb', hb1, hb2, gb], by simp [hb4]; rfl, by omega, ?_, ?_⟩, by omega⟩
      · rw [← he, hd, numsC_cons, forms_append, List.append_assoc]
      · simp [numC] at hl7 ⊢; omega
    · have hk' : k = m.cells.length := by omega
      subst hk'
      simp -implicitDefEqProofs
      exact ⟨cur, tag, g1, g4, g5, gb, gbo, by simpa [numsC] using he, by omega⟩
  rintro t hh2 ⟨cur, tag, g1, g4, g5, gb, gbo, he, hc⟩
  simp -implicitDefEqProofs [g1, g5, gb, eM]
  intro hl8
  have hfc := frame1_spec bo cur tag [(m.book.length : Int)] (by simp; omega) (by simp; omega)
  refine CallK.oneOf hfc (by simp [eIs]) (by simp [gbo]) ?_
  rintro _ _ ⟨rfl, tag2, rfl⟩
  have hl7 : (forms [m.book.length]).length ≤ 9 := forms_length (ns := [m.book.length]) (by simp; omega)
  simp -implicitDefEqProofs [g1, gb, hbb, hbb', eM]
  intro _
  refine loopK.intro (FrJ m b bo) (fun t => m.book.length - natOf (t 58)) ?_ ?_
  · refine ⟨0, _, tag2, by simp [g1], by simp [g4], by simp [g5], by simp, by simp, by simp, by simp [hbb, hbb', gb, eM], by simp; rfl, by omega, ?_, ?_⟩
    · simp only [List.drop_zero, numsM, forms_append, he, List.map_cons, List.map_nil, Int.toNat_natCast]
      simp [numsC, numsE]
    · simp only [List.map_cons, List.map_nil, Int.toNat_natCast, List.length_append]; omega
  clear he hc hl7 hl8 gbo gb g1 g4 g5
  rintro t hh2 ⟨k, cur, tag, g1, g4, g5, g56, g57, g58, gb, gbo, hk, he, hc⟩
  simp -implicitDefEqProofs [g57, g58]
  refine branch_dec (fun hlt => ?_) (fun hlt => ?_)
  · have hlt : k < m.book.length := by omega
    obtain ⟨x, hx⟩ : ∃ x, m.book[k]? = some x := ⟨m.book[k], by simp [hlt]⟩
    have hd : m.book.drop k = x :: m.book.drop (k + 1) := by
      rw [List.drop_eq_getElem_cons hlt]; rw [List.getElem?_eq_getElem hlt] at hx; rw [Option.some.inj hx]
    have hj1 : IntKind.i64.wrap ((k : Int) + 1) = (k : Int) + 1 := w64 (by omega) (by omega)
    obtain ⟨c0, c1, c2⟩ := R.book x (List.mem_of_getElem? hx)
    have ht := rightT_of c2
    have hv := bitsF_lt (hf x (List.mem_of_getElem? hx))
    simp -implicitDefEqProofs [g56, g58, hx, eE]
    refine allocK.intro (fun bc hbc => ?_)
    have hb1 : ¬ bc = b := by rintro rfl; rw [gb] at hbc; simp at hbc
    have hb2 : ¬ b = bc := fun h => hb1 h.symm
    have hb3 : ¬ bc = bo := by rintro rfl; rw [gbo] at hbc; simp at hbc
    have hb4 : ¬ bo = bc := fun h => hb3 h.symm
    simp -implicitDefEqProofs [g5, hbb, hbb', hb1, hb2, hb3, hb4]
    have hfc := frame1_spec bo cur tag [x.key, x.tag.num, x.tag.node] (by simp; omega) (by simp; omega)
    refine CallK.oneOf hfc (by simp [eIs]) (by simp [hb4, gbo]) ?_
    rintro _ _ ⟨rfl, tag2, rfl⟩
    simp -implicitDefEqProofs
    refine regionK.intro 6 follows_mixed (by kernel_rfl) ?_
    simp -implicitDefEqProofs [g4, hbb, hbb', hb1, hb2, hb3, hb4]
    refine CallQ.eq (num_bits x.value) ?_
    have hl7 : (forms [x.key.toNat, x.tag.num.toNat, x.tag.node.toNat]).length ≤ 27 := forms_length (ns := [x.key.toNat, x.tag.num.toNat, x.tag.node.toNat]) (by simp; omega)
    have hl9 : (forms [bitsF x.value]).length ≤ 9 := forms_length (ns := [bitsF x.value]) (by simp; omega)
    simp -implicitDefEqProofs [g4]
    refine CallQ.of (put_spec _ [bitsF x.value] (by simp; omega) (by simp at hl7 ⊢; omega)) (x := .sl .no (eB (cur ++ forms [x.key.toNat, x.tag.num.toNat, x.tag.node.toNat] ++ forms [bitsF x.value]))) (by rintro _ ⟨tag, _, rfl⟩; rfl) ?_
    simp -implicitDefEqProofs [g4, g58, hj1]
    refine ⟨⟨k + 1, cur ++ (forms [x.key.toNat, x.tag.num.toNat, x.tag.node.toNat] ++ forms [bitsF x.value]), .no, by simp [g1], by simp [g4], by simp [g5], by simp [g56], by simp [g57], by simp, by simp [hbb, hbb', hb1, hb2, gb], by simp [hb4], by omega, ?_, ?_⟩, by omega⟩
    · rw [← he, hd, numsE_cons, forms_append, ← forms_append, List.append_assoc]; rfl
    · simp only [List.length_append]; omega
  · have hk' : k = m.book.length := by omega
    subst hk'
    simp only [List.drop_length] at he
    simp -implicitDefEqProofs [g4, gbo]
    refine CallK.of (seal_spec cur (by omega)) ?_
    rintro _ ⟨tag3, _, rfl⟩
    have : cur = forms (numsM bitsF m) := by simpa [numsE] using he
    simp -implicitDefEqProofs [hr, frameA, frameF, this]
end Go.Proofs.Ytbgifnlaaophcaa

/- Contracts: a reader. No condition. -/
set_option linter.unusedSimpArgs false
set_option linter.unusedVariables false
set_option maxRecDepth 10000
namespace Go.Proofs.Ytbgifnlaaophcaa
open Go Go.Rw Go.Proofs
-- a goal is never to be run by the elaborator
attribute [local irreducible] awp aops aop aopsE aeff

def eR (r : Rd) : List AV := [.sl .no (eB r.1), .v (.bool r.2)]

theorem rd_bits (b : Nat) (r : Rd) (hl : r.1.length ≤ 140737488355328) : MSpec Try.prog 64 [.ptr b 0] (one b (eR r)) (fun x h' => x = .v (.int .u64 (rdBits r).1) ∧ h' = one b (eR (rdBits r).2)) := by
  refine MSpec.of_awp Try.func64 (by kernel_rfl) rfl (by rw [Try.results64]) Try.ntmps64 ?_
  simp -implicitDefEqProofs [eR]
  refine CallK.eq (get_spec r.1 hl) ?_
  cases hg : getF r.1 with
  | none =>
    simp -implicitDefEqProofs [getA]
    cases hr : r.2 <;> simp -implicitDefEqProofs [rdBits, hg, hr, eR]
  | some q =>
    obtain ⟨n, l⟩ := q
    simp -implicitDefEqProofs [getA]
    cases hr : r.2 <;> simp -implicitDefEqProofs [rdBits, hg, hr, eR]

theorem rd_int (b : Nat) (r : Rd) (hl : r.1.length ≤ 140737488355328) : MSpec Try.prog 61 [.ptr b 0] (one b (eR r)) (fun x h' => x = eI (rdInt r).1 ∧ h' = one b (eR (rdInt r).2)) := by
  refine MSpec.of_awp Try.func61 (by kernel_rfl) rfl (by rw [Try.results61]) Try.ntmps61 ?_
  simp -implicitDefEqProofs
  refine CallK.one (rd_bits b r hl) rfl (by simp [Weak.refl]) ?_
  simp -implicitDefEqProofs [eR]
  refine branch_dec (fun h => ?_) (fun h => ?_)
  · have h' : 1000000 < (rdBits r).1 := by omega
    simp -implicitDefEqProofs [rdInt, h', eR]
  · have h' : ¬ 1000000 < (rdBits r).1 := by omega
    have hw : IntKind.i64.wrap ((rdBits r).1 : Int) = ((rdBits r).1 : Int) := w64 (by omega) (by omega)
    simp -implicitDefEqProofs [rdInt, h', eR, hw]

theorem rd_view (b : Nat) (r : Rd) (hl : r.1.length ≤ 140737488355328) : MSpec Try.prog 62 [.ptr b 0] (one b (eR r)) (fun x h' => x = .agg (eV (rdView r).1) ∧ h' = one b (eR (rdView r).2)) := by
  refine MSpec.of_awp Try.func62 (by kernel_rfl) rfl (by rw [Try.results62]) Try.ntmps62 ?_
  simp -implicitDefEqProofs
  refine allocK.intro (fun b1 hb1 => ?_)
  have hbb : ¬ b1 = b := by rintro rfl; simp at hb1
  have hbb' : ¬ b = b1 := fun h => hbb h.symm
  simp -implicitDefEqProofs [hbb, hbb']
  refine CallK.one (rd_int b r hl) rfl (by simp [hbb', Weak.refl]) ?_
  simp -implicitDefEqProofs [hbb, hbb']
  refine CallK.eq (change_named (rdInt r).1) ?_
  by_cases hn : 0 ≤ (rdInt r).1 ∧ (rdInt r).1 < 4096
  · have hr : namedA (rdInt r).1 = .tup [.agg (eV ⟨(rdInt r).1 / 64, (rdInt r).1 % 64⟩), eI 0] := if_pos hn
    have hv : viewN (rdInt r).1 = ⟨(rdInt r).1 / 64, (rdInt r).1 % 64⟩ := if_pos hn
    simp -implicitDefEqProofs [hr, eV]
    refine allocK.intro (fun b2 hb2 => ?_)
    have h1 : ¬ b2 = b := by rintro rfl; simp at hb2
    have h2 : ¬ b = b2 := fun h => h1 h.symm
    have h3 : ¬ b2 = b1 := by rintro rfl; simp [hbb] at hb2
    have h4 : ¬ b1 = b2 := fun h => h3 h.symm
    simp -implicitDefEqProofs [hbb, hbb', h1, h2, h3, h4, eR]
    cases hq : (rdInt r).2.2 <;> simp -implicitDefEqProofs [hbb, hbb', h1, h2, h3, h4, eR, rdView, hn, hv, hq, eV]
  · have hr : namedA (rdInt r).1 = .tup [.agg (eV ⟨0, 0⟩), eI 41] := if_neg hn
    have hv : viewN (rdInt r).1 = ⟨0, 0⟩ := if_neg hn
    simp -implicitDefEqProofs [hr, eV]
    refine allocK.intro (fun b2 hb2 => ?_)
    have h1 : ¬ b2 = b := by rintro rfl; simp at hb2
    have h2 : ¬ b = b2 := fun h => h1 h.symm
    have h3 : ¬ b2 = b1 := by rintro rfl; simp [hbb] at hb2
    have h4 : ¬ b1 = b2 := fun h => h3 h.symm
    simp -implicitDefEqProofs [hbb, hbb', h1, h2, h3, h4, eR]
    cases hq : (rdInt r).2.2 <;> simp -implicitDefEqProofs [hbb, hbb', h1, h2, h3, h4, eR, rdView, hn, hv, hq, eV]

theorem rd_many (b : Nat) (r : Rd) (most : Int) (hl : r.1.length ≤ 140737488355328) : MSpec Try.prog 63 [.ptr b 0, eI most] (one b (eR r)) (fun x h' => x = eI (rdMany most r).1 ∧ h' = one b (eR (rdMany most r).2)) := by
  refine MSpec.of_awp Try.func63 (by kernel_rfl) rfl (by rw [Try.results63]) Try.ntmps63 ?_
  simp -implicitDefEqProofs
  refine CallK.one (rd_int b r hl) rfl (by simp [Weak.refl]) ?_
  simp -implicitDefEqProofs [eR]
  refine branch_dec (fun h => ?_) (fun h => ?_) <;> simp -implicitDefEqProofs [rdMany, h, eR]

def kindN (q : Int) : Int := if q = 0 then 5 else if q = 2 then 6 else 7
theorem msg_kind (q : Int) : ASpec Try.prog 82 [eI q] (· = eI (kindN q)) := by
  refine ASpec.of_awp Try.func82 (by kernel_rfl) rfl (by rw [Try.results82]) Try.ntmps82 ?_
  simp -implicitDefEqProofs
  refine branch_dec (fun h => ?_) (fun h => ?_)
  · simp -implicitDefEqProofs [h, kindN]
  · simp -implicitDefEqProofs [h]
    refine branch_dec (fun h2 => ?_) (fun h2 => ?_) <;> simp -implicitDefEqProofs [h, h2, kindN]

/-- does one message answer another? -/
def answersM (q a : PMsg) : Bool := decide (0 ≤ q.kind) && decide (q.kind ≤ 4) && decide (a.kind = kindN q.kind) && decide (a.frm = q.to) && decide (a.to = q.frm) && decide (a.inc = q.inc) && decide (a.seq = q.seq) && decide (a.view.add = q.view.add) && decide (a.view.del = q.view.del)

theorem msg_answers (q a : PMsg) : ASpec Try.prog 26 [.agg (eM q), .agg (eM a)] (· = .v (.bool (answersM q a))) := by
  refine ASpec.of_awp Try.func26 (by kernel_rfl) rfl (by rw [Try.results26]) Try.ntmps26 ?_
  simp -implicitDefEqProofs [eM]
  refine allocK.intro (fun b hb => ?_)
  simp -implicitDefEqProofs
  refine allocK.intro (fun b2 hb2 => ?_)
  have hbb : ¬ b = b2 := by rintro rfl; simp at hb2
  have hbb' : ¬ b2 = b := fun h => hbb h.symm
  simp -implicitDefEqProofs [hbb, hbb']
  by_cases h1 : 0 ≤ q.kind
  · by_cases h2 : q.kind ≤ 4
    · simp -implicitDefEqProofs [hbb, hbb', h1, h2]
      refine regionK.intro 44 follows_mixed (by kernel_rfl) ?_
      simp -implicitDefEqProofs [hbb, hbb', h1, h2]
      refine CallQ.eq (msg_kind q.kind) ?_
      by_cases h3 : a.kind = kindN q.kind
      · by_cases h4 : a.frm = q.to
        · by_cases h5 : a.to = q.frm
          · by_cases h6 : a.inc = q.inc
            · by_cases h7 : a.seq = q.seq
              · by_cases h8 : a.view.add = q.view.add
                · by_cases h9 : a.view.del = q.view.del
                  · simp -implicitDefEqProofs [hbb, hbb', h1, h2, h3, h4, h5, h6, h7, h8, h9, answersM]
                  · have e9 : (a.view.del == q.view.del) = false := by simpa using h9
                    simp -implicitDefEqProofs [hbb, hbb', h1, h2, h3, h4, h5, h6, h7, h8, h9, e9, answersM]
                · have e8 : (a.view.add == q.view.add) = false := by simpa using h8
                  simp -implicitDefEqProofs [hbb, hbb', h1, h2, h3, h4, h5, h6, h7, h8, e8, answersM]
              · simp -implicitDefEqProofs [hbb, hbb', h1, h2, h3, h4, h5, h6, h7, answersM]
            · simp -implicitDefEqProofs [hbb, hbb', h1, h2, h3, h4, h5, h6, answersM]
          · simp -implicitDefEqProofs [hbb, hbb', h1, h2, h3, h4, h5, answersM]
        · simp -implicitDefEqProofs [hbb, hbb', h1, h2, h3, h4, answersM]
      · simp -implicitDefEqProofs [hbb, hbb', h1, h2, h3, answersM]
    · simp -implicitDefEqProofs [hbb, hbb', h1, h2]
      refine regionK.intro 44 follows_mixed (by kernel_rfl) ?_
      simp -implicitDefEqProofs [hbb, hbb', h1, h2, answersM]
  · simp -implicitDefEqProofs [hbb, hbb', h1]
    refine regionK.intro 44 follows_mixed (by kernel_rfl) ?_
    simp -implicitDefEqProofs [hbb, hbb', h1, answersM]
end Go.Proofs.Ytbgifnlaaophcaa

/- Contracts: messages are read. No condition. -/
set_option linter.unusedSimpArgs false
set_option linter.unusedVariables false
set_option maxRecDepth 10000
namespace Go.Proofs.Ytbgifnlaaophcaa
open Go Go.Rw Go.Proofs
-- a goal is never to be run by the elaborator
attribute [local irreducible] awp aops aop aopsE aeff

/-- a message in memory whose slices may be appended to -/
def eMt (t1 t2 : Tag) (m : PMsg) : List AV := [eI m.kind, eI m.frm, eI m.to, eI m.inc, eI m.seq, eI m.view.add, eI m.view.del, .sl t1 (eCs m.cells), .sl t2 (eEs m.book)]
theorem eMt_no (m : PMsg) : eMt .no .no m = eM m := rfl
def readA (o : Option PMsg) : AV := match o with
  | some m => .tup [.agg (eM m), eI 0]
  | none => .tup [.agg (eM ⟨0, 0, 0, 0, 0, ⟨0, 0⟩, [], []⟩), eI 111]

def ptrs (bm : Nat) : List (List AV) := [[.ptr bm 0], [.ptr bm 1], [.ptr bm 2], [.ptr bm 3], [.ptr bm 4]]
def RdA (r0 : Rd) (bz br bm : Nat) (t : Nat → AV) (h : Nat → Option (List AV)) : Prop := ∃ k : Nat, t 2 = .ptr bz 0 ∧ t 6 = .ptr br 0 ∧ t 7 = .ptr bm 0 ∧ t 29 = .sl .full (ptrs bm) ∧ t 30 = eI 5 ∧ t 31 = eI k ∧ k ≤ 5 ∧
  h bz = some (eMt .nil .nil ⟨0, 0, 0, 0, 0, ⟨0, 0⟩, [], []⟩) ∧ h br = some (eR (rdSt r0 k)) ∧ h bm = some (eMt .nil .nil (msgAt r0 k ⟨0, 0⟩ [] []))
def RdB (r0 : Rd) (bz br bm : Nat) (t : Nat → AV) (h : Nat → Option (List AV)) : Prop := ∃ (k : Nat) (tag : Tag), t 2 = .ptr bz 0 ∧ t 6 = .ptr br 0 ∧ t 7 = .ptr bm 0 ∧ t 44 = eI (rdNC r0).1 ∧ t 45 = eI k ∧ (k : Int) ≤ (rdNC r0).1 ∧
  h bz = some (eMt .nil .nil ⟨0, 0, 0, 0, 0, ⟨0, 0⟩, [], []⟩) ∧ h br = some (eR (rdL rdCell k (rdNC r0).2).2) ∧ h bm = some (eMt tag .nil (msgAt r0 5 (rdV r0).1 (rdL rdCell k (rdNC r0).2).1 [])) ∧ appOK tag 47 3
def RdC (r0 : Rd) (bz br bm : Nat) (t : Nat → AV) (h : Nat → Option (List AV)) : Prop := ∃ (k : Nat) (tag tag1 : Tag), t 2 = .ptr bz 0 ∧ t 6 = .ptr br 0 ∧ t 7 = .ptr bm 0 ∧ t 60 = eI (rdNE r0).1 ∧ t 61 = eI k ∧ (k : Int) ≤ (rdNE r0).1 ∧
  h bz = some (eMt .nil .nil ⟨0, 0, 0, 0, 0, ⟨0, 0⟩, [], []⟩) ∧ h br = some (eR (rdL (rdEntry bitsF) k (rdNE r0).2).2) ∧ h bm = some (eMt tag1 tag (msgAt r0 5 (rdV r0).1 (rdCs r0).1 (rdL (rdEntry bitsF) k (rdNE r0).2).1)) ∧ appOK tag 52 4

def RdA5 (r0 : Rd) (bz br bm : Nat) (t : Nat → AV) (h : Nat → Option (List AV)) : Prop := t 2 = .ptr bz 0 ∧ t 6 = .ptr br 0 ∧ t 7 = .ptr bm 0 ∧ h bz = some (eMt .nil .nil ⟨0, 0, 0, 0, 0, ⟨0, 0⟩, [], []⟩) ∧ h br = some (eR (rdSt r0 5)) ∧ h bm = some (eMt .nil .nil (msgAt r0 5 ⟨0, 0⟩ [] []))

def RdB5 (r0 : Rd) (bz br bm : Nat) (t : Nat → AV) (h : Nat → Option (List AV)) : Prop := ∃ tag : Tag, t 2 = .ptr bz 0 ∧ t 6 = .ptr br 0 ∧ t 7 = .ptr bm 0 ∧ h bz = some (eMt .nil .nil ⟨0, 0, 0, 0, 0, ⟨0, 0⟩, [], []⟩) ∧ h br = some (eR (rdCs r0).2) ∧ h bm = some (eMt tag .nil (msgAt r0 5 (rdV r0).1 (rdCs r0).1 []))

@[simp] theorem msgAt_cells (r : Rd) (k : Nat) (v : PView) (cs : List PCell) (es : List PEntry) : (msgAt r k v cs es).cells = cs := rfl
@[simp] theorem msgAt_book (r : Rd) (k : Nat) (v : PView) (cs : List PCell) (es : List PEntry) : (msgAt r k v cs es).book = es := rfl
@[simp] theorem msgAt_view (r : Rd) (k : Nat) (v : PView) (cs : List PCell) (es : List PEntry) : (msgAt r k v cs es).view = v := rfl
theorem msgAt_same (r : Rd) (k : Nat) (v : PView) (cs cs' : List PCell) (es es' : List PEntry) : (msgAt r k v cs es).kind = (msgAt r k v cs' es').kind ∧ (msgAt r k v cs es).frm = (msgAt r k v cs' es').frm ∧ (msgAt r k v cs es).to = (msgAt r k v cs' es').to ∧
    (msgAt r k v cs es).inc = (msgAt r k v cs' es').inc ∧ (msgAt r k v cs es).seq = (msgAt r k v cs' es').seq := ⟨rfl, rfl, rfl, rfl, rfl⟩
theorem eMt_cells (r : Rd) (v : PView) (cs : List PCell) (t1 t2 : Tag) : eMt t1 t2 (msgAt r 5 v cs []) = [eI (rdVal r 0), eI (rdVal r 1), eI (rdVal r 2), eI (rdVal r 3), eI (rdVal r 4), eI v.add, eI v.del, .sl t1 (eCs cs), .sl t2 []] := by simp [eMt, msgAt]
theorem eMt_book (r : Rd) (v : PView) (cs : List PCell) (es : List PEntry) (t1 t2 : Tag) : eMt t1 t2 (msgAt r 5 v cs es) = [eI (rdVal r 0), eI (rdVal r 1), eI (rdVal r 2), eI (rdVal r 3), eI (rdVal r 4), eI v.add, eI v.del, .sl t1 (eCs cs), .sl t2 (eEs es)] := by simp [eMt, msgAt]
theorem eCs_push (l : List PCell) (a b c : Int) : eCs l ++ [[AV.v (.int .i64 a), AV.v (.int .i64 b), AV.v (.int .i64 c)]] = eCs (l ++ [⟨a, ⟨b, c⟩⟩]) := by simp [eCs, eC]
theorem eEs_push (l : List PEntry) (a b c : Int) (d : Nat) : eEs l ++ [[AV.v (.int .i64 a), AV.v (.int .i64 b), AV.v (.int .i64 c), AV.v (.float .f64 d)]] = eEs (l ++ [⟨a, ⟨b, c⟩, d⟩]) := by simp [eEs, eE]
theorem wr1 : IntKind.i64.wrap 1 = 1 := by decide
theorem wr2 : IntKind.i64.wrap 2 = 2 := by decide
theorem wr3 : IntKind.i64.wrap 3 = 3 := by decide
theorem wr4 : IntKind.i64.wrap 4 = 4 := by decide
theorem wr5 : IntKind.i64.wrap 5 = 5 := by decide
def RdC5 (r0 : Rd) (bz br bm : Nat) (t : Nat → AV) (h : Nat → Option (List AV)) : Prop := ∃ tag1 tag2 : Tag, t 2 = .ptr bz 0 ∧ t 6 = .ptr br 0 ∧ t 7 = .ptr bm 0 ∧ h bz = some (eMt .nil .nil ⟨0, 0, 0, 0, 0, ⟨0, 0⟩, [], []⟩) ∧ h br = some (eR (rdEs bitsF r0).2) ∧ h bm = some (eMt tag1 tag2 (rdMsg bitsF r0))

theorem msg_read (f : List UInt8) (hf : f.length ≤ 140737488355328) : ASpec Try.prog 20 [.sl .no (eB f)] (· = readA (readF bitsF f)) := by
  refine ASpec.of_awp Try.func20 (by kernel_rfl) rfl (by rw [Try.results20]) Try.ntmps20 ?_
  simp -implicitDefEqProofs
  refine allocK.intro (fun bz hbz => ?_)
  simp -implicitDefEqProofs
  refine CallK.eq (open_spec f hf) ?_
  cases ho : openF f with
  | none => simp -implicitDefEqProofs [openA, readF, ho, readA, eM]
  | some l =>
    have hl := openF_len ho
    obtain ⟨r0, hr0⟩ : ∃ r0 : Rd, r0 = (l, false) := ⟨_, rfl⟩
    have hrl : r0.1.length ≤ 140737488355328 := by rw [hr0]; simp; omega
    simp -implicitDefEqProofs [openA]
    refine allocK.intro (fun br hbr => ?_)
    have h1 : ¬ bz = br := by rintro rfl; simp at hbr
    have h1' : ¬ br = bz := fun h => h1 h.symm
    simp -implicitDefEqProofs [h1, h1']
    refine allocK.intro (fun bm hbm => ?_)
    have h2 : ¬ br = bm := by rintro rfl; simp at hbm
    have h2' : ¬ bm = br := fun h => h2 h.symm
    have h3 : ¬ bz = bm := by rintro rfl; simp [h1] at hbm
    have h3' : ¬ bm = bz := fun h => h3 h.symm
    simp -implicitDefEqProofs [h1, h1', h2, h2', h3, h3']
    refine loopK.post (RdA r0 bz br bm) (fun t => 5 - natOf (t 31)) (RdA5 r0 bz br bm) ?_ ?_ ?_
    · exact ⟨0, by simp, by simp, by simp, by simp [ptrs], by simp, by simp, by omega, by simp [h1, h1', h2, h2', h3, h3', eMt], by simp [h1, h1', h2, h2', h3, h3', eR, rdSt, hr0], by simp [h1, h1', h2, h2', h3, h3', eMt, msgAt]⟩
    · rintro t hh ⟨k, g2, g6, g7, g29, g30, g31, hk, gz, gr, gm⟩
      simp -implicitDefEqProofs [g30, g31]
      refine branch_dec (fun hlt => ?_) (fun hlt => ?_)
      · have hk5 : k = 0 ∨ k = 1 ∨ k = 2 ∨ k = 3 ∨ k = 4 := by omega
        have hsl := rdSt_len r0 k
        rcases hk5 with rfl | rfl | rfl | rfl | rfl <;> simp -implicitDefEqProofs [g29, g31, ptrs, g6]
        all_goals refine CallK.one (rd_int br _ (Nat.le_trans hsl hrl)) rfl (by simp [gr, Weak.refl]) ?_
        all_goals simp -implicitDefEqProofs [h1, h1', h2, h2', h3, h3', gm, eMt, msgAt, g31, wr1, wr2, wr3, wr4, wr5]
        · exact ⟨1, by simp [g2], by simp [g6], by simp [g7], by simp [g29], by simp [g30], by simp, by omega, by simp [h1, h1', h2, h2', h3, h3', gz], by simp [h1, h1', h2, h2', h3, h3', rdSt], by simp [h1, h1', h2, h2', h3, h3', eMt, msgAt, rdVal, rdSt]⟩
        · exact ⟨2, by simp [g2], by simp [g6], by simp [g7], by simp [g29], by simp [g30], by simp, by omega, by simp [h1, h1', h2, h2', h3, h3', gz], by simp [h1, h1', h2, h2', h3, h3', rdSt], by simp [h1, h1', h2, h2', h3, h3', eMt, msgAt, rdVal, rdSt]⟩
        · exact ⟨3, by simp [g2], by simp [g6], by simp [g7], by simp [g29], by simp [g30], by simp, by omega, by simp [h1, h1', h2, h2', h3, h3', gz], by simp [h1, h1', h2, h2', h3, h3', rdSt], by simp [h1, h1', h2, h2', h3, h3', eMt, msgAt, rdVal, rdSt]⟩
        · exact ⟨4, by simp [g2], by simp [g6], by simp [g7], by simp [g29], by simp [g30], by simp, by omega, by simp [h1, h1', h2, h2', h3, h3', gz], by simp [h1, h1', h2, h2', h3, h3', rdSt], by simp [h1, h1', h2, h2', h3, h3', eMt, msgAt, rdVal, rdSt]⟩
        · exact ⟨5, by simp [g2], by simp [g6], by simp [g7], by simp [g29], by simp [g30], by simp, by omega, by simp [h1, h1', h2, h2', h3, h3', gz], by simp [h1, h1', h2, h2', h3, h3', rdSt], by simp [h1, h1', h2, h2', h3, h3', eMt, msgAt, rdVal, rdSt]⟩
      · have hk' : k = 5 := by omega
        subst hk'
        simp -implicitDefEqProofs
        exact ⟨g2, g6, g7, gz, gr, gm⟩
    rintro t hh ⟨g2, g6, g7, gz, gr, gm⟩
    have hs5 := Nat.le_trans (rdSt_len r0 5) hrl
    have hsv := Nat.le_trans (rdView_len (rdSt r0 5)) hs5
    simp -implicitDefEqProofs [g6]
    refine CallK.one (rd_view br _ hs5) rfl (by simp [gr, Weak.refl]) ?_
    simp -implicitDefEqProofs [g6, g7, h1, h1', h2, h2', h3, h3', gm, eMt, eV]
    refine CallK.one (rd_many br _ 6 hsv) rfl (by simp [h2, Weak.refl]) ?_
    simp -implicitDefEqProofs [g6, g7, h1, h1', h2, h2', h3, h3', gm, eMt, eV]
    have hsn : (rdNC r0).2.1.length ≤ 140737488355328 := Nat.le_trans (rdMany_len _ _) hsv
    have hnl := rdMany_lt (m := 6) (by omega) (rdView (rdSt r0 5)).2
    refine loopK.post (RdB r0 bz br bm) (fun t => (rdNC r0).1.toNat - natOf (t 45)) (RdB5 r0 bz br bm) ?_ ?_ ?_
    · exact ⟨0, .nil, by simp [g2], by simp [g6], by simp [g7], by simp [rdNC, rdV], by simp, by simp [rdNC, rdV]; omega, by simp [h1, h1', h2, h2', h3, h3', gz], by simp [h1, h1', h2, h2', h3, h3', rdL, rdNC, rdV], by simp [h1, h1', h2, h2', h3, h3', eMt, msgAt, rdV, rdL], by simp⟩
    · clear g2 g6 g7 gz gr gm
      rintro t hh ⟨k, tag, g2, g6, g7, g44, g45, hk, gz, gr, gm, htag⟩
      simp -implicitDefEqProofs [g44, g45]
      refine branch_dec (fun hlt => ?_) (fun hlt => ?_)
      · have hkl := rdL_len rdCell_len k (rdNC r0).2
        have hb1 := Nat.le_trans hkl.1 hsn
        have hnl' : (rdNC r0).1 ≤ 6 := hnl.2
        have hj1 : IntKind.i64.wrap ((k : Int) + 1) = (k : Int) + 1 := w64 (by omega) (by omega)
        simp -implicitDefEqProofs [g6]
        refine CallK.one (rd_int br _ hb1) rfl (by simp [gr, Weak.refl]) ?_
        simp -implicitDefEqProofs [g6, g7]
        refine regionK.modes [br] [.q, .q, .q, .q, .l, .q, .q, .q] follows_mixed (by kernel_rfl) ?_
        simp -implicitDefEqProofs [g6, g7, h1, h1', h2, h2', h3, h3', maskH, gm, eMt_cells]
        have hb2 := Nat.le_trans (rdInt_len (rdL rdCell k (rdNC r0).2).2) hb1
        refine LoudK.one (rd_view br _ hb2) rfl (by simp) (by simp [h2, Weak.refl]) ?_
        simp -implicitDefEqProofs [g6, g7, h1, h1', h2, h2', h3, h3', maskH, gm, eMt_cells, eV, htag]
        refine ⟨by omega, ?_⟩
        rw [eCs_push]
        simp -implicitDefEqProofs [g7, h1, h1', h2, h2', h3, h3', gm, eMt_cells, g45, hj1]
        refine ⟨⟨k + 1, _, by simp [g2], by simp [g6], by simp [g7], by simp [g44], by simp, by omega, by simp [h1, h1', h2, h2', h3, h3', gz], by simp [h1, h1', h2, h2', h3, h3']; rfl, by simp [eMt_cells]; exact ⟨rfl, rfl⟩, by simp⟩, by omega⟩
      · have hk' : (rdNC r0).1.toNat = k := by omega
        simp -implicitDefEqProofs
        refine ⟨tag, g2, g6, g7, gz, ?_, ?_⟩
        · rw [gr, rdCs, hk']
        · rw [gm, rdCs, hk']
    clear g2 g6 g7 gz gr gm
    rintro t hh ⟨tag0, g2, g6, g7, gz, gr, gm⟩
    have hsc := Nat.le_trans (rdL_len rdCell_len (rdNC r0).1.toNat (rdNC r0).2).1 hsn
    simp -implicitDefEqProofs [g6]
    refine CallK.one (rd_many br _ 4 hsc) rfl (by simp [gr, Weak.refl]; exact Weak.refl _) ?_
    simp -implicitDefEqProofs [g6, g7, h1, h1', h2, h2', h3, h3', gm]
    have hse : (rdNE r0).2.1.length ≤ 140737488355328 := Nat.le_trans (rdMany_len _ _) hsc
    have hnl2 := rdMany_lt (m := 4) (by omega) (rdCs r0).2
    refine loopK.post (RdC r0 bz br bm) (fun t => (rdNE r0).1.toNat - natOf (t 61)) (RdC5 r0 bz br bm) ?_ ?_ ?_
    · exact ⟨0, .nil, tag0, by simp [g2], by simp [g6], by simp [g7], by simp [rdNE, rdCs], by simp, by simp [rdNE]; omega, by simp [h1, h1', h2, h2', h3, h3', gz], by simp [h1, h1', h2, h2', h3, h3', rdL, rdNE, rdCs], by simp [h1, h1', h2, h2', h3, h3', gm, rdL], by simp⟩
    · clear g2 g6 g7 gz gr gm
      rintro t hh ⟨k, tag, tag1, g2, g6, g7, g60, g61, hk, gz, gr, gm, htag⟩
      simp -implicitDefEqProofs [g60, g61]
      refine branch_dec (fun hlt => ?_) (fun hlt => ?_)
      · have hkl := rdL_len (rdEntry_len bitsF) k (rdNE r0).2
        have hb1 := Nat.le_trans hkl.1 hse
        have hb2 := Nat.le_trans (rdInt_len (rdL (rdEntry bitsF) k (rdNE r0).2).2) hb1
        have hb3 := Nat.le_trans (rdInt_len _) hb2
        have hb4 := Nat.le_trans (rdInt_len _) hb3
        have hnl' : (rdNE r0).1 ≤ 4 := hnl2.2
        have hj1 : IntKind.i64.wrap ((k : Int) + 1) = (k : Int) + 1 := w64 (by omega) (by omega)
        simp -implicitDefEqProofs [g6]
        refine CallK.one (rd_int br _ hb1) rfl (by simp [gr, Weak.refl]) ?_
        simp -implicitDefEqProofs [g6]
        refine allocK.intro (fun bx hbx => ?_)
        have k1 : ¬ bx = bz := by rintro rfl; simp [h1, gz] at hbx
        have k1' : ¬ bz = bx := fun h => k1 h.symm
        have k2 : ¬ bx = br := by rintro rfl; simp at hbx
        have k2' : ¬ br = bx := fun h => k2 h.symm
        have k3 : ¬ bx = bm := by rintro rfl; simp [h2', gm] at hbx
        have k3' : ¬ bm = bx := fun h => k3 h.symm
        simp -implicitDefEqProofs [g6, k1, k1', k2, k2', k3, k3']
        refine CallK.one (rd_int br _ hb2) rfl (by simp [k2', Weak.refl]) ?_
        simp -implicitDefEqProofs [g6, k1, k1', k2, k2', k3, k3']
        refine CallK.one (rd_int br _ hb3) rfl (by simp [k2', Weak.refl]) ?_
        simp -implicitDefEqProofs [g6, k1, k1', k2, k2', k3, k3']
        refine CallK.one (rd_bits br _ hb4) rfl (by simp [k2', Weak.refl]) ?_
        simp -implicitDefEqProofs [g6, k1, k1', k2, k2', k3, k3']
        refine CallK.eq (num_of _) ?_
        obtain ⟨q, hq⟩ : ∃ q, q = rdBits (rdInt (rdInt (rdInt (rdL (rdEntry bitsF) k (rdNE r0).2).2).2).2).2 := ⟨_, rfl⟩
        rw [← hq]
        have hent : rdEntry bitsF (rdL (rdEntry bitsF) k (rdNE r0).2).2 = (⟨(rdInt (rdL (rdEntry bitsF) k (rdNE r0).2).2).1, ⟨(rdInt (rdInt (rdL (rdEntry bitsF) k (rdNE r0).2).2).2).1, (rdInt (rdInt (rdInt (rdL (rdEntry bitsF) k (rdNE r0).2).2).2).2).1⟩, bitsF q.1⟩, (q.2.1, q.2.2 || !decide (bitsF (bitsF q.1) = q.1))) := by
          rw [hq]; rfl
        have go : ∀ bad : Bool, bad = (q.2.2 || !decide (bitsF (bitsF q.1) = q.1)) → ((rdL (rdEntry bitsF) (k + 1) (rdNE r0).2).2 = (q.2.1, bad)) := fun bad hb => by rw [rdL, hent, hb]
        cases hbad : q.2.2
        · simp -implicitDefEqProofs [g6, g7, h1, h1', h2, h2', h3, h3', k1, k1', k2, k2', k3, k3', eR, hbad]
          refine CallK.eq (num_bits _) ?_
          simp -implicitDefEqProofs [g6, g7, h1, h1', h2, h2', h3, h3', k1, k1', k2, k2', k3, k3', gm, eMt_book, htag]
          refine ⟨by omega, ?_⟩
          rw [eEs_push]
          simp -implicitDefEqProofs [g61, hj1]
          refine ⟨⟨k + 1, _, tag1, by simp [g2], by simp [g6], by simp [g7], by simp [g60], by simp, by omega, by simp [h1, h1', h2, h2', h3, h3', k1', gz], ?_, by simp [rdL, hent, eMt_book]; exact ⟨rfl, rfl⟩, by simp⟩, by omega⟩
          rw [go _ rfl]
          simp [h1, h1', h2, h2', h3, h3', k1, k1', k2, k2', k3, k3', eR, hbad]
          rw [show ofF q.1 = bitsF q.1 from rfl]
          omega
        · simp -implicitDefEqProofs [g6, g7, h1, h1', h2, h2', h3, h3', k1, k1', k2, k2', k3, k3', eR, hbad, gm, eMt_book, htag]
          refine ⟨by omega, ?_⟩
          rw [eEs_push]
          simp -implicitDefEqProofs [g61, hj1]
          refine ⟨⟨k + 1, _, tag1, by simp [g2], by simp [g6], by simp [g7], by simp [g60], by simp, by omega, by simp [h1, h1', h2, h2', h3, h3', k1', gz], ?_, by simp [rdL, hent, eMt_book]; exact ⟨rfl, rfl⟩, by simp⟩, by omega⟩
          rw [go _ rfl]
          simp [h1, h1', h2, h2', h3, h3', k1, k1', k2, k2', k3, k3', eR, hbad]
      · have hk' : (rdNE r0).1.toNat = k := by omega
        simp -implicitDefEqProofs
        refine ⟨tag1, tag, g2, g6, g7, gz, ?_, ?_⟩
        · rw [gr, rdEs, hk']
        · rw [gm, rdMsg, rdEs, hk']
    clear g2 g6 g7 gz gr gm
    rintro t hh ⟨tag1, tag2, g2, g6, g7, gz, gr, gm⟩
    have hm : rdMsg bitsF r0 = msgAt r0 5 (rdV r0).1 (rdCs r0).1 (rdEs bitsF r0).1 := rfl
    have hrf : readF bitsF f = if (rdEs bitsF r0).2.2 = true ∨ 0 < (rdEs bitsF r0).2.1.length ∨ rightM (rdMsg bitsF r0) = false then none else some (rdMsg bitsF r0) := by
      rw [readF, ho, hr0]
    rw [eR] at gr
    cases hbad : (rdEs bitsF r0).2.2
    · by_cases hlen : 0 < (rdEs bitsF r0).2.1.length
      · rw [if_pos (.inr (.inl hlen))] at hrf
        simp -implicitDefEqProofs [g6, gr, hbad]
        intro _
        simp -implicitDefEqProofs [hlen, g2, gz, h1, h1', h2, h2', h3, h3', eMt, readA, hrf, eM]
      · simp -implicitDefEqProofs [g6, g7, gr, gm, hbad]
        intro _
        simp -implicitDefEqProofs [hlen, g7, gm, h1, h1', h2, h2', h3, h3', hm, eMt_book]
        refine CallK.with (msg_right (rdMsg bitsF r0)) (by simp [← eMt_no, hm, eMt_book]) ?_
        cases hright : rightM (rdMsg bitsF r0)
        · rw [if_pos (.inr (.inr hright))] at hrf
          simp -implicitDefEqProofs [g2, gz, h1, h1', h2, h2', h3, h3', eMt, readA, hrf, eM]
        · rw [if_neg (by simp [hbad, hlen, hright])] at hrf
          simp -implicitDefEqProofs [g2, g7, gz, gm, h1, h1', h2, h2', h3, h3', eMt, hm, eMt_book, readA, hrf, ← eMt_no]
    · rw [if_pos (.inl hbad)] at hrf
      simp -implicitDefEqProofs [g6, gr, hbad, g2, gz, h1, h1', h2, h2', h3, h3', eMt, readA, hrf, eM]
end Go.Proofs.Ytbgifnlaaophcaa

/- Contracts: bits side by side are turned. No condition. -/
set_option linter.unusedSimpArgs false
set_option linter.unusedVariables false
set_option maxRecDepth 10000
namespace Go.Proofs.Ytbgifnlaaophcaa
open Go Go.Rw Go.Proofs
-- a goal is never to be run by the elaborator
attribute [local irreducible] awp aops aop aopsE aeff

/-- new memory, which the caller may write -/
def New (e sz : Nat) (rows : List (List AV)) (r : AV) : Prop := (rows = [] ∧ ∃ tag, appOK tag e sz ∧ r = .sl tag []) ∨ (rows ≠ [] ∧ r = .sl (.live e sz true) rows)

theorem clone_bytes_new (l : List UInt8) (hl : l.length ≤ 140737488355328) : ASpec Try.prog 80 [.sl .no (eB l)] (New 5 1 (eB l)) := by
  refine ASpec.of_awp Try.func80 (by kernel_rfl) rfl (by rw [Try.results80]) Try.ntmps80 ?_
  simp -implicitDefEqProofs
  refine nilK.intro (fun h => ?_) ?_
  · simp -implicitDefEqProofs [h]; exact .inl ⟨rfl, _, by simp, rfl⟩
  · simp -implicitDefEqProofs [hl]
    by_cases h : l = []
    · subst h; exact .inl ⟨rfl, _, by simp, rfl⟩
    · have h' : eB l ≠ [] := by simpa [eB] using h
      exact .inr ⟨h', by rw [appTag_full h']⟩

def LenSt4 (n bd cb : Nat) (t : Nat → AV) (_ : Nat → Option (List AV)) : Prop := ∃ x c : Nat, t 0 = .v (.int .u32 x) ∧ t 2 = .v (.int .i64 c) ∧ c + Lib.bitLen x = Lib.bitLen n ∧ x < bd ∧ c ≤ cb
theorem len32_spec (m : BitVec 32) : ASpec Try.prog 81 [.v (.int .u32 (n32 m))] (· = .v (.int .i64 (wide m : Nat))) := by
  obtain ⟨n, hn⟩ : ∃ n : Nat, n = m.toNat := ⟨_, rfl⟩
  have h : n < 4294967296 := by rw [hn]; exact m.isLt
  have e1 : n32 m = (n : Int) := by rw [hn]; rfl
  have e2 : wide m = Lib.bitLen n := by rw [hn]; rfl
  rw [e1, e2]
  have hn64 : Lib.bitLen n ≤ 32 := Lib.bitLen_le n 32 (by omega) h
  refine ASpec.of_awp Try.func81 (by kernel_rfl) rfl (by rw [Try.results81]) Try.ntmps81 ?_
  simp -implicitDefEqProofs
  refine branch_join (LenSt4 n 65536 16) (fun hb => ?_) (fun hb => ?_) ?_
  · simp at hb
    have hs := Lib.bitLen_shift16 n (by omega) (by omega)
    simp -implicitDefEqProofs [aNum_shr, IntKind.bits]
    exact ⟨n / 65536, 16, by simp [Int.fdiv_eq_ediv_of_nonneg], by simp, by omega, by omega, by omega⟩
  · simp at hb
    simp -implicitDefEqProofs
    exact ⟨n, 0, by simp, by simp, by omega, by omega, by omega⟩
  rintro t hh ⟨x, c, h0, h2, hl, hx, hc⟩
  simp -implicitDefEqProofs [h0]
  refine branch_join (LenSt4 n 256 24) (fun hb => ?_) (fun hb => ?_) ?_
  · simp at hb
    have hs := Lib.bitLen_shift8 x (by omega) (by omega)
    simp -implicitDefEqProofs (disch := omega) [aNum_shr, IntKind.bits, h0, h2, w64]
    exact ⟨x / 256, c + 8, by simp [Int.fdiv_eq_ediv_of_nonneg], by simp, by omega, by omega, by omega⟩
  · simp at hb
    simp -implicitDefEqProofs
    exact ⟨x, c, by simp [h0], by simp [h2], by omega, by omega, by omega⟩
  clear h0 h2 hl hx hc
  rintro t hh ⟨x, c, h0, h2, hl, hx, hc⟩
  have ht := len8_get ⟨x, hx⟩
  simp only at ht
  have hb8 := Lib.bitLen_le8 ⟨x, hx⟩
  simp only at hb8
  have hw : IntKind.u8.wrap (x : Int) = x := wu8 (by omega) (by omega)
  simp -implicitDefEqProofs (disch := omega) [h0, h2, hw]
  rw [show ({data := _} : ByteArray)[x]? = some (UInt8.ofNat (Lib.bitLen x)) from ht]
  have hm : Lib.bitLen x % 256 = Lib.bitLen x := by omega
  simp -implicitDefEqProofs (disch := omega) [w64, hm]
  omega

def vB (b : UInt8) : AV := .v (.int .u8 (b.toNat : Int))
theorem eB_flat (l : List UInt8) : (eB l).flatten.map dead1 = l.map vB := by
  induction l with
  | nil => rfl
  | cons b l ih => simp only [eB, List.map_cons, List.flatten_cons, List.map_append] at *; rw [ih]; rfl
@[simp] theorem eB_flat' (l : List UInt8) : ((eB l).map (List.map dead1)).flatten = l.map vB := by rw [← eB_flat, List.map_flatten]
theorem chunks_bytes (l : List UInt8) (rest : List AV) : chunks (l.map vB ++ rest) (eB l) 1 := by
  refine ⟨eB_one l, ?_, by simp, fun r hr x hx => ?_⟩
  · have h1 : (eB l).length * 1 = (l.map vB).length := by simp
    have h2 : (l.map vB).map dead1 = l.map vB := by rw [List.map_map]; rfl
    rw [h1, List.take_left, h2]
    induction l with
    | nil => rfl
    | cons b l ih => simp only [eB, List.map_cons, List.flatten_cons] at *; rw [ih (by simp) (by rw [List.map_map]; rfl)]; rfl
  · obtain ⟨b, _, rfl⟩ := List.mem_map.1 hr
    simp [encB] at hx
    subst hx; rfl

def BuI (l : List UInt8) (a : Int) (m : BitVec 32) (b cap : Nat) (spare : List Value) (t : Nat → AV) (h : Nat → Option (List AV)) : Prop := ∃ k : Nat, t 0 = .sl .no (eB l) ∧ t 1 = eI a ∧ t 2 = .v (.int .u32 (n32 m)) ∧ t 7 = .sm b 0 l.length cap ∧
  t 30 = eI (wide m : Nat) ∧ t 31 = eI k ∧ k ≤ wide m ∧ h b = some ((burstK l a.toNat m k).map vB ++ spare.map AV.v)

theorem bit_test (m : BitVec 32) (k : Nat) : (n32 ((m >>> k) &&& 1#32) = 1) ↔ m.getLsbD k = true := by
  have h1 : ((m >>> k) &&& 1#32) = if m.getLsbD k then 1#32 else 0#32 := by
    apply BitVec.eq_of_getLsbD_eq
    intro i hi
    rw [BitVec.getLsbD_and, BitVec.getLsbD_ushiftRight]
    cases hm : m.getLsbD k
    · simp only [Bool.false_eq_true, if_false]
      by_cases h0 : i = 0
      · subst h0; simp [hm]
      · simp [BitVec.getLsbD_one, h0]
    · simp only [if_true]
      by_cases h0 : i = 0
      · subst h0; simp [hm]
      · simp [BitVec.getLsbD_one, h0]
  rw [h1]
  cases m.getLsbD k <;> simp [n32]
theorem flip_byte (x : UInt8) (j : Nat) (hj : j < 8) : bitOp .xor .u8 (x.toNat : Int) (IntKind.u8.wrap (1 * 2 ^ j)) = ((x ^^^ UInt8.ofNat (2 ^ j)).toNat : Int) := by
  have h2 : 2 ^ j < 256 := Nat.lt_of_lt_of_le (Nat.pow_lt_pow_right (by omega) hj) (by decide)
  have h1 : (1 : Int) * 2 ^ j = ((2 ^ j : Nat) : Int) := by rw [Int.one_mul]; push_cast; rfl
  rw [h1]
  generalize 2 ^ j = p at h2
  rw [show IntKind.u8.wrap (p : Int) = (p : Int) from wu8 (by omega) (by omega)]
  have h4 : bitOp .xor .u8 (x.toNat : Int) (p : Int) = IntKind.u8.wrap ((BitVec.ofInt 8 (x.toNat : Int) ^^^ BitVec.ofInt 8 (p : Int)).toNat : Int) := rfl
  rw [h4, BitVec.ofInt_natCast, BitVec.ofInt_natCast, BitVec.toNat_xor, BitVec.toNat_ofNat, BitVec.toNat_ofNat, UInt8.toNat_xor]
  have h5 : (UInt8.ofNat p).toNat = p := by simp; omega
  rw [h5, Nat.mod_eq_of_lt (by have := x.toNat_lt; omega), Nat.mod_eq_of_lt (by omega)]
  have h6 : x.toNat ^^^ p < 256 := Nat.xor_lt_two_pow (n := 8) (by have := x.toNat_lt; omega) (by omega)
  exact wu8 (by omega) (by omega)
theorem flip_map (l : List UInt8) (i : Nat) (x : UInt8) (hx : l[i / 8]? = some x) : (flipBit l i).map vB = (l.map vB).set (i / 8) (vB (x ^^^ UInt8.ofNat (2 ^ (i % 8)))) := by
  apply List.ext_getElem?
  intro j
  simp only [flipBit, List.getElem?_map, List.getElem?_modify, List.getElem?_set, List.length_map]
  by_cases hj : i / 8 = j
  · subst hj
    have h2 : l[i / 8]'(lt_of_get hx) = x := by rw [List.getElem?_eq_getElem (lt_of_get hx)] at hx; exact Option.some.inj hx
    simp [lt_of_get hx, h2]
  · simp [hj]

theorem set_over (l : List UInt8) (sp : List Value) (q : Nat) (v : AV) (hq : q < l.length) : some (((l.map vB ++ sp.map AV.v).take q) ++ v :: ((l.map vB ++ sp.map AV.v).drop (q + 1))) = some ((l.map vB).set q v ++ sp.map AV.v) := by
  have h := List.set_eq_take_append_cons_drop (l := l.map vB ++ sp.map AV.v) (i := q) (a := v)
  rw [if_pos (by simp; omega)] at h
  rw [← h, List.set_append_left _ _ (by simpa using hq)]

theorem crc_burst (l : List UInt8) (a : Int) (m : BitVec 32) (hl : l.length ≤ 140737488355328) (ha : a ≤ 9223372036854775807) : ASpec Try.prog 25 [.sl .no (eB l), eI a, .v (.int .u32 (n32 m))] (Own 5 1 (eB (burstF l a m))) := by
  refine ASpec.of_awpS Try.func25 (by kernel_rfl) rfl (by rw [Try.results25]) Try.ntmps25 ?_
  simp -implicitDefEqProofs
  have hw := wide_le m
  have e8 : IntKind.i64.wrap (8 * (l.length : Int)) = 8 * (l.length : Int) := w64 (by omega) (by omega)
  have e9 : IntKind.i64.wrap (8 * (l.length : Int) - (wide m : Int)) = 8 * (l.length : Int) - (wide m : Int) := w64 (by omega) (by omega)
  refine CallK.thaw (clone_bytes_new l hl) rfl ?_
  rintro r (⟨h0, tag, htag, rfl⟩ | ⟨hne, rfl⟩)
  · -- nothing there
    have hl0 : l = [] := by simpa [eB] using h0
    subst hl0
    left
    have hbf : burstF [] a m = [] := List.length_eq_zero_iff.1 (by simp)
    simp -implicitDefEqProofs
    refine CallK.eq (len32_spec m) ?_
    by_cases h1 : a < 0
    · simp -implicitDefEqProofs [h1]
      refine shiftK.skip ?_
      simp -implicitDefEqProofs [hbf]
      exact Own.intro _ htag
    · by_cases h2 : 0 < wide m
      · have h2' : (0 : Int) < (wide m : Int) := by omega
        have h3 : -(wide m : Int) < a := by omega
        have e10 : IntKind.i64.wrap (-(wide m : Int)) = -(wide m : Int) := w64 (by omega) (by omega)
        have e11 : IntKind.i64.wrap 0 = 0 := by decide
        simp -implicitDefEqProofs [h1, h2, h2', h3, e10, e11]
        refine shiftK.skip ?_
        simp -implicitDefEqProofs [hbf]
        exact Own.intro _ htag
      · have h2' : ¬ (0 : Int) < (wide m : Int) := by omega
        have hw0 : wide m = 0 := by omega
        simp -implicitDefEqProofs [h1, h2, h2', hw0]
        refine loopK.intro (fun t _ => t 30 = eI 0 ∧ t 31 = eI 0 ∧ t 7 = .sl tag []) (fun _ => 0) ?_ ?_
        · simp
        rintro t hh ⟨g30, g31, g7⟩
        simp -implicitDefEqProofs [g30, g31, g7]
        refine shiftK.skip ?_
        simp -implicitDefEqProofs [hbf]
        exact Own.intro _ htag
  · right
    refine ⟨_, _, _, _, rfl, hne, .inl rfl, fun b cap spare hb hcap hsp => ?_⟩
    have hspl : spare.length + l.length = cap := by simpa using hsp
    simp -implicitDefEqProofs
    refine CallK.eq (len32_spec m) ?_
    have fin : ∀ (l2 : List UInt8), l2.length = l.length → (l2.map vB ++ spare.map AV.v).length = cap * 1 := fun l2 h2 => by simp [h2]; omega
    by_cases h1 : a < 0
    · have hbf : burstF l a m = l := if_pos (.inl h1)
      simp -implicitDefEqProofs [h1]
      refine shiftK.freeze (b := b) (len := l.length) (cap := cap) 6 5 (eB l) (by simp) (by simp) (chunks_bytes l _) (by simp) (fin l rfl) ?_
      simp -implicitDefEqProofs [hbf]
      exact Own.intro _ (by simp)
    · by_cases h2 : 0 < wide m ∧ 8 * (l.length : Int) - wide m < a
      · have hbf : burstF l a m = l := if_pos (.inr h2)
        have h2' : (0 : Int) < (wide m : Int) := by omega
        simp -implicitDefEqProofs [h1, h2.1, h2', e8]
        intro _
        simp -implicitDefEqProofs [h1, h2.1, h2', e8, e9, h2.2]
        refine shiftK.freeze (b := b) (len := l.length) (cap := cap) 6 5 (eB l) (by simp) (by simp) (chunks_bytes l _) (by simp) (fin l rfl) ?_
        simp -implicitDefEqProofs [hbf]
        exact Own.intro _ (by simp)
      · have hbf : burstF l a m = burstK l a.toNat m (wide m) := if_neg (by omega)
        by_cases h3 : 0 < wide m
        · have h3' : (0 : Int) < (wide m : Int) := by omega
          have h4 : ¬ 8 * (l.length : Int) - wide m < a := fun h => h2 ⟨h3, h⟩
          simp -implicitDefEqProofs [h1, h3, h3', e8]
          intro _
          simp -implicitDefEqProofs [h1, h3, h3', e8, e9, h4]
          refine loopK.intro (BuI l a m b cap spare) (fun t => wide m - natOf (t 31)) ?_ ?_
          · exact ⟨0, by simp, by simp, by simp, by simp, by simp, by simp, by omega, by simp [burstK]⟩
          rintro t hh ⟨k, g0, g1, g2, g7, g30, g31, hk, gb⟩
          simp -implicitDefEqProofs [g30, g31]
          refine branch_dec (fun hlt => ?_) (fun hlt => ?_)
          · have hlt : k < wide m := by omega
            have hk1 : min k 32 = k := by omega
            have hj1 : IntKind.i64.wrap ((k : Int) + 1) = (k : Int) + 1 := w64 (by omega) (by omega)
            have hbk : burstK l a.toNat m (k + 1) = if m.getLsbD k = true then flipBit (burstK l a.toNat m k) (a.toNat + k) else burstK l a.toNat m k := rfl
            simp -implicitDefEqProofs [g2, g31, aNum_shr, IntKind.bits, hk1, bw_shr, bw_and1]
            refine branch_dec (fun hbit => ?_) (fun hbit => ?_)
            · rw [bit_test] at hbit
              rw [if_pos hbit] at hbk
              obtain ⟨i, hi⟩ : ∃ i : Nat, i = a.toNat + k := ⟨_, rfl⟩
              have ea : a + (k : Int) = (i : Int) := by omega
              have ew : IntKind.i64.wrap (i : Int) = (i : Int) := w64 (by omega) (by omega)
              obtain ⟨q, hq⟩ : ∃ q : Nat, q = i / 8 := ⟨_, rfl⟩
              obtain ⟨j, hj⟩ : ∃ j : Nat, j = i % 8 := ⟨_, rfl⟩
              have hi8 : q < l.length := by omega
              obtain ⟨x, hx⟩ : ∃ x, (burstK l a.toNat m k)[q]? = some x := ⟨(burstK l a.toNat m k)[q]'(by simp; omega), by simp [hi8]⟩
              have ew8 : IntKind.i64.wrap ((i : Int) / 8) = (q : Int) := by rw [w64 (by omega) (by omega)]; omega
              have er8 : (i : Int) % 8 = (j : Int) := by omega
              have hm8 : min j 8 = j := by omega
              have hfb := flip_byte x j (by omega)
              rw [Int.one_mul] at hfb
              have hcell : ((burstK l a.toNat m k).map vB ++ spare.map AV.v)[q]? = some (vB x) := by
                rw [List.getElem?_append_left (by simp; exact hi8), List.getElem?_map, hx]; rfl
              simp -implicitDefEqProofs
              refine regionK.intro 14 follows_mixed (by kernel_rfl) ?_
              simp -implicitDefEqProofs [g1, g7, ea, ew, ew8, er8, hi8, gb, hcell, aNum_shl, IntKind.bits, hm8, vB, hfb]
              refine ⟨by omega, ?_⟩
              simp -implicitDefEqProofs [g31, hj1]
              refine ⟨⟨k + 1, by simp [g0], by simp [g1], by simp [g2], by simp [g7], by simp [g30], by simp, by omega, ?_⟩, by omega⟩
              have hfm := flip_map (burstK l a.toNat m k) i x (by rw [← hq]; exact hx)
              rw [hbk, ← hi, hfm, ← hq, ← hj]
              have hlen : q < (burstK l a.toNat m k).length := by simpa using hi8
              simp only [upd_apply, if_true, overlay]
              have := set_over (burstK l a.toNat m k) spare q (vB (x ^^^ UInt8.ofNat (2 ^ j))) hlen
              simpa [vB] using this
            · rw [bit_test] at hbit
              rw [if_neg hbit] at hbk
              simp -implicitDefEqProofs [g31, hj1]
              exact ⟨⟨k + 1, by simp [g0], by simp [g1], by simp [g2], by simp [g7], by simp [g30], by simp, by omega, by simp [gb, hbk]⟩, by omega⟩
          · have hk' : k = wide m := by omega
            subst hk'
            simp -implicitDefEqProofs [g7]
            refine shiftK.freeze (b := b) (len := l.length) (cap := cap) 6 5 (eB (burstK l a.toNat m (wide m))) (by simp) gb (chunks_bytes _ _) (by simp) (fin _ (by simp)) ?_
            simp -implicitDefEqProofs [hbf]
            exact Own.intro _ (by simp)
        · have h3' : wide m = 0 := by omega
          simp -implicitDefEqProofs [h1, h3']
          refine loopK.intro (fun t h => t 30 = eI 0 ∧ t 31 = eI 0 ∧ t 7 = .sm b 0 l.length cap ∧ h b = some (l.map vB ++ spare.map AV.v)) (fun _ => 0) ?_ ?_
          · simp
          rintro t hh ⟨g30, g31, g7, gb⟩
          simp -implicitDefEqProofs [g30, g31, g7]
          refine shiftK.freeze (b := b) (len := l.length) (cap := cap) 6 5 (eB l) (by simp) gb (chunks_bytes l _) (by simp) (fin l rfl) ?_
          simp -implicitDefEqProofs [hbf, h3', burstK]
          exact Own.intro _ (by simp)
end Go.Proofs.Ytbgifnlaaophcaa

/- Words: texts that are compared. No condition. -/
set_option linter.unusedSimpArgs false
set_option linter.unusedVariables false
namespace Go.Proofs.Ytbgifnlaaophcaa
open Go Go.Rw Go.Proofs

theorem str_toList (l : List UInt8) : (⟨l.toArray⟩ : ByteArray).toList = l := by rw [ByteArray.toList_eq]
@[simp] theorem aNum_seql (l m : List UInt8) : aNum .eql (.string ⟨l.toArray⟩) (.string ⟨m.toArray⟩) = some (.bool (decide (l = m))) := by
  have h : (l == m) = decide (l = m) := by
    by_cases hlm : l = m
    · subst hlm; simp
    · simp [hlm]
  have e : Op.stringOp .eql (⟨l.toArray⟩ : ByteArray) ⟨m.toArray⟩ = pure (Value.bool (decide (l = m))) := by
    unfold Op.stringOp
    simp only [str_toList, h]
  simp [aNum, isNum, Go.binOp, e]
@[simp] theorem aNum_sneq (l m : List UInt8) : aNum .neq (.string ⟨l.toArray⟩) (.string ⟨m.toArray⟩) = some (.bool (!decide (l = m))) := by
  have h : (l == m) = decide (l = m) := by
    by_cases hlm : l = m
    · subst hlm; simp
    · simp [hlm]
  have e : Op.stringOp .neq (⟨l.toArray⟩ : ByteArray) ⟨m.toArray⟩ = pure (Value.bool (!decide (l = m))) := by
    unfold Op.stringOp
    simp only [str_toList, h]
  simp [aNum, isNum, Go.binOp, e]
end Go.Proofs.Ytbgifnlaaophcaa
