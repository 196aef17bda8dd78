/- Parts of the proof: what is used by the law. No condition. -/
import Derived.Test.YtjbbfiagijjdoaaGreatProg
import Derived.KernelRfl
import Derived.Lib.Tables
import Derived.Lib.BitFns
import Derived.Test.YtjbbfiagijjdoaaGreatGA
set_option linter.unusedSimpArgs false
set_option linter.unusedVariables false
/- Facts on the types of the program. No condition. -/
namespace Go.Proofs.YtjbbfiagijjdoaaGreat
open Go Go.Rw Go.Proofs

@[simp] theorem vT_2 : vT Tryz.prog 2 = some (1, false) := by kernel_rfl
@[simp] theorem zT_2 : zT Tryz.prog 2 = some [.v (.int .i64 0)] := by kernel_rfl
@[simp] theorem ikT_2 : ikT Tryz.prog 2 = some .i64 := by kernel_rfl
@[simp] theorem uS_2 : (Tryz.prog.underlying 2).isSome = true := by kernel_rfl
@[simp] theorem vT_3 : vT Tryz.prog 3 = some (1, false) := by kernel_rfl
@[simp] theorem zT_3 : zT Tryz.prog 3 = some [.v (.int .i64 0)] := by kernel_rfl
@[simp] theorem ikT_3 : ikT Tryz.prog 3 = some .i64 := by kernel_rfl
@[simp] theorem uS_3 : (Tryz.prog.underlying 3).isSome = true := by kernel_rfl
@[simp] theorem vT_4 : vT Tryz.prog 4 = some (1, false) := by kernel_rfl
@[simp] theorem zT_4 : zT Tryz.prog 4 = some [.v (.bool false)] := by kernel_rfl
@[simp] theorem boolT_4 : boolT Tryz.prog 4 = true := by kernel_rfl
@[simp] theorem vT_5 : vT Tryz.prog 5 = some (1, false) := by kernel_rfl
@[simp] theorem zT_5 : zT Tryz.prog 5 = some [.v (.int .u8 0)] := by kernel_rfl
@[simp] theorem ikT_5 : ikT Tryz.prog 5 = some .u8 := by kernel_rfl
@[simp] theorem uS_5 : (Tryz.prog.underlying 5).isSome = true := by kernel_rfl
@[simp] theorem vT_7 : vT Tryz.prog 7 = some (4, true) := by kernel_rfl
@[simp] theorem zT_7 : zT Tryz.prog 7 = some [.v (.int .i64 0), .v (.int .i64 0), .v (.bool false), .v (.int .u8 0)] := by kernel_rfl
@[simp] theorem sfT_7 : sfT Tryz.prog 7 = some [(0, 1), (1, 1), (2, 1), (3, 1)] := by kernel_rfl
@[simp] theorem fT_7_0 : fT Tryz.prog 7 0 = some 0 := by kernel_rfl
@[simp] theorem fvT_7_0 : fvT Tryz.prog 7 0 = some (0, 1, false) := by kernel_rfl
@[simp] theorem fT_7_1 : fT Tryz.prog 7 1 = some 1 := by kernel_rfl
@[simp] theorem fvT_7_1 : fvT Tryz.prog 7 1 = some (1, 1, false) := by kernel_rfl
@[simp] theorem fT_7_2 : fT Tryz.prog 7 2 = some 2 := by kernel_rfl
@[simp] theorem fvT_7_2 : fvT Tryz.prog 7 2 = some (2, 1, false) := by kernel_rfl
@[simp] theorem fT_7_3 : fT Tryz.prog 7 3 = some 3 := by kernel_rfl
@[simp] theorem fvT_7_3 : fvT Tryz.prog 7 3 = some (3, 1, false) := by kernel_rfl
@[simp] theorem eqsT_7 : eqsT Tryz.prog 7 = some [false, false, true, false] := by kernel_rfl
@[simp] theorem vT_9 : vT Tryz.prog 9 = some (1, false) := by kernel_rfl
@[simp] theorem zT_9 : zT Tryz.prog 9 = some [.v (.string ByteArray.empty)] := by kernel_rfl
@[simp] theorem stringT_9 : stringT Tryz.prog 9 = true := by kernel_rfl
@[simp] theorem vT_12 : vT Tryz.prog 12 = some (1, false) := by kernel_rfl
@[simp] theorem zT_12 : zT Tryz.prog 12 = some [.v (.int .u64 0)] := by kernel_rfl
@[simp] theorem ikT_12 : ikT Tryz.prog 12 = some .u64 := by kernel_rfl
@[simp] theorem uS_12 : (Tryz.prog.underlying 12).isSome = true := by kernel_rfl
@[simp] theorem vT_13 : vT Tryz.prog 13 = some (2, true) := by kernel_rfl
@[simp] theorem zT_13 : zT Tryz.prog 13 = some [.v (.string ByteArray.empty), .v (.int .u64 0)] := by kernel_rfl
@[simp] theorem sfT_13 : sfT Tryz.prog 13 = some [(0, 1), (1, 1)] := by kernel_rfl
@[simp] theorem fT_13_0 : fT Tryz.prog 13 0 = some 0 := by kernel_rfl
@[simp] theorem fvT_13_0 : fvT Tryz.prog 13 0 = some (0, 1, false) := by kernel_rfl
@[simp] theorem fT_13_1 : fT Tryz.prog 13 1 = some 1 := by kernel_rfl
@[simp] theorem fvT_13_1 : fvT Tryz.prog 13 1 = some (1, 1, false) := by kernel_rfl
@[simp] theorem vT_15 : vT Tryz.prog 15 = some (1, false) := by kernel_rfl
@[simp] theorem zT_15 : zT Tryz.prog 15 = some [.v (.pointer none)] := by kernel_rfl
@[simp] theorem ptrT_15 : ptrT Tryz.prog 15 = true := by kernel_rfl
@[simp] theorem vT_16 : vT Tryz.prog 16 = some (1, false) := by kernel_rfl
@[simp] theorem zT_16 : zT Tryz.prog 16 = some [.v (.pointer none)] := by kernel_rfl
@[simp] theorem ptrT_16 : ptrT Tryz.prog 16 = true := by kernel_rfl
@[simp] theorem vT_17 : vT Tryz.prog 17 = some (1, false) := by kernel_rfl
@[simp] theorem zT_17 : zT Tryz.prog 17 = some [.v (.pointer none)] := by kernel_rfl
@[simp] theorem ptrT_17 : ptrT Tryz.prog 17 = true := by kernel_rfl
@[simp] theorem vT_18 : vT Tryz.prog 18 = some (1, true) := by kernel_rfl
@[simp] theorem zT_18 : zT Tryz.prog 18 = some [.v (.pointer none)] := by kernel_rfl
@[simp] theorem sfT_18 : sfT Tryz.prog 18 = some [(0, 1)] := by kernel_rfl
@[simp] theorem fT_18_0 : fT Tryz.prog 18 0 = some 0 := by kernel_rfl
@[simp] theorem fvT_18_0 : fvT Tryz.prog 18 0 = some (0, 1, false) := by kernel_rfl
@[simp] theorem vT_21 : vT Tryz.prog 21 = some (1, false) := by kernel_rfl
@[simp] theorem zT_21 : zT Tryz.prog 21 = some [.v (.int .i32 0)] := by kernel_rfl
@[simp] theorem ikT_21 : ikT Tryz.prog 21 = some .i32 := by kernel_rfl
@[simp] theorem uS_21 : (Tryz.prog.underlying 21).isSome = true := by kernel_rfl
@[simp] theorem vT_22 : vT Tryz.prog 22 = some (1, false) := by kernel_rfl
@[simp] theorem zT_22 : zT Tryz.prog 22 = some [.sl .no []] := by kernel_rfl
@[simp] theorem slT_22 : slT Tryz.prog 22 = some (66, 11, 88) := by kernel_rfl
@[simp] theorem vT_23 : vT Tryz.prog 23 = some (2, true) := by kernel_rfl
@[simp] theorem zT_23 : zT Tryz.prog 23 = some [.v (.int .i64 0), .v (.int .i64 0)] := by kernel_rfl
@[simp] theorem sfT_23 : sfT Tryz.prog 23 = some [(0, 1), (1, 1)] := by kernel_rfl
@[simp] theorem fT_23_0 : fT Tryz.prog 23 0 = some 0 := by kernel_rfl
@[simp] theorem fvT_23_0 : fvT Tryz.prog 23 0 = some (0, 1, false) := by kernel_rfl
@[simp] theorem fT_23_1 : fT Tryz.prog 23 1 = some 1 := by kernel_rfl
@[simp] theorem fvT_23_1 : fvT Tryz.prog 23 1 = some (1, 1, false) := by kernel_rfl
@[simp] theorem eqsT_23 : eqsT Tryz.prog 23 = some [false, false] := by kernel_rfl
@[simp] theorem vT_24 : vT Tryz.prog 24 = some (2, true) := by kernel_rfl
@[simp] theorem zT_24 : zT Tryz.prog 24 = some [.v (.int .i64 0), .v (.int .i64 0)] := by kernel_rfl
@[simp] theorem sfT_24 : sfT Tryz.prog 24 = some [(0, 1), (1, 1)] := by kernel_rfl
@[simp] theorem fT_24_0 : fT Tryz.prog 24 0 = some 0 := by kernel_rfl
@[simp] theorem fvT_24_0 : fvT Tryz.prog 24 0 = some (0, 1, false) := by kernel_rfl
@[simp] theorem fT_24_1 : fT Tryz.prog 24 1 = some 1 := by kernel_rfl
@[simp] theorem fvT_24_1 : fvT Tryz.prog 24 1 = some (1, 1, false) := by kernel_rfl
@[simp] theorem eqsT_24 : eqsT Tryz.prog 24 = some [false, false] := by kernel_rfl
@[simp] theorem vT_25 : vT Tryz.prog 25 = some (1, false) := by kernel_rfl
@[simp] theorem zT_25 : zT Tryz.prog 25 = some [.sl .no []] := by kernel_rfl
@[simp] theorem slT_25 : slT Tryz.prog 25 = some (48, 3, 24) := by kernel_rfl
@[simp] theorem vT_26 : vT Tryz.prog 26 = some (1, false) := by kernel_rfl
@[simp] theorem zT_26 : zT Tryz.prog 26 = some [.sl .no []] := by kernel_rfl
@[simp] theorem slT_26 : slT Tryz.prog 26 = some (46, 4, 32) := by kernel_rfl
@[simp] theorem vT_27 : vT Tryz.prog 27 = some (9, true) := by kernel_rfl
@[simp] theorem zT_27 : zT Tryz.prog 27 = some [.v (.int .i64 0), .v (.int .i64 0), .v (.int .i64 0), .v (.int .i64 0), .v (.int .i64 0), .v (.int .i64 0), .v (.int .i64 0), .sl .no [], .sl .no []] := by kernel_rfl
@[simp] theorem sfT_27 : sfT Tryz.prog 27 = some [(0, 1), (1, 1), (2, 1), (3, 1), (4, 1), (5, 2), (7, 1), (8, 1)] := by kernel_rfl
@[simp] theorem fT_27_0 : fT Tryz.prog 27 0 = some 0 := by kernel_rfl
@[simp] theorem fvT_27_0 : fvT Tryz.prog 27 0 = some (0, 1, false) := by kernel_rfl
@[simp] theorem fT_27_1 : fT Tryz.prog 27 1 = some 1 := by kernel_rfl
@[simp] theorem fvT_27_1 : fvT Tryz.prog 27 1 = some (1, 1, false) := by kernel_rfl
@[simp] theorem fT_27_2 : fT Tryz.prog 27 2 = some 2 := by kernel_rfl
@[simp] theorem fvT_27_2 : fvT Tryz.prog 27 2 = some (2, 1, false) := by kernel_rfl
@[simp] theorem fT_27_3 : fT Tryz.prog 27 3 = some 3 := by kernel_rfl
@[simp] theorem fvT_27_3 : fvT Tryz.prog 27 3 = some (3, 1, false) := by kernel_rfl
@[simp] theorem fT_27_4 : fT Tryz.prog 27 4 = some 4 := by kernel_rfl
@[simp] theorem fvT_27_4 : fvT Tryz.prog 27 4 = some (4, 1, false) := by kernel_rfl
@[simp] theorem fT_27_5 : fT Tryz.prog 27 5 = some 5 := by kernel_rfl
@[simp] theorem fvT_27_5 : fvT Tryz.prog 27 5 = some (5, 2, true) := by kernel_rfl
@[simp] theorem fT_27_6 : fT Tryz.prog 27 6 = some 7 := by kernel_rfl
@[simp] theorem fvT_27_6 : fvT Tryz.prog 27 6 = some (7, 1, false) := by kernel_rfl
@[simp] theorem fT_27_7 : fT Tryz.prog 27 7 = some 8 := by kernel_rfl
@[simp] theorem fvT_27_7 : fvT Tryz.prog 27 7 = some (8, 1, false) := by kernel_rfl
@[simp] theorem vT_28 : vT Tryz.prog 28 = some (9, true) := by kernel_rfl
@[simp] theorem zT_28 : zT Tryz.prog 28 = some [.v (.int .i64 0), .v (.int .i64 0), .v (.int .i64 0), .v (.int .i64 0), .v (.int .i64 0), .v (.int .i64 0), .v (.int .i64 0), .sl .no [], .sl .no []] := by kernel_rfl
@[simp] theorem sfT_28 : sfT Tryz.prog 28 = some [(0, 1), (1, 1), (2, 1), (3, 1), (4, 1), (5, 2), (7, 1), (8, 1)] := by kernel_rfl
@[simp] theorem fT_28_0 : fT Tryz.prog 28 0 = some 0 := by kernel_rfl
@[simp] theorem fvT_28_0 : fvT Tryz.prog 28 0 = some (0, 1, false) := by kernel_rfl
@[simp] theorem fT_28_1 : fT Tryz.prog 28 1 = some 1 := by kernel_rfl
@[simp] theorem fvT_28_1 : fvT Tryz.prog 28 1 = some (1, 1, false) := by kernel_rfl
@[simp] theorem fT_28_2 : fT Tryz.prog 28 2 = some 2 := by kernel_rfl
@[simp] theorem fvT_28_2 : fvT Tryz.prog 28 2 = some (2, 1, false) := by kernel_rfl
@[simp] theorem fT_28_3 : fT Tryz.prog 28 3 = some 3 := by kernel_rfl
@[simp] theorem fvT_28_3 : fvT Tryz.prog 28 3 = some (3, 1, false) := by kernel_rfl
@[simp] theorem fT_28_4 : fT Tryz.prog 28 4 = some 4 := by kernel_rfl
@[simp] theorem fvT_28_4 : fvT Tryz.prog 28 4 = some (4, 1, false) := by kernel_rfl
@[simp] theorem fT_28_5 : fT Tryz.prog 28 5 = some 5 := by kernel_rfl
@[simp] theorem fvT_28_5 : fvT Tryz.prog 28 5 = some (5, 2, true) := by kernel_rfl
@[simp] theorem fT_28_6 : fT Tryz.prog 28 6 = some 7 := by kernel_rfl
@[simp] theorem fvT_28_6 : fvT Tryz.prog 28 6 = some (7, 1, false) := by kernel_rfl
@[simp] theorem fT_28_7 : fT Tryz.prog 28 7 = some 8 := by kernel_rfl
@[simp] theorem fvT_28_7 : fvT Tryz.prog 28 7 = some (8, 1, false) := by kernel_rfl
@[simp] theorem vT_31 : vT Tryz.prog 31 = some (1, false) := by kernel_rfl
@[simp] theorem zT_31 : zT Tryz.prog 31 = some [.sl .no []] := by kernel_rfl
@[simp] theorem slT_31 : slT Tryz.prog 31 = some (89, 3, 40) := by kernel_rfl
@[simp] theorem vT_32 : vT Tryz.prog 32 = some (1, false) := by kernel_rfl
@[simp] theorem zT_32 : zT Tryz.prog 32 = some [.sl .no []] := by kernel_rfl
@[simp] theorem slT_32 : slT Tryz.prog 32 = some (91, 3, 40) := by kernel_rfl
@[simp] theorem vT_33 : vT Tryz.prog 33 = some (1, false) := by kernel_rfl
@[simp] theorem zT_33 : zT Tryz.prog 33 = some [.sl .no []] := by kernel_rfl
@[simp] theorem slT_33 : slT Tryz.prog 33 = some (93, 4, 32) := by kernel_rfl
@[simp] theorem vT_34 : vT Tryz.prog 34 = some (7, true) := by kernel_rfl
@[simp] theorem zT_34 : zT Tryz.prog 34 = some [.sl .no [], .sl .no [], .sl .no [], .v (.int .i64 0), .v (.int .i64 0), .v (.int .i64 0), .v (.int .i64 0)] := by kernel_rfl
@[simp] theorem sfT_34 : sfT Tryz.prog 34 = some [(0, 1), (1, 1), (2, 1), (3, 2), (5, 1), (6, 1)] := by kernel_rfl
@[simp] theorem fT_34_0 : fT Tryz.prog 34 0 = some 0 := by kernel_rfl
@[simp] theorem fvT_34_0 : fvT Tryz.prog 34 0 = some (0, 1, false) := by kernel_rfl
@[simp] theorem fT_34_1 : fT Tryz.prog 34 1 = some 1 := by kernel_rfl
@[simp] theorem fvT_34_1 : fvT Tryz.prog 34 1 = some (1, 1, false) := by kernel_rfl
@[simp] theorem fT_34_2 : fT Tryz.prog 34 2 = some 2 := by kernel_rfl
@[simp] theorem fvT_34_2 : fvT Tryz.prog 34 2 = some (2, 1, false) := by kernel_rfl
@[simp] theorem fT_34_3 : fT Tryz.prog 34 3 = some 3 := by kernel_rfl
@[simp] theorem fvT_34_3 : fvT Tryz.prog 34 3 = some (3, 2, true) := by kernel_rfl
@[simp] theorem fT_34_4 : fT Tryz.prog 34 4 = some 5 := by kernel_rfl
@[simp] theorem fvT_34_4 : fvT Tryz.prog 34 4 = some (5, 1, false) := by kernel_rfl
@[simp] theorem fT_34_5 : fT Tryz.prog 34 5 = some 6 := by kernel_rfl
@[simp] theorem fvT_34_5 : fvT Tryz.prog 34 5 = some (6, 1, false) := by kernel_rfl
@[simp] theorem vT_35 : vT Tryz.prog 35 = some (7, true) := by kernel_rfl
@[simp] theorem zT_35 : zT Tryz.prog 35 = some [.sl .no [], .sl .no [], .sl .no [], .v (.int .i64 0), .v (.int .i64 0), .v (.int .i64 0), .v (.int .i64 0)] := by kernel_rfl
@[simp] theorem sfT_35 : sfT Tryz.prog 35 = some [(0, 1), (1, 1), (2, 1), (3, 2), (5, 1), (6, 1)] := by kernel_rfl
@[simp] theorem fT_35_0 : fT Tryz.prog 35 0 = some 0 := by kernel_rfl
@[simp] theorem fvT_35_0 : fvT Tryz.prog 35 0 = some (0, 1, false) := by kernel_rfl
@[simp] theorem fT_35_1 : fT Tryz.prog 35 1 = some 1 := by kernel_rfl
@[simp] theorem fvT_35_1 : fvT Tryz.prog 35 1 = some (1, 1, false) := by kernel_rfl
@[simp] theorem fT_35_2 : fT Tryz.prog 35 2 = some 2 := by kernel_rfl
@[simp] theorem fvT_35_2 : fvT Tryz.prog 35 2 = some (2, 1, false) := by kernel_rfl
@[simp] theorem fT_35_3 : fT Tryz.prog 35 3 = some 3 := by kernel_rfl
@[simp] theorem fvT_35_3 : fvT Tryz.prog 35 3 = some (3, 2, true) := by kernel_rfl
@[simp] theorem fT_35_4 : fT Tryz.prog 35 4 = some 5 := by kernel_rfl
@[simp] theorem fvT_35_4 : fvT Tryz.prog 35 4 = some (5, 1, false) := by kernel_rfl
@[simp] theorem fT_35_5 : fT Tryz.prog 35 5 = some 6 := by kernel_rfl
@[simp] theorem fvT_35_5 : fvT Tryz.prog 35 5 = some (6, 1, false) := by kernel_rfl
@[simp] theorem vT_42 : vT Tryz.prog 42 = some (2, true) := by kernel_rfl
@[simp] theorem zT_42 : zT Tryz.prog 42 = some [.v (.int .i64 0), .v (.int .i64 0)] := by kernel_rfl
@[simp] theorem sfT_42 : sfT Tryz.prog 42 = some [(0, 1), (1, 1)] := by kernel_rfl
@[simp] theorem fT_42_0 : fT Tryz.prog 42 0 = some 0 := by kernel_rfl
@[simp] theorem fvT_42_0 : fvT Tryz.prog 42 0 = some (0, 1, false) := by kernel_rfl
@[simp] theorem fT_42_1 : fT Tryz.prog 42 1 = some 1 := by kernel_rfl
@[simp] theorem fvT_42_1 : fvT Tryz.prog 42 1 = some (1, 1, false) := by kernel_rfl
@[simp] theorem eqsT_42 : eqsT Tryz.prog 42 = some [false, false] := by kernel_rfl
@[simp] theorem vT_43 : vT Tryz.prog 43 = some (2, true) := by kernel_rfl
@[simp] theorem zT_43 : zT Tryz.prog 43 = some [.v (.int .i64 0), .v (.int .i64 0)] := by kernel_rfl
@[simp] theorem sfT_43 : sfT Tryz.prog 43 = some [(0, 1), (1, 1)] := by kernel_rfl
@[simp] theorem fT_43_0 : fT Tryz.prog 43 0 = some 0 := by kernel_rfl
@[simp] theorem fvT_43_0 : fvT Tryz.prog 43 0 = some (0, 1, false) := by kernel_rfl
@[simp] theorem fT_43_1 : fT Tryz.prog 43 1 = some 1 := by kernel_rfl
@[simp] theorem fvT_43_1 : fvT Tryz.prog 43 1 = some (1, 1, false) := by kernel_rfl
@[simp] theorem eqsT_43 : eqsT Tryz.prog 43 = some [false, false] := by kernel_rfl
@[simp] theorem vT_44 : vT Tryz.prog 44 = some (1, false) := by kernel_rfl
@[simp] theorem zT_44 : zT Tryz.prog 44 = some [.v (.float .f64 0)] := by kernel_rfl
@[simp] theorem vT_45 : vT Tryz.prog 45 = some (4, true) := by kernel_rfl
@[simp] theorem zT_45 : zT Tryz.prog 45 = some [.v (.int .i64 0), .v (.int .i64 0), .v (.int .i64 0), .v (.float .f64 0)] := by kernel_rfl
@[simp] theorem sfT_45 : sfT Tryz.prog 45 = some [(0, 1), (1, 2), (3, 1)] := by kernel_rfl
@[simp] theorem fT_45_0 : fT Tryz.prog 45 0 = some 0 := by kernel_rfl
@[simp] theorem fvT_45_0 : fvT Tryz.prog 45 0 = some (0, 1, false) := by kernel_rfl
@[simp] theorem fT_45_1 : fT Tryz.prog 45 1 = some 1 := by kernel_rfl
@[simp] theorem fvT_45_1 : fvT Tryz.prog 45 1 = some (1, 2, true) := by kernel_rfl
@[simp] theorem fT_45_2 : fT Tryz.prog 45 2 = some 3 := by kernel_rfl
@[simp] theorem fvT_45_2 : fvT Tryz.prog 45 2 = some (3, 1, false) := by kernel_rfl
@[simp] theorem vT_46 : vT Tryz.prog 46 = some (4, true) := by kernel_rfl
@[simp] theorem zT_46 : zT Tryz.prog 46 = some [.v (.int .i64 0), .v (.int .i64 0), .v (.int .i64 0), .v (.float .f64 0)] := by kernel_rfl
@[simp] theorem sfT_46 : sfT Tryz.prog 46 = some [(0, 1), (1, 2), (3, 1)] := by kernel_rfl
@[simp] theorem fT_46_0 : fT Tryz.prog 46 0 = some 0 := by kernel_rfl
@[simp] theorem fvT_46_0 : fvT Tryz.prog 46 0 = some (0, 1, false) := by kernel_rfl
@[simp] theorem fT_46_1 : fT Tryz.prog 46 1 = some 1 := by kernel_rfl
@[simp] theorem fvT_46_1 : fvT Tryz.prog 46 1 = some (1, 2, true) := by kernel_rfl
@[simp] theorem fT_46_2 : fT Tryz.prog 46 2 = some 3 := by kernel_rfl
@[simp] theorem fvT_46_2 : fvT Tryz.prog 46 2 = some (3, 1, false) := by kernel_rfl
@[simp] theorem vT_47 : vT Tryz.prog 47 = some (3, true) := by kernel_rfl
@[simp] theorem zT_47 : zT Tryz.prog 47 = some [.v (.int .i64 0), .v (.int .i64 0), .v (.int .i64 0)] := by kernel_rfl
@[simp] theorem sfT_47 : sfT Tryz.prog 47 = some [(0, 1), (1, 2)] := by kernel_rfl
@[simp] theorem fT_47_0 : fT Tryz.prog 47 0 = some 0 := by kernel_rfl
@[simp] theorem fvT_47_0 : fvT Tryz.prog 47 0 = some (0, 1, false) := by kernel_rfl
@[simp] theorem fT_47_1 : fT Tryz.prog 47 1 = some 1 := by kernel_rfl
@[simp] theorem fvT_47_1 : fvT Tryz.prog 47 1 = some (1, 2, true) := by kernel_rfl
@[simp] theorem eqsT_47 : eqsT Tryz.prog 47 = some [false, false, false] := by kernel_rfl
@[simp] theorem vT_48 : vT Tryz.prog 48 = some (3, true) := by kernel_rfl
@[simp] theorem zT_48 : zT Tryz.prog 48 = some [.v (.int .i64 0), .v (.int .i64 0), .v (.int .i64 0)] := by kernel_rfl
@[simp] theorem sfT_48 : sfT Tryz.prog 48 = some [(0, 1), (1, 2)] := by kernel_rfl
@[simp] theorem fT_48_0 : fT Tryz.prog 48 0 = some 0 := by kernel_rfl
@[simp] theorem fvT_48_0 : fvT Tryz.prog 48 0 = some (0, 1, false) := by kernel_rfl
@[simp] theorem fT_48_1 : fT Tryz.prog 48 1 = some 1 := by kernel_rfl
@[simp] theorem fvT_48_1 : fvT Tryz.prog 48 1 = some (1, 2, true) := by kernel_rfl
@[simp] theorem eqsT_48 : eqsT Tryz.prog 48 = some [false, false, false] := by kernel_rfl
@[simp] theorem vT_56 : vT Tryz.prog 56 = some (1, false) := by kernel_rfl
@[simp] theorem zT_56 : zT Tryz.prog 56 = some [.sl .no []] := by kernel_rfl
@[simp] theorem slT_56 : slT Tryz.prog 56 = some (24, 2, 16) := by kernel_rfl
@[simp] theorem vT_65 : vT Tryz.prog 65 = some (11, true) := by kernel_rfl
@[simp] theorem zT_65 : zT Tryz.prog 65 = some [.v (.int .i64 0), .v (.int .i64 0), .v (.int .i64 0), .v (.int .i64 0), .v (.int .i64 0), .v (.int .i64 0), .v (.int .i64 0), .v (.int .i64 0), .v (.int .i64 0), .v (.float .f64 0), .v (.int .i64 0)] := by kernel_rfl
@[simp] theorem sfT_65 : sfT Tryz.prog 65 = some [(0, 1), (1, 2), (3, 3), (6, 4), (10, 1)] := by kernel_rfl
@[simp] theorem fT_65_0 : fT Tryz.prog 65 0 = some 0 := by kernel_rfl
@[simp] theorem fvT_65_0 : fvT Tryz.prog 65 0 = some (0, 1, false) := by kernel_rfl
@[simp] theorem fT_65_1 : fT Tryz.prog 65 1 = some 1 := by kernel_rfl
@[simp] theorem fvT_65_1 : fvT Tryz.prog 65 1 = some (1, 2, true) := by kernel_rfl
@[simp] theorem fT_65_2 : fT Tryz.prog 65 2 = some 3 := by kernel_rfl
@[simp] theorem fvT_65_2 : fvT Tryz.prog 65 2 = some (3, 3, true) := by kernel_rfl
@[simp] theorem fT_65_3 : fT Tryz.prog 65 3 = some 6 := by kernel_rfl
@[simp] theorem fvT_65_3 : fvT Tryz.prog 65 3 = some (6, 4, true) := by kernel_rfl
@[simp] theorem fT_65_4 : fT Tryz.prog 65 4 = some 10 := by kernel_rfl
@[simp] theorem fvT_65_4 : fvT Tryz.prog 65 4 = some (10, 1, false) := by kernel_rfl
@[simp] theorem vT_66 : vT Tryz.prog 66 = some (11, true) := by kernel_rfl
@[simp] theorem zT_66 : zT Tryz.prog 66 = some [.v (.int .i64 0), .v (.int .i64 0), .v (.int .i64 0), .v (.int .i64 0), .v (.int .i64 0), .v (.int .i64 0), .v (.int .i64 0), .v (.int .i64 0), .v (.int .i64 0), .v (.float .f64 0), .v (.int .i64 0)] := by kernel_rfl
@[simp] theorem sfT_66 : sfT Tryz.prog 66 = some [(0, 1), (1, 2), (3, 3), (6, 4), (10, 1)] := by kernel_rfl
@[simp] theorem fT_66_0 : fT Tryz.prog 66 0 = some 0 := by kernel_rfl
@[simp] theorem fvT_66_0 : fvT Tryz.prog 66 0 = some (0, 1, false) := by kernel_rfl
@[simp] theorem fT_66_1 : fT Tryz.prog 66 1 = some 1 := by kernel_rfl
@[simp] theorem fvT_66_1 : fvT Tryz.prog 66 1 = some (1, 2, true) := by kernel_rfl
@[simp] theorem fT_66_2 : fT Tryz.prog 66 2 = some 3 := by kernel_rfl
@[simp] theorem fvT_66_2 : fvT Tryz.prog 66 2 = some (3, 3, true) := by kernel_rfl
@[simp] theorem fT_66_3 : fT Tryz.prog 66 3 = some 6 := by kernel_rfl
@[simp] theorem fvT_66_3 : fvT Tryz.prog 66 3 = some (6, 4, true) := by kernel_rfl
@[simp] theorem fT_66_4 : fT Tryz.prog 66 4 = some 10 := by kernel_rfl
@[simp] theorem fvT_66_4 : fvT Tryz.prog 66 4 = some (10, 1, false) := by kernel_rfl
@[simp] theorem vT_71 : vT Tryz.prog 71 = some (1, false) := by kernel_rfl
@[simp] theorem zT_71 : zT Tryz.prog 71 = some [.sl .no []] := by kernel_rfl
@[simp] theorem slT_71 : slT Tryz.prog 71 = some (22, 1, 24) := by kernel_rfl
@[simp] theorem vT_76 : vT Tryz.prog 76 = some (1, false) := by kernel_rfl
@[simp] theorem zT_76 : zT Tryz.prog 76 = some [.sl .no []] := by kernel_rfl
@[simp] theorem slT_76 : slT Tryz.prog 76 = some (3, 1, 8) := by kernel_rfl
@[simp] theorem vT_85 : vT Tryz.prog 85 = some (22, true) := by kernel_rfl
@[simp] theorem zT_85 : zT Tryz.prog 85 = some [.v (.int .i64 0), .v (.int .i64 0), .v (.int .i64 0), .v (.int .i64 0), .v (.int .i64 0), .v (.int .i64 0), .v (.int .i64 0), .v (.int .i64 0), .v (.int .i64 0), .v (.float .f64 0), .v (.int .i64 0), .v (.int .i64 0), .v (.int .i64 0), .v (.int .i64 0), .v (.int .i64 0), .v (.int .i64 0), .v (.int .i64 0), .v (.int .i64 0), .v (.int .i64 0), .v (.int .i64 0), .v (.float .f64 0), .v (.int .i64 0)] := by kernel_rfl
@[simp] theorem arT_85 : arT Tryz.prog 85 = some (2, 11) := by kernel_rfl
@[simp] theorem sfT_85 : sfT Tryz.prog 85 = none := by kernel_rfl
@[simp] theorem vT_88 : vT Tryz.prog 88 = some (3, true) := by kernel_rfl
@[simp] theorem zT_88 : zT Tryz.prog 88 = some [.v (.int .i64 0), .v (.int .i64 0), .sl .no []] := by kernel_rfl
@[simp] theorem sfT_88 : sfT Tryz.prog 88 = some [(0, 2), (2, 1)] := by kernel_rfl
@[simp] theorem fT_88_0 : fT Tryz.prog 88 0 = some 0 := by kernel_rfl
@[simp] theorem fvT_88_0 : fvT Tryz.prog 88 0 = some (0, 2, true) := by kernel_rfl
@[simp] theorem fT_88_1 : fT Tryz.prog 88 1 = some 2 := by kernel_rfl
@[simp] theorem fvT_88_1 : fvT Tryz.prog 88 1 = some (2, 1, false) := by kernel_rfl
@[simp] theorem vT_89 : vT Tryz.prog 89 = some (3, true) := by kernel_rfl
@[simp] theorem zT_89 : zT Tryz.prog 89 = some [.v (.int .i64 0), .v (.int .i64 0), .sl .no []] := by kernel_rfl
@[simp] theorem sfT_89 : sfT Tryz.prog 89 = some [(0, 2), (2, 1)] := by kernel_rfl
@[simp] theorem fT_89_0 : fT Tryz.prog 89 0 = some 0 := by kernel_rfl
@[simp] theorem fvT_89_0 : fvT Tryz.prog 89 0 = some (0, 2, true) := by kernel_rfl
@[simp] theorem fT_89_1 : fT Tryz.prog 89 1 = some 2 := by kernel_rfl
@[simp] theorem fvT_89_1 : fvT Tryz.prog 89 1 = some (2, 1, false) := by kernel_rfl
@[simp] theorem vT_90 : vT Tryz.prog 90 = some (3, true) := by kernel_rfl
@[simp] theorem zT_90 : zT Tryz.prog 90 = some [.v (.int .i64 0), .v (.int .i64 0), .sl .no []] := by kernel_rfl
@[simp] theorem sfT_90 : sfT Tryz.prog 90 = some [(0, 2), (2, 1)] := by kernel_rfl
@[simp] theorem fT_90_0 : fT Tryz.prog 90 0 = some 0 := by kernel_rfl
@[simp] theorem fvT_90_0 : fvT Tryz.prog 90 0 = some (0, 2, true) := by kernel_rfl
@[simp] theorem fT_90_1 : fT Tryz.prog 90 1 = some 2 := by kernel_rfl
@[simp] theorem fvT_90_1 : fvT Tryz.prog 90 1 = some (2, 1, false) := by kernel_rfl
@[simp] theorem vT_91 : vT Tryz.prog 91 = some (3, true) := by kernel_rfl
@[simp] theorem zT_91 : zT Tryz.prog 91 = some [.v (.int .i64 0), .v (.int .i64 0), .sl .no []] := by kernel_rfl
@[simp] theorem sfT_91 : sfT Tryz.prog 91 = some [(0, 2), (2, 1)] := by kernel_rfl
@[simp] theorem fT_91_0 : fT Tryz.prog 91 0 = some 0 := by kernel_rfl
@[simp] theorem fvT_91_0 : fvT Tryz.prog 91 0 = some (0, 2, true) := by kernel_rfl
@[simp] theorem fT_91_1 : fT Tryz.prog 91 1 = some 2 := by kernel_rfl
@[simp] theorem fvT_91_1 : fvT Tryz.prog 91 1 = some (2, 1, false) := by kernel_rfl
@[simp] theorem vT_92 : vT Tryz.prog 92 = some (4, true) := by kernel_rfl
@[simp] theorem zT_92 : zT Tryz.prog 92 = some [.v (.int .i64 0), .v (.int .i64 0), .v (.int .i64 0), .v (.int .i64 0)] := by kernel_rfl
@[simp] theorem sfT_92 : sfT Tryz.prog 92 = some [(0, 2), (2, 2)] := by kernel_rfl
@[simp] theorem fT_92_0 : fT Tryz.prog 92 0 = some 0 := by kernel_rfl
@[simp] theorem fvT_92_0 : fvT Tryz.prog 92 0 = some (0, 2, true) := by kernel_rfl
@[simp] theorem fT_92_1 : fT Tryz.prog 92 1 = some 2 := by kernel_rfl
@[simp] theorem fvT_92_1 : fvT Tryz.prog 92 1 = some (2, 2, true) := by kernel_rfl
@[simp] theorem eqsT_92 : eqsT Tryz.prog 92 = some [false, false, false, false] := by kernel_rfl
@[simp] theorem vT_93 : vT Tryz.prog 93 = some (4, true) := by kernel_rfl
@[simp] theorem zT_93 : zT Tryz.prog 93 = some [.v (.int .i64 0), .v (.int .i64 0), .v (.int .i64 0), .v (.int .i64 0)] := by kernel_rfl
@[simp] theorem sfT_93 : sfT Tryz.prog 93 = some [(0, 2), (2, 2)] := by kernel_rfl
@[simp] theorem fT_93_0 : fT Tryz.prog 93 0 = some 0 := by kernel_rfl
@[simp] theorem fvT_93_0 : fvT Tryz.prog 93 0 = some (0, 2, true) := by kernel_rfl
@[simp] theorem fT_93_1 : fT Tryz.prog 93 1 = some 2 := by kernel_rfl
@[simp] theorem fvT_93_1 : fvT Tryz.prog 93 1 = some (2, 2, true) := by kernel_rfl
@[simp] theorem eqsT_93 : eqsT Tryz.prog 93 = some [false, false, false, false] := by kernel_rfl
@[simp] theorem vT_104 : vT Tryz.prog 104 = some (1, true) := by kernel_rfl
@[simp] theorem zT_104 : zT Tryz.prog 104 = some [.v .nilFunc] := by kernel_rfl
@[simp] theorem sfT_104 : sfT Tryz.prog 104 = some [(0, 1)] := by kernel_rfl
@[simp] theorem fT_104_0 : fT Tryz.prog 104 0 = some 0 := by kernel_rfl
@[simp] theorem fvT_104_0 : fvT Tryz.prog 104 0 = some (0, 1, false) := by kernel_rfl
@[simp] theorem vT_105 : vT Tryz.prog 105 = some (1, true) := by kernel_rfl
@[simp] theorem zT_105 : zT Tryz.prog 105 = some [.v .nilFunc] := by kernel_rfl
@[simp] theorem sfT_105 : sfT Tryz.prog 105 = some [(0, 1)] := by kernel_rfl
@[simp] theorem fT_105_0 : fT Tryz.prog 105 0 = some 0 := by kernel_rfl
@[simp] theorem fvT_105_0 : fvT Tryz.prog 105 0 = some (0, 1, false) := by kernel_rfl
@[simp] theorem vT_113 : vT Tryz.prog 113 = some (1, true) := by kernel_rfl
@[simp] theorem zT_113 : zT Tryz.prog 113 = some [.v .nilFunc] := by kernel_rfl
@[simp] theorem sfT_113 : sfT Tryz.prog 113 = some [(0, 1)] := by kernel_rfl
@[simp] theorem fT_113_0 : fT Tryz.prog 113 0 = some 0 := by kernel_rfl
@[simp] theorem fvT_113_0 : fvT Tryz.prog 113 0 = some (0, 1, false) := by kernel_rfl
@[simp] theorem vT_114 : vT Tryz.prog 114 = some (1, true) := by kernel_rfl
@[simp] theorem zT_114 : zT Tryz.prog 114 = some [.v .nilFunc] := by kernel_rfl
@[simp] theorem sfT_114 : sfT Tryz.prog 114 = some [(0, 1)] := by kernel_rfl
@[simp] theorem fT_114_0 : fT Tryz.prog 114 0 = some 0 := by kernel_rfl
@[simp] theorem fvT_114_0 : fvT Tryz.prog 114 0 = some (0, 1, false) := by kernel_rfl
@[simp] theorem vT_119 : vT Tryz.prog 119 = some (1, true) := by kernel_rfl
@[simp] theorem zT_119 : zT Tryz.prog 119 = some [.v .nilFunc] := by kernel_rfl
@[simp] theorem sfT_119 : sfT Tryz.prog 119 = some [(0, 1)] := by kernel_rfl
@[simp] theorem fT_119_0 : fT Tryz.prog 119 0 = some 0 := by kernel_rfl
@[simp] theorem fvT_119_0 : fvT Tryz.prog 119 0 = some (0, 1, false) := by kernel_rfl
@[simp] theorem vT_120 : vT Tryz.prog 120 = some (1, true) := by kernel_rfl
@[simp] theorem zT_120 : zT Tryz.prog 120 = some [.v .nilFunc] := by kernel_rfl
@[simp] theorem sfT_120 : sfT Tryz.prog 120 = some [(0, 1)] := by kernel_rfl
@[simp] theorem fT_120_0 : fT Tryz.prog 120 0 = some 0 := by kernel_rfl
@[simp] theorem fvT_120_0 : fvT Tryz.prog 120 0 = some (0, 1, false) := by kernel_rfl
@[simp] theorem vT_134 : vT Tryz.prog 134 = some (3, true) := by kernel_rfl
@[simp] theorem zT_134 : zT Tryz.prog 134 = some [.v (.int .i64 0), .v (.int .i64 0), .v (.int .i64 0)] := by kernel_rfl
@[simp] theorem sfT_134 : sfT Tryz.prog 134 = some [(0, 2), (2, 1)] := by kernel_rfl
@[simp] theorem fT_134_0 : fT Tryz.prog 134 0 = some 0 := by kernel_rfl
@[simp] theorem fvT_134_0 : fvT Tryz.prog 134 0 = some (0, 2, true) := by kernel_rfl
@[simp] theorem fT_134_1 : fT Tryz.prog 134 1 = some 2 := by kernel_rfl
@[simp] theorem fvT_134_1 : fvT Tryz.prog 134 1 = some (2, 1, false) := by kernel_rfl
@[simp] theorem eqsT_134 : eqsT Tryz.prog 134 = some [false, false, false] := by kernel_rfl
@[simp] theorem vT_135 : vT Tryz.prog 135 = some (3, true) := by kernel_rfl
@[simp] theorem zT_135 : zT Tryz.prog 135 = some [.v (.int .i64 0), .v (.int .i64 0), .v (.int .i64 0)] := by kernel_rfl
@[simp] theorem sfT_135 : sfT Tryz.prog 135 = some [(0, 2), (2, 1)] := by kernel_rfl
@[simp] theorem fT_135_0 : fT Tryz.prog 135 0 = some 0 := by kernel_rfl
@[simp] theorem fvT_135_0 : fvT Tryz.prog 135 0 = some (0, 2, true) := by kernel_rfl
@[simp] theorem fT_135_1 : fT Tryz.prog 135 1 = some 2 := by kernel_rfl
@[simp] theorem fvT_135_1 : fvT Tryz.prog 135 1 = some (2, 1, false) := by kernel_rfl
@[simp] theorem eqsT_135 : eqsT Tryz.prog 135 = some [false, false, false] := by kernel_rfl
@[simp] theorem vT_152 : vT Tryz.prog 152 = some (1, false) := by kernel_rfl
@[simp] theorem zT_152 : zT Tryz.prog 152 = some [.v (.int .i64 0)] := by kernel_rfl
@[simp] theorem ikT_152 : ikT Tryz.prog 152 = some .i64 := by kernel_rfl
@[simp] theorem uS_152 : (Tryz.prog.underlying 152).isSome = true := by kernel_rfl
@[simp] theorem vT_165 : vT Tryz.prog 165 = some (1, false) := by kernel_rfl
@[simp] theorem zT_165 : zT Tryz.prog 165 = some [.v (.int .u64 0)] := by kernel_rfl
@[simp] theorem ikT_165 : ikT Tryz.prog 165 = some .u64 := by kernel_rfl
@[simp] theorem uS_165 : (Tryz.prog.underlying 165).isSome = true := by kernel_rfl
@[simp] theorem vT_166 : vT Tryz.prog 166 = some (1, false) := by kernel_rfl
@[simp] theorem zT_166 : zT Tryz.prog 166 = some [.v (.int .u64 0)] := by kernel_rfl
@[simp] theorem ikT_166 : ikT Tryz.prog 166 = some .u64 := by kernel_rfl
@[simp] theorem uS_166 : (Tryz.prog.underlying 166).isSome = true := by kernel_rfl
@[simp] theorem vT_171 : vT Tryz.prog 171 = some (1, false) := by kernel_rfl
@[simp] theorem zT_171 : zT Tryz.prog 171 = some [.sl .no []] := by kernel_rfl
@[simp] theorem slT_171 : slT Tryz.prog 171 = some (43, 2, 16) := by kernel_rfl
@[simp] theorem vT_190 : vT Tryz.prog 190 = some (6, true) := by kernel_rfl
@[simp] theorem zT_190 : zT Tryz.prog 190 = some [.v (.bool false), .v (.bool false), .v (.bool false), .v (.bool false), .v (.bool false), .v (.bool false)] := by kernel_rfl
@[simp] theorem arT_190 : arT Tryz.prog 190 = some (6, 1) := by kernel_rfl
@[simp] theorem sfT_190 : sfT Tryz.prog 190 = none := by kernel_rfl
@[simp] theorem vT_195 : vT Tryz.prog 195 = some (1, false) := by kernel_rfl
@[simp] theorem zT_195 : zT Tryz.prog 195 = some [.v (.int .i64 0)] := by kernel_rfl
@[simp] theorem ikT_195 : ikT Tryz.prog 195 = some .i64 := by kernel_rfl
@[simp] theorem uS_195 : (Tryz.prog.underlying 195).isSome = true := by kernel_rfl
@[simp] theorem vT_202 : vT Tryz.prog 202 = some (1, false) := by kernel_rfl
@[simp] theorem zT_202 : zT Tryz.prog 202 = some [.v (.int .u32 0)] := by kernel_rfl
@[simp] theorem ikT_202 : ikT Tryz.prog 202 = some .u32 := by kernel_rfl
@[simp] theorem uS_202 : (Tryz.prog.underlying 202).isSome = true := by kernel_rfl
@[simp] theorem vT_209 : vT Tryz.prog 209 = some (1, false) := by kernel_rfl
@[simp] theorem zT_209 : zT Tryz.prog 209 = some [.sl .no []] := by kernel_rfl
@[simp] theorem slT_209 : slT Tryz.prog 209 = some (25, 1, 24) := by kernel_rfl
@[simp] theorem vT_217 : vT Tryz.prog 217 = some (1, false) := by kernel_rfl
@[simp] theorem zT_217 : zT Tryz.prog 217 = some [.v (.int .u64 0)] := by kernel_rfl
@[simp] theorem ikT_217 : ikT Tryz.prog 217 = some .u64 := by kernel_rfl
@[simp] theorem uS_217 : (Tryz.prog.underlying 217).isSome = true := by kernel_rfl
@[simp] theorem vT_221 : vT Tryz.prog 221 = some (1, false) := by kernel_rfl
@[simp] theorem zT_221 : zT Tryz.prog 221 = some [.v (.pointer none)] := by kernel_rfl
@[simp] theorem ptrT_221 : ptrT Tryz.prog 221 = true := by kernel_rfl
@[simp] theorem vT_230 : vT Tryz.prog 230 = some (1, false) := by kernel_rfl
@[simp] theorem zT_230 : zT Tryz.prog 230 = some [.v (.pointer none)] := by kernel_rfl
@[simp] theorem ptrT_230 : ptrT Tryz.prog 230 = true := by kernel_rfl
@[simp] theorem vT_240 : vT Tryz.prog 240 = some (4, true) := by kernel_rfl
@[simp] theorem zT_240 : zT Tryz.prog 240 = some [.v (.pointer none), .v (.pointer none), .v (.pointer none), .v (.string ByteArray.empty)] := by kernel_rfl
@[simp] theorem sfT_240 : sfT Tryz.prog 240 = some [(0, 1), (1, 1), (2, 1), (3, 1)] := by kernel_rfl
@[simp] theorem fT_240_0 : fT Tryz.prog 240 0 = some 0 := by kernel_rfl
@[simp] theorem fvT_240_0 : fvT Tryz.prog 240 0 = some (0, 1, false) := by kernel_rfl
@[simp] theorem fT_240_1 : fT Tryz.prog 240 1 = some 1 := by kernel_rfl
@[simp] theorem fvT_240_1 : fvT Tryz.prog 240 1 = some (1, 1, false) := by kernel_rfl
@[simp] theorem fT_240_2 : fT Tryz.prog 240 2 = some 2 := by kernel_rfl
@[simp] theorem fvT_240_2 : fvT Tryz.prog 240 2 = some (2, 1, false) := by kernel_rfl
@[simp] theorem fT_240_3 : fT Tryz.prog 240 3 = some 3 := by kernel_rfl
@[simp] theorem fvT_240_3 : fvT Tryz.prog 240 3 = some (3, 1, false) := by kernel_rfl
@[simp] theorem vT_242 : vT Tryz.prog 242 = some (0, true) := by kernel_rfl
@[simp] theorem zT_242 : zT Tryz.prog 242 = some [] := by kernel_rfl
@[simp] theorem arT_242 : arT Tryz.prog 242 = some (0, 1) := by kernel_rfl
@[simp] theorem sfT_242 : sfT Tryz.prog 242 = none := by kernel_rfl
@[simp] theorem vT_243 : vT Tryz.prog 243 = some (0, true) := by kernel_rfl
@[simp] theorem zT_243 : zT Tryz.prog 243 = some [] := by kernel_rfl
@[simp] theorem sfT_243 : sfT Tryz.prog 243 = some [(0, 0)] := by kernel_rfl
@[simp] theorem vT_249 : vT Tryz.prog 249 = some (1, false) := by kernel_rfl
@[simp] theorem zT_249 : zT Tryz.prog 249 = some [.v (.pointer none)] := by kernel_rfl
@[simp] theorem ptrT_249 : ptrT Tryz.prog 249 = true := by kernel_rfl
@[simp] theorem vT_252 : vT Tryz.prog 252 = some (11, true) := by kernel_rfl
@[simp] theorem zT_252 : zT Tryz.prog 252 = some [.v (.int .u64 0), .v (.int .u64 0), .v (.int .u32 0), .v (.int .u8 0), .v (.int .u8 0), .v (.int .u8 0), .v (.int .u8 0), .v .nilFunc, .v (.pointer none), .v (.int .i32 0), .v (.int .i32 0)] := by kernel_rfl
@[simp] theorem sfT_252 : sfT Tryz.prog 252 = some [(0, 1), (1, 1), (2, 1), (3, 1), (4, 1), (5, 1), (6, 1), (7, 1), (8, 1), (9, 1), (10, 1)] := by kernel_rfl
@[simp] theorem fT_252_0 : fT Tryz.prog 252 0 = some 0 := by kernel_rfl
@[simp] theorem fvT_252_0 : fvT Tryz.prog 252 0 = some (0, 1, false) := by kernel_rfl
@[simp] theorem fT_252_1 : fT Tryz.prog 252 1 = some 1 := by kernel_rfl
@[simp] theorem fvT_252_1 : fvT Tryz.prog 252 1 = some (1, 1, false) := by kernel_rfl
@[simp] theorem fT_252_2 : fT Tryz.prog 252 2 = some 2 := by kernel_rfl
@[simp] theorem fvT_252_2 : fvT Tryz.prog 252 2 = some (2, 1, false) := by kernel_rfl
@[simp] theorem fT_252_3 : fT Tryz.prog 252 3 = some 3 := by kernel_rfl
@[simp] theorem fvT_252_3 : fvT Tryz.prog 252 3 = some (3, 1, false) := by kernel_rfl
@[simp] theorem fT_252_4 : fT Tryz.prog 252 4 = some 4 := by kernel_rfl
@[simp] theorem fvT_252_4 : fvT Tryz.prog 252 4 = some (4, 1, false) := by kernel_rfl
@[simp] theorem fT_252_5 : fT Tryz.prog 252 5 = some 5 := by kernel_rfl
@[simp] theorem fvT_252_5 : fvT Tryz.prog 252 5 = some (5, 1, false) := by kernel_rfl
@[simp] theorem fT_252_6 : fT Tryz.prog 252 6 = some 6 := by kernel_rfl
@[simp] theorem fvT_252_6 : fvT Tryz.prog 252 6 = some (6, 1, false) := by kernel_rfl
@[simp] theorem fT_252_7 : fT Tryz.prog 252 7 = some 7 := by kernel_rfl
@[simp] theorem fvT_252_7 : fvT Tryz.prog 252 7 = some (7, 1, false) := by kernel_rfl
@[simp] theorem fT_252_8 : fT Tryz.prog 252 8 = some 8 := by kernel_rfl
@[simp] theorem fvT_252_8 : fvT Tryz.prog 252 8 = some (8, 1, false) := by kernel_rfl
@[simp] theorem fT_252_9 : fT Tryz.prog 252 9 = some 9 := by kernel_rfl
@[simp] theorem fvT_252_9 : fvT Tryz.prog 252 9 = some (9, 1, false) := by kernel_rfl
@[simp] theorem fT_252_10 : fT Tryz.prog 252 10 = some 10 := by kernel_rfl
@[simp] theorem fvT_252_10 : fvT Tryz.prog 252 10 = some (10, 1, false) := by kernel_rfl
@[simp] theorem follows_mixed : Tryz.prog.follows .mixedOrders = true := by kernel_rfl
end Go.Proofs.YtjbbfiagijjdoaaGreat

/- Words: how plain data lie in Go. No condition. -/
set_option linter.unusedSimpArgs false
set_option linter.unusedVariables false
namespace Go.Proofs.YtjbbfiagijjdoaaGreat
open Go Go.Rw Go.Proofs

/-- a slice that the caller may append to -/
def Own (e sz : Nat) (rows : List (List AV)) (r : AV) : Prop := ∃ tag, appOK tag e sz ∧ r = .sl tag rows

theorem Own.intro {e sz : Nat} {rows : List (List AV)} (tag : Tag) (h : appOK tag e sz) : Own e sz rows (.sl tag rows) := ⟨tag, h, rfl⟩

def encB (b : UInt8) : List AV := [.v (.int .u8 (b.toNat : Int))]
def eB (l : List UInt8) : List (List AV) := l.map encB

@[simp] theorem eB_length (l : List UInt8) : (eB l).length = l.length := by simp [eB]
@[simp] theorem eB_nil : eB [] = [] := rfl
@[simp] theorem eB_append (l m : List UInt8) : eB l ++ eB m = eB (l ++ m) := by simp [eB]
@[simp] theorem eB_get (l : List UInt8) (i : Nat) : (eB l)[i]? = (l[i]?).map encB := by simp [eB]
@[simp] theorem eB_getE (l : List UInt8) (i : Nat) (h : i < (eB l).length) : (eB l)[i] = encB (l[i]'(by simpa using h)) := by simp [eB]
@[simp] theorem eB_drop (l : List UInt8) (i : Nat) : (eB l).drop i = eB (l.drop i) := by simp [eB]
@[simp] theorem eB_take (l : List UInt8) (i : Nat) : (eB l).take i = eB (l.take i) := by simp [eB]
@[simp] theorem eB_tail (l : List UInt8) : (eB l).tail = eB l.tail := by cases l <;> rfl
@[simp] theorem encB_length (b : UInt8) : (encB b).length = 1 := rfl
theorem eB_one (l : List UInt8) : ∀ r ∈ eB l, r.length = 1 := by
  intro r hr
  obtain ⟨b, _, rfl⟩ := List.mem_map.1 hr
  rfl
@[simp] theorem eB_rows (l : List UInt8) : (∀ r : List AV, r ∈ eB l → r.length = 1) ↔ True := iff_of_true (eB_one l) trivial
@[simp] theorem rowsBytes_eB (l : List UInt8) : rowsBytes (eB l) = some l := by
  induction l with
  | nil => rfl
  | cons b l ih =>
    simp only [eB, List.map_cons, rowsBytes, rowByte, encB] at *
    simp [ih]

def encU (n : Nat) : List AV := [.v (.int .u64 (n : Int))]
def eU (l : List Nat) : List (List AV) := l.map encU
@[simp] theorem eU_length (l : List Nat) : (eU l).length = l.length := by simp [eU]
@[simp] theorem eU_nil : eU [] = [] := rfl
@[simp] theorem eU_append (l m : List Nat) : eU l ++ eU m = eU (l ++ m) := by simp [eU]
@[simp] theorem eU_get (l : List Nat) (i : Nat) : (eU l)[i]? = (l[i]?).map encU := by simp [eU]
@[simp] theorem eU_getE (l : List Nat) (i : Nat) (h : i < (eU l).length) : (eU l)[i] = encU (l[i]'(by simpa using h)) := by simp [eU]
theorem eU_one (l : List Nat) : ∀ r ∈ eU l, r.length = 1 := by
  intro r hr
  obtain ⟨b, _, rfl⟩ := List.mem_map.1 hr
  rfl

@[simp] theorem eU_rows (l : List Nat) : (∀ r : List AV, r ∈ eU l → r.length = 1) ↔ True := iff_of_true (eU_one l) trivial

end Go.Proofs.YtjbbfiagijjdoaaGreat

/- Contracts: bytes. No condition. -/
set_option linter.unusedSimpArgs false
set_option linter.unusedVariables false
set_option maxRecDepth 10000
namespace Go.Proofs.YtjbbfiagijjdoaaGreat
open Go Go.Rw Go.Proofs
-- a goal is never to be run by the elaborator
attribute [local irreducible] awp aops aop aopsE aeff

theorem len8_get : ∀ x : Fin 256, Lib.len8tab[x.val]? = some (UInt8.ofNat (Lib.bitLen x.val)) := by decide +kernel

def LenSt (n bd cb : Nat) (t : Nat → AV) (_ : Nat → Option (List AV)) : Prop := ∃ x c : Nat, t 0 = .v (.int .u64 x) ∧ t 2 = .v (.int .i64 c) ∧ c + Lib.bitLen x = Lib.bitLen n ∧ x < bd ∧ c ≤ cb

theorem len64_spec (n : Nat) (h : n < 18446744073709551616) : ASpec Tryz.prog 186 [.v (.int .u64 n)] (· = .v (.int .i64 (Lib.bitLen n : Nat))) := by
  have hn64 : Lib.bitLen n ≤ 64 := Lib.bitLen_le n 64 (by omega) h
  refine ASpec.of_awp Tryz.func186 (by kernel_rfl) rfl (by rw [Tryz.results186]) Tryz.ntmps186 ?_
  simp -implicitDefEqProofs
  refine branch_join (LenSt n 4294967296 32) (fun hb => ?_) (fun hb => ?_) ?_
  · simp at hb
    have hs := Lib.bitLen_shift32 n (by omega) (by omega)
    simp -implicitDefEqProofs [aNum_shr, IntKind.bits]
    exact ⟨n / 4294967296, 32, by simp [Int.fdiv_eq_ediv_of_nonneg], by simp, by omega, by omega, by omega⟩
  · simp at hb
    simp -implicitDefEqProofs
    exact ⟨n, 0, by simp, by simp, by omega, by omega, by omega⟩
  rintro t hh ⟨x, c, h0, h2, hl, hx, hc⟩
  simp -implicitDefEqProofs [h0]
  refine branch_join (LenSt n 65536 48) (fun hb => ?_) (fun hb => ?_) ?_
  · simp at hb
    have hs := Lib.bitLen_shift16 x (by omega) (by omega)
    simp -implicitDefEqProofs (disch := omega) [aNum_shr, IntKind.bits, h0, h2, w64]
    exact ⟨x / 65536, c + 16, by simp [Int.fdiv_eq_ediv_of_nonneg], by simp, by omega, by omega, by omega⟩
  · simp at hb
    simp -implicitDefEqProofs
    exact ⟨x, c, by simp [h0], by simp [h2], by omega, by omega, by omega⟩
  clear h0 h2 hl hx hc
  rintro t hh ⟨x, c, h0, h2, hl, hx, hc⟩
  simp -implicitDefEqProofs [h0]
  refine branch_join (LenSt n 256 56) (fun hb => ?_) (fun hb => ?_) ?_
  · simp at hb
    have hs := Lib.bitLen_shift8 x (by omega) (by omega)
    simp -implicitDefEqProofs (disch := omega) [aNum_shr, IntKind.bits, h0, h2, w64]
    exact ⟨x / 256, c + 8, by simp [Int.fdiv_eq_ediv_of_nonneg], by simp, by omega, by omega, by omega⟩
  · simp at hb
    simp -implicitDefEqProofs
    exact ⟨x, c, by simp [h0], by simp [h2], by omega, by omega, by omega⟩
  clear h0 h2 hl hx hc
  rintro t hh ⟨x, c, h0, h2, hl, hx, hc⟩
  have ht := len8_get ⟨x, hx⟩
  simp only at ht
  have hb8 := Lib.bitLen_le8 ⟨x, hx⟩
  simp only at hb8
  have hw : IntKind.u8.wrap (x : Int) = x := wu8 (by omega) (by omega)
  simp -implicitDefEqProofs (disch := omega) [h0, h2, hw]
  rw [show ({data := _} : ByteArray)[x]? = some (UInt8.ofNat (Lib.bitLen x)) from ht]
  have hm : Lib.bitLen x % 256 = Lib.bitLen x := by omega
  simp -implicitDefEqProofs (disch := omega) [w64, hm]
  omega
end Go.Proofs.YtjbbfiagijjdoaaGreat

/- Contracts: numbers as bytes. No condition. -/
set_option linter.unusedSimpArgs false
set_option linter.unusedVariables false
set_option maxRecDepth 10000
namespace Go.Proofs.YtjbbfiagijjdoaaGreat
open Go Go.Rw Go.Proofs

def PutI (b : List UInt8) (ns : List Nat) (t : Nat → AV) (_ : Nat → Option (List AV)) : Prop := ∃ (k : Nat) (out : List UInt8) (tag : Tag), t 11 = .sl .no (eU ns) ∧ t 12 = .v (.int .i64 ns.length) ∧ t 13 = .v (.int .i64 k) ∧
  t 5 = .sl tag (eB out) ∧ appOK tag 5 1 ∧ k ≤ ns.length ∧ out ++ forms (ns.drop k) = b ++ forms ns ∧ out.length ≤ b.length + 9 * k
def PutJ (b : List UInt8) (ns : List Nat) (k n : Nat) (out' : List UInt8) (t : Nat → AV) (_ : Nat → Option (List AV)) : Prop := ∃ (j : Nat) (out : List UInt8) (tag : Tag), t 11 = .sl .no (eU ns) ∧ t 12 = .v (.int .i64 ns.length) ∧ t 13 = .v (.int .i64 k) ∧
  t 5 = .sl tag (eB out) ∧ appOK tag 5 1 ∧ t 7 = .v (.int .u64 n) ∧ t 8 = .v (.int .i64 j) ∧ j ≤ 8 ∧ out ++ dig j n = out'

end Go.Proofs.YtjbbfiagijjdoaaGreat

/- Contracts: sums and frames. No condition. -/
set_option linter.unusedSimpArgs false
set_option linter.unusedVariables false
set_option maxRecDepth 10000
namespace Go.Proofs.YtjbbfiagijjdoaaGreat
open Go Go.Rw Go.Proofs

/-- slices of bytes, side by side -/
def eBB (l : List (List UInt8)) : List (List AV) := l.map fun p => [.sl .no (eB p)]
@[simp] theorem eBB_length (l : List (List UInt8)) : (eBB l).length = l.length := by simp [eBB]
@[simp] theorem eBB_get (l : List (List UInt8)) (i : Nat) : (eBB l)[i]? = (l[i]?).map fun p => [.sl .no (eB p)] := by simp [eBB]

def OfI (parts : List (List UInt8)) (t : Nat → AV) (_ : Nat → Option (List AV)) : Prop := ∃ (k : Nat) (c : BitVec 32), t 8 = .sl .no (eBB parts) ∧ t 9 = .v (.int .i64 parts.length) ∧ t 10 = .v (.int .i64 k) ∧
  t 3 = .v (.int .u32 (n32 c)) ∧ k ≤ parts.length ∧ crcL c (parts.drop k).flatten = crcL (BitVec.allOnes 32) parts.flatten
def OfJ (parts : List (List UInt8)) (k : Nat) (p : List UInt8) (c' : BitVec 32) (t : Nat → AV) (_ : Nat → Option (List AV)) : Prop := ∃ (j : Nat) (c : BitVec 32), t 8 = .sl .no (eBB parts) ∧ t 9 = .v (.int .i64 parts.length) ∧ t 10 = .v (.int .i64 k) ∧
  t 3 = .v (.int .u32 (n32 c)) ∧ t 14 = .sl .no (eB p) ∧ t 15 = .v (.int .i64 p.length) ∧ t 16 = .v (.int .i64 j) ∧ j ≤ p.length ∧ crcL c (p.drop j) = c'
def OfK (parts : List (List UInt8)) (k : Nat) (p : List UInt8) (j : Nat) (c' : BitVec 32) (t : Nat → AV) (_ : Nat → Option (List AV)) : Prop := ∃ (m : Nat) (c : BitVec 32), t 8 = .sl .no (eBB parts) ∧ t 9 = .v (.int .i64 parts.length) ∧ t 10 = .v (.int .i64 k) ∧
  t 3 = .v (.int .u32 (n32 c)) ∧ t 14 = .sl .no (eB p) ∧ t 15 = .v (.int .i64 p.length) ∧ t 16 = .v (.int .i64 j) ∧ t 24 = .v (.int .i64 m) ∧ m ≤ 8 ∧ crcBits (8 - m) c = c'

def TailI (c : BitVec 32) (t : Nat → AV) (_ : Nat → Option (List AV)) : Prop := ∃ (k : Nat) (tag : Tag), t 0 = .v (.int .u32 (n32 c)) ∧ t 5 = .v (.int .i64 k) ∧ t 3 = .sl tag (eB ((tailF c).take k)) ∧ appOK tag 5 1 ∧ k ≤ 4

end Go.Proofs.YtjbbfiagijjdoaaGreat

/- Contracts: frames are opened. No condition. -/
set_option linter.unusedSimpArgs false
set_option linter.unusedVariables false
set_option maxRecDepth 10000
namespace Go.Proofs.YtjbbfiagijjdoaaGreat
open Go Go.Rw Go.Proofs

def EqI (a b : List UInt8) (t : Nat → AV) (_ : Nat → Option (List AV)) : Prop := ∃ k : Nat, t 0 = .sl .no (eB a) ∧ t 1 = .sl .no (eB b) ∧ t 12 = .v (.int .i64 a.length) ∧ t 13 = .v (.int .i64 k) ∧ k ≤ a.length ∧ a.take k = b.take k

def openA (o : Option (List UInt8)) : AV := match o with
  | some l => .tup [.sl .no (eB l), .v (.int .i64 0)]
  | none => .tup [.sl .no [], .v (.int .i64 31)]
end Go.Proofs.YtjbbfiagijjdoaaGreat

/- Words: how plain data lie in Go. No condition. -/
set_option linter.unusedSimpArgs false
set_option linter.unusedVariables false
namespace Go.Proofs.YtjbbfiagijjdoaaGreat
open Go Go.Rw Go.Proofs

abbrev eI (n : Int) : AV := .v (.int .i64 n)
def eV (v : PView) : List AV := [eI v.add, eI v.del]
def eT (t : PTag) : List AV := [eI t.num, eI t.node]
def eE (x : PEntry) : List AV := [eI x.key, eI x.tag.num, eI x.tag.node, .v (.float .f64 x.value)]
def eC (c : PCell) : List AV := [eI c.node, eI c.change.add, eI c.change.del]
def eCs (l : List PCell) : List (List AV) := l.map eC
def eEs (l : List PEntry) : List (List AV) := l.map eE
def eM (m : PMsg) : List AV := [eI m.kind, eI m.frm, eI m.to, eI m.inc, eI m.seq, eI m.view.add, eI m.view.del, .sl .no (eCs m.cells), .sl .no (eEs m.book)]
@[simp] theorem eCs_length (l : List PCell) : (eCs l).length = l.length := by simp [eCs]
@[simp] theorem eEs_length (l : List PEntry) : (eEs l).length = l.length := by simp [eEs]
@[simp] theorem eCs_get (l : List PCell) (i : Nat) : (eCs l)[i]? = (l[i]?).map eC := by simp [eCs]
@[simp] theorem eEs_get (l : List PEntry) (i : Nat) : (eEs l)[i]? = (l[i]?).map eE := by simp [eEs]
@[simp] theorem eCs_nil : eCs [] = [] := rfl
@[simp] theorem eEs_nil : eEs [] = [] := rfl
@[simp] theorem eCs_append (l m : List PCell) : eCs l ++ eCs m = eCs (l ++ m) := by simp [eCs]
@[simp] theorem eEs_append (l m : List PEntry) : eEs l ++ eEs m = eEs (l ++ m) := by simp [eEs]
theorem eCs_one (l : List PCell) : ∀ r ∈ eCs l, r.length = 3 := by
  intro r hr
  obtain ⟨b, _, rfl⟩ := List.mem_map.1 hr
  rfl
theorem eEs_one (l : List PEntry) : ∀ r ∈ eEs l, r.length = 4 := by
  intro r hr
  obtain ⟨b, _, rfl⟩ := List.mem_map.1 hr
  rfl
@[simp] theorem eCs_rows (l : List PCell) : (∀ r : List AV, r ∈ eCs l → r.length = 3) ↔ True := iff_of_true (eCs_one l) trivial
@[simp] theorem eEs_rows (l : List PEntry) : (∀ r : List AV, r ∈ eEs l → r.length = 4) ↔ True := iff_of_true (eEs_one l) trivial
end Go.Proofs.YtjbbfiagijjdoaaGreat

/- Contracts: what can be. No condition. -/
set_option linter.unusedSimpArgs false
set_option linter.unusedVariables false
set_option maxRecDepth 10000
namespace Go.Proofs.YtjbbfiagijjdoaaGreat
open Go Go.Rw Go.Proofs
-- a goal is never to be run by the elaborator
attribute [local irreducible] awp aops aop aopsE aeff

end Go.Proofs.YtjbbfiagijjdoaaGreat

/- Contracts: numbers are read. No condition. -/
set_option linter.unusedSimpArgs false
set_option linter.unusedVariables false
set_option maxRecDepth 10000
namespace Go.Proofs.YtjbbfiagijjdoaaGreat
open Go Go.Rw Go.Proofs

def getA (o : Option (Nat × List UInt8)) : AV := match o with
  | some (n, l) => .tup [.v (.int .u64 n), .sl .no (eB l), .v (.int .i64 0)]
  | none => .tup [.v (.int .u64 0), .sl .no [], .v (.int .i64 21)]

def GetI (b seg : List UInt8) (k : Nat) (t : Nat → AV) (_ : Nat → Option (List AV)) : Prop := ∃ j : Nat, t 0 = .sl .no (eB b) ∧ t 5 = .v (.int .i64 k) ∧ t 35 = .sl .no (eB seg) ∧ t 36 = .v (.int .i64 seg.length) ∧
  t 37 = .v (.int .i64 j) ∧ t 6 = .v (.int .u64 (valN (seg.take j))) ∧ j ≤ seg.length

end Go.Proofs.YtjbbfiagijjdoaaGreat

/- Contracts: numbers, sets of changes. No condition. -/
set_option linter.unusedSimpArgs false
set_option linter.unusedVariables false
set_option maxRecDepth 10000
namespace Go.Proofs.YtjbbfiagijjdoaaGreat
open Go Go.Rw Go.Proofs
-- a goal is never to be run by the elaborator
attribute [local irreducible] awp aops aop aopsE aeff

abbrev eF (b : Nat) : AV := .v (.float .f64 b)
def bitsF (b : Nat) : Nat := cleanB nanB b
/-- the number of bits: what is no number has one form -/
def ofF (b : Nat) : Nat := cleanB nanB b

theorem reps1 {I : Imm} {x : Value} {ys : List Value} (h : Reps I [.v x] ys) : ys = [x] := by
  obtain ⟨h1, h2⟩ := h
  match ys, h1 with
  | [y], _ =>
    have := h2 0 (.v x) y rfl rfl
    cases this
    rfl

theorem f64bits_spec (b : Nat) : ASpec Tryz.prog 189 [eF b] (· = .v (.int .u64 b)) := by
  refine ASpec.extern Tryz.func189 (by kernel_rfl) (by kernel_rfl) (by kernel_rfl) (e := Extern.MathFloatBits.float64bits) (by kernel_rfl) (fun I w cargs h => ?_) (fun _ _ _ _ => trivial)
  rw [reps1 h]
  exact ⟨_, rfl, fun I' => .v _⟩

theorem num_bits (b : Nat) : ASpec Tryz.prog 199 [eF b] (· = .v (.int .u64 (bitsF b))) := by
  refine ASpec.of_awp Tryz.func199 (by kernel_rfl) rfl (by rw [Tryz.results199]) Tryz.ntmps199 ?_
  simp -implicitDefEqProofs
  refine branch_intro (fun h => ?_) (fun h => ?_)
  · simp -implicitDefEqProofs [bitsF, cleanB, h]
  · simp -implicitDefEqProofs [bitsF, cleanB, h]
    refine CallK.eq (f64bits_spec b) ?_
    simp -implicitDefEqProofs [bitsF, cleanB, h]

theorem num_same (a b : Nat) : ASpec Tryz.prog 164 [eF a, eF b] (· = .v (.bool (decide (bitsF a = bitsF b)))) := by
  refine ASpec.of_awp Tryz.func164 (by kernel_rfl) rfl (by rw [Tryz.results164]) Tryz.ntmps164 ?_
  simp -implicitDefEqProofs
  refine CallK.eq (num_bits a) ?_
  simp -implicitDefEqProofs
  refine CallK.eq (num_bits b) ?_
  simp -implicitDefEqProofs
  try omega

theorem change_name (v : PView) (h : rightV v = true) : ASpec Tryz.prog 141 [.agg (eV v)] (· = eI (nameV v)) := by
  refine ASpec.of_awp Tryz.func141 (by kernel_rfl) rfl (by rw [Tryz.results141]) Tryz.ntmps141 ?_
  simp -implicitDefEqProofs [eV]
  refine allocK.intro (fun b hb => ?_)
  simp [rightV] at h
  have e1 : IntKind.i64.wrap (v.add * 64) = v.add * 64 := w64 (by omega) (by omega)
  have e2 : IntKind.i64.wrap (v.add * 64 + v.del) = v.add * 64 + v.del := w64 (by omega) (by omega)
  simp -implicitDefEqProofs [e1, e2, nameV]

def namedA (n : Int) : AV := if 0 ≤ n ∧ n < 4096 then .tup [.agg (eV ⟨n / 64, n % 64⟩), eI 0] else .tup [.agg (eV ⟨0, 0⟩), eI 41]
end Go.Proofs.YtjbbfiagijjdoaaGreat

/- Contracts: lists of cells and entries that can be. No condition. -/
set_option linter.unusedSimpArgs false
set_option linter.unusedVariables false
set_option maxRecDepth 10000
namespace Go.Proofs.YtjbbfiagijjdoaaGreat
open Go Go.Rw Go.Proofs
-- a goal is never to be run by the elaborator
attribute [local irreducible] awp aops aop aopsE aeff

def CcI (l : List PCell) (t : Nat → AV) (_ : Nat → Option (List AV)) : Prop := ∃ (k : Nat) (last : Int), t 6 = .sl .no (eCs l) ∧ t 7 = eI l.length ∧ t 8 = eI k ∧ t 3 = eI last ∧ k ≤ l.length ∧ checkC last (l.drop k) = checkC (-1) l

def CeI (l : List PEntry) (t : Nat → AV) (_ : Nat → Option (List AV)) : Prop := ∃ (k : Nat) (last : Int), t 6 = .sl .no (eEs l) ∧ t 7 = eI l.length ∧ t 8 = eI k ∧ t 3 = eI last ∧ k ≤ l.length ∧ checkE last (l.drop k) = checkE (-1) l

end Go.Proofs.YtjbbfiagijjdoaaGreat

/- Contracts: lists that are the same. No condition. -/
set_option linter.unusedSimpArgs false
set_option linter.unusedVariables false
set_option maxRecDepth 10000
namespace Go.Proofs.YtjbbfiagijjdoaaGreat
open Go Go.Rw Go.Proofs
-- a goal is never to be run by the elaborator
attribute [local irreducible] awp aops aop aopsE aeff

def EqcI (a b : List PCell) (t : Nat → AV) (_ : Nat → Option (List AV)) : Prop := ∃ k : Nat, t 0 = .sl .no (eCs a) ∧ t 1 = .sl .no (eCs b) ∧ t 12 = .v (.int .i64 a.length) ∧ t 13 = .v (.int .i64 k) ∧ k ≤ a.length ∧ a.take k = b.take k

theorem equal_cells (a b : List PCell) : ASpec Tryz.prog 107 [.sl .no (eCs a), .sl .no (eCs b)] (· = .v (.bool (decide (a = b)))) := by
  refine ASpec.of_awp Tryz.func107 (by kernel_rfl) rfl (by rw [Tryz.results107]) Tryz.ntmps107 ?_
  simp -implicitDefEqProofs
  intro h1 h2
  refine branch_dec (fun hb => ?_) (fun hb => ?_)
  · have hl : a.length = b.length := by omega
    simp -implicitDefEqProofs
    intro _
    refine loopK.intro (EqcI a b) (fun t => a.length - natOf (t 13)) ?_ ?_
    · exact ⟨0, by simp, by simp, by simp, by simp, by omega, by simp⟩
    rintro t hh ⟨k, g0, g1, g12, g13, hk, he⟩
    simp -implicitDefEqProofs [g12, g13]
    refine branch_dec (fun hlt => ?_) (fun hlt => ?_)
    · have hlt : k < a.length := by omega
      have hlt2 : k < b.length := by omega
      obtain ⟨x, hx⟩ : ∃ x, a[k]? = some x := ⟨a[k], by simp [hlt]⟩
      obtain ⟨y, hy⟩ : ∃ y, b[k]? = some y := ⟨b[k], by simp [hlt2]⟩
      have hj1 : IntKind.i64.wrap ((k : Int) + 1) = (k : Int) + 1 := w64 (by omega) (by omega)
      simp -implicitDefEqProofs [g13]
      refine regionK.intro 9 follows_mixed (by kernel_rfl) ?_
      simp -implicitDefEqProofs [g0, g1, g13, hx, hy, eC]
      refine branch_intro (fun hb2 => ?_) (fun hb2 => ?_)
      · have hne : x ≠ y := by rintro rfl; simp at hb2
        simp -implicitDefEqProofs
        rintro rfl
        rw [hx] at hy
        exact hne (Option.some.inj hy)
      · have hxy : x = y := by
          obtain ⟨n1, a1, d1⟩ := x
          obtain ⟨n2, a2, d2⟩ := y
          simp at hb2
          simp [hb2]
        simp -implicitDefEqProofs [g13, hj1]
        refine ⟨⟨k + 1, by simp [g0], by simp [g1], by simp [g12], by simp, by omega, ?_⟩, by omega⟩
        rw [List.take_add_one, List.take_add_one, he, hx, hy, hxy]
    · have hk' : k = a.length := by omega
      subst hk'
      simp -implicitDefEqProofs
      rw [List.take_length, hl, List.take_length] at he
      exact he
  · simp -implicitDefEqProofs
    rintro rfl; simp at hb

/-- the same entry -/
def sameE (x y : PEntry) : Bool := decide (x.key = y.key) && decide (x.tag = y.tag) && decide (bitsF x.value = bitsF y.value)
def sameEs : List PEntry → List PEntry → Bool
  | [], [] => true
  | x :: l, y :: m => sameE x y && sameEs l m
  | _, _ => false

theorem same_entry (x y : PEntry) : ASpec Tryz.prog 163 [.agg (eE x), .agg (eE y)] (· = .v (.bool (sameE x y))) := by
  refine ASpec.of_awp Tryz.func163 (by kernel_rfl) rfl (by rw [Tryz.results163]) Tryz.ntmps163 ?_
  simp -implicitDefEqProofs [eE]
  refine allocK.intro (fun b hb => ?_)
  simp -implicitDefEqProofs
  refine allocK.intro (fun b2 hb2 => ?_)
  have hbb : ¬ b = b2 := by rintro rfl; simp at hb2
  have hbb' : ¬ b2 = b := fun h => hbb h.symm
  simp -implicitDefEqProofs [hbb, hbb']
  refine branch_dec (fun h1 => ?_) (fun h1 => ?_)
  · simp -implicitDefEqProofs [hbb, hbb', h1]
    refine branch_intro (fun h2 => ?_) (fun h2 => ?_)
    · simp -implicitDefEqProofs [hbb, hbb', h2]
      refine CallK.eq (num_same x.value y.value) ?_
      have ht : x.tag = y.tag := by
        obtain ⟨k1, ⟨n1, a1⟩, v1⟩ := x
        obtain ⟨k2, ⟨n2, a2⟩, v2⟩ := y
        simp at h2
        simp [h2]
      simp -implicitDefEqProofs [sameE, h1, ht]
    · have ht : ¬ x.tag = y.tag := by
        rintro ht
        rw [ht] at h2
        simp at h2
      simp -implicitDefEqProofs [hbb, hbb', h2, sameE, ht]
  · simp -implicitDefEqProofs [h1, sameE]

def EqeI (a b : List PEntry) (t : Nat → AV) (_ : Nat → Option (List AV)) : Prop := ∃ k : Nat, t 15 = .sl .no (eEs a) ∧ t 1 = .sl .no (eEs b) ∧ t 2 = .fn 163 [] ∧ t 16 = .v (.int .i64 a.length) ∧ t 17 = .v (.int .i64 k) ∧ k ≤ a.length ∧ sameEs (a.drop k) (b.drop k) = sameEs a b

theorem sameEs_len : ∀ {a b : List PEntry}, a.length ≠ b.length → sameEs a b = false
  | [], [], h => absurd rfl h
  | [], _ :: _, _ => rfl
  | _ :: _, [], _ => rfl
  | x :: a, y :: b, h => by
    have := sameEs_len (a := a) (b := b) (by simp at h; exact h)
    simp [sameEs, this]

theorem equalf_entries (a b : List PEntry) : ASpec Tryz.prog 162 [.sl .no (eEs a), .sl .no (eEs b), .fn 163 []] (· = .v (.bool (sameEs a b))) := by
  refine ASpec.of_awp Tryz.func162 (by kernel_rfl) rfl (by rw [Tryz.results162]) Tryz.ntmps162 ?_
  simp -implicitDefEqProofs
  intro h1 h2
  refine branch_dec (fun hb => ?_) (fun hb => ?_)
  · have hl : a.length = b.length := by omega
    simp -implicitDefEqProofs
    intro _
    refine loopK.intro (EqeI a b) (fun t => a.length - natOf (t 17)) ?_ ?_
    · exact ⟨0, by simp, by simp, by simp, by simp, by simp, by omega, by simp⟩
    rintro t hh ⟨k, g15, g1, g2, g16, g17, hk, he⟩
    simp -implicitDefEqProofs [g16, g17]
    refine branch_dec (fun hlt => ?_) (fun hlt => ?_)
    · have hlt : k < a.length := by omega
      have hlt2 : k < b.length := by omega
      obtain ⟨x, hx⟩ : ∃ x, a[k]? = some x := ⟨a[k], by simp [hlt]⟩
      obtain ⟨y, hy⟩ : ∃ y, b[k]? = some y := ⟨b[k], by simp [hlt2]⟩
      have hdx : a.drop k = x :: a.drop (k + 1) := by
        rw [List.drop_eq_getElem_cons hlt]; rw [List.getElem?_eq_getElem hlt] at hx; rw [Option.some.inj hx]
      have hdy : b.drop k = y :: b.drop (k + 1) := by
        rw [List.drop_eq_getElem_cons hlt2]; rw [List.getElem?_eq_getElem hlt2] at hy; rw [Option.some.inj hy]
      rw [hdx, hdy, sameEs] at he
      have hj1 : IntKind.i64.wrap ((k : Int) + 1) = (k : Int) + 1 := w64 (by omega) (by omega)
      simp -implicitDefEqProofs [g15, g17, hx, eE]
      refine allocK.intro (fun b1 hb1 => ?_)
      simp -implicitDefEqProofs [g1, hy, eE]
      refine allocK.intro (fun b2 hb2 => ?_)
      have hbb : ¬ b1 = b2 := by rintro rfl; simp at hb2
      have hbb' : ¬ b2 = b1 := fun h => hbb h.symm
      simp -implicitDefEqProofs [g2, hbb, hbb']
      refine CallK.with (same_entry x y) (by simp [eE]) ?_
      simp -implicitDefEqProofs
      refine branch_intro (fun h3 => ?_) (fun h3 => ?_)
      · rw [h3, Bool.true_and] at he
        simp -implicitDefEqProofs [g17, hj1]
        exact ⟨⟨k + 1, by simp [g15], by simp [g1], by simp [g2], by simp [g16], by simp, by omega, he⟩, by omega⟩
      · rw [h3, Bool.false_and] at he
        simp -implicitDefEqProofs [← he]
    · have hk' : k = a.length := by omega
      subst hk'
      rw [List.drop_length, hl, List.drop_length, sameEs] at he
      simp -implicitDefEqProofs [← he]
  · have hr : sameEs a b = false := sameEs_len (by omega)
    simp -implicitDefEqProofs [hr]

theorem book_same (a b : List PEntry) : ASpec Tryz.prog 108 [.sl .no (eEs a), .sl .no (eEs b)] (· = .v (.bool (sameEs a b))) := by
  refine ASpec.of_awp Tryz.func108 (by kernel_rfl) rfl (by rw [Tryz.results108]) Tryz.ntmps108 ?_
  simp -implicitDefEqProofs
  refine CallK.eq (equalf_entries a b) ?_
  simp -implicitDefEqProofs
end Go.Proofs.YtjbbfiagijjdoaaGreat

/- Contracts: messages. No condition. -/
set_option linter.unusedSimpArgs false
set_option linter.unusedVariables false
set_option maxRecDepth 10000
namespace Go.Proofs.YtjbbfiagijjdoaaGreat
open Go Go.Rw Go.Proofs
-- a goal is never to be run by the elaborator
attribute [local irreducible] awp aops aop aopsE aeff

/-- the same message -/
def headM (a b : PMsg) : Bool := decide (a.kind = b.kind) && decide (a.frm = b.frm) && decide (a.to = b.to) && decide (a.inc = b.inc) && decide (a.seq = b.seq) && (decide (a.view.add = b.view.add) && decide (a.view.del = b.view.del))
def sameM (a b : PMsg) : Bool := headM a b && decide (a.cells = b.cells) && sameEs a.book b.book

theorem clone_cells (l : List PCell) (hl : l.length * 24 ≤ 140737488355328) : ASpec Tryz.prog 95 [.sl .no (eCs l)] (Own 48 3 (eCs l)) := by
  refine ASpec.of_awp Tryz.func95 (by kernel_rfl) rfl (by rw [Tryz.results95]) Tryz.ntmps95 ?_
  simp -implicitDefEqProofs
  refine nilK.intro (fun h => ?_) ?_
  · simp -implicitDefEqProofs [h]; exact Own.intro _ (by simp)
  · simp -implicitDefEqProofs [hl]; exact Own.intro _ (by simp)
theorem clone_entries (l : List PEntry) (hl : l.length * 32 ≤ 140737488355328) : ASpec Tryz.prog 90 [.sl .no (eEs l)] (Own 46 4 (eEs l)) := by
  refine ASpec.of_awp Tryz.func90 (by kernel_rfl) rfl (by rw [Tryz.results90]) Tryz.ntmps90 ?_
  simp -implicitDefEqProofs
  refine nilK.intro (fun h => ?_) ?_
  · simp -implicitDefEqProofs [h]; exact Own.intro _ (by simp)
  · simp -implicitDefEqProofs [hl]; exact Own.intro _ (by simp)
end Go.Proofs.YtjbbfiagijjdoaaGreat

/- Contracts: frames of messages. No condition. -/
set_option linter.unusedSimpArgs false
set_option linter.unusedVariables false
set_option maxRecDepth 10000
namespace Go.Proofs.YtjbbfiagijjdoaaGreat
open Go Go.Rw Go.Proofs

def eIs (l : List Int) : List (List AV) := l.map fun n => [eI n]
@[simp] theorem eIs_length (l : List Int) : (eIs l).length = l.length := by simp [eIs]
@[simp] theorem eIs_get (l : List Int) (i : Nat) : (eIs l)[i]? = (l[i]?).map fun n => [eI n] := by simp [eIs]

def FcI (b : Nat) (out : List UInt8) (l : List Int) (t : Nat → AV) (h : Nat → Option (List AV)) : Prop := ∃ (k : Nat) (cur : List UInt8) (tag : Tag), t 5 = .sl .no (eIs l) ∧ t 6 = eI l.length ∧ t 7 = eI k ∧ t 1 = .ptr b 0 ∧ h b = some [.sl tag (eB cur)] ∧
  k ≤ l.length ∧ cur ++ forms ((l.drop k).map Int.toNat) = out ++ forms (l.map Int.toNat) ∧ cur.length ≤ out.length + 9 * k

def numsC (l : List PCell) : List Nat := l.flatMap fun c => (numC c).map Int.toNat
def numsE (l : List PEntry) : List Nat := l.flatMap (numE bitsF)
def frameA (o : Option (List UInt8)) : AV := match o with
  | some l => .tup [.sl .no (eB l), eI 0]
  | none => .tup [.sl .no [], eI 111]
def fitM (m : PMsg) : Prop := ∀ x ∈ m.book, x.value < 18446744073709551616
end Go.Proofs.YtjbbfiagijjdoaaGreat

/- Contracts: a reader. No condition. -/
set_option linter.unusedSimpArgs false
set_option linter.unusedVariables false
set_option maxRecDepth 10000
namespace Go.Proofs.YtjbbfiagijjdoaaGreat
open Go Go.Rw Go.Proofs
-- a goal is never to be run by the elaborator
attribute [local irreducible] awp aops aop aopsE aeff

def eR (r : Rd) : List AV := [.sl .no (eB r.1), .v (.bool r.2)]

def kindN (q : Int) : Int := if q = 0 then 5 else if q = 2 then 6 else 7
/-- does one message answer another? -/
def answersM (q a : PMsg) : Bool := decide (0 ≤ q.kind) && decide (q.kind ≤ 4) && decide (a.kind = kindN q.kind) && decide (a.frm = q.to) && decide (a.to = q.frm) && decide (a.inc = q.inc) && decide (a.seq = q.seq) && decide (a.view.add = q.view.add) && decide (a.view.del = q.view.del)

end Go.Proofs.YtjbbfiagijjdoaaGreat

/- Contracts: messages are read. No condition. -/
set_option linter.unusedSimpArgs false
set_option linter.unusedVariables false
set_option maxRecDepth 10000
namespace Go.Proofs.YtjbbfiagijjdoaaGreat
open Go Go.Rw Go.Proofs

/-- a message in memory whose slices may be appended to -/
def eMt (t1 t2 : Tag) (m : PMsg) : List AV := [eI m.kind, eI m.frm, eI m.to, eI m.inc, eI m.seq, eI m.view.add, eI m.view.del, .sl t1 (eCs m.cells), .sl t2 (eEs m.book)]
def readA (o : Option PMsg) : AV := match o with
  | some m => .tup [.agg (eM m), eI 0]
  | none => .tup [.agg (eM ⟨0, 0, 0, 0, 0, ⟨0, 0⟩, [], []⟩), eI 111]

def ptrs (bm : Nat) : List (List AV) := [[.ptr bm 0], [.ptr bm 1], [.ptr bm 2], [.ptr bm 3], [.ptr bm 4]]
def RdA (r0 : Rd) (bz br bm : Nat) (t : Nat → AV) (h : Nat → Option (List AV)) : Prop := ∃ k : Nat, t 2 = .ptr bz 0 ∧ t 6 = .ptr br 0 ∧ t 7 = .ptr bm 0 ∧ t 29 = .sl .full (ptrs bm) ∧ t 30 = eI 5 ∧ t 31 = eI k ∧ k ≤ 5 ∧
  h bz = some (eMt .nil .nil ⟨0, 0, 0, 0, 0, ⟨0, 0⟩, [], []⟩) ∧ h br = some (eR (rdSt r0 k)) ∧ h bm = some (eMt .nil .nil (msgAt r0 k ⟨0, 0⟩ [] []))
def RdB (r0 : Rd) (bz br bm : Nat) (t : Nat → AV) (h : Nat → Option (List AV)) : Prop := ∃ (k : Nat) (tag : Tag), t 2 = .ptr bz 0 ∧ t 6 = .ptr br 0 ∧ t 7 = .ptr bm 0 ∧ t 44 = eI (rdNC r0).1 ∧ t 45 = eI k ∧ (k : Int) ≤ (rdNC r0).1 ∧
  h bz = some (eMt .nil .nil ⟨0, 0, 0, 0, 0, ⟨0, 0⟩, [], []⟩) ∧ h br = some (eR (rdL rdCell k (rdNC r0).2).2) ∧ h bm = some (eMt tag .nil (msgAt r0 5 (rdV r0).1 (rdL rdCell k (rdNC r0).2).1 [])) ∧ appOK tag 48 3
def RdC (r0 : Rd) (bz br bm : Nat) (t : Nat → AV) (h : Nat → Option (List AV)) : Prop := ∃ (k : Nat) (tag tag1 : Tag), t 2 = .ptr bz 0 ∧ t 6 = .ptr br 0 ∧ t 7 = .ptr bm 0 ∧ t 60 = eI (rdNE r0).1 ∧ t 61 = eI k ∧ (k : Int) ≤ (rdNE r0).1 ∧
  h bz = some (eMt .nil .nil ⟨0, 0, 0, 0, 0, ⟨0, 0⟩, [], []⟩) ∧ h br = some (eR (rdL (rdEntry bitsF) k (rdNE r0).2).2) ∧ h bm = some (eMt tag1 tag (msgAt r0 5 (rdV r0).1 (rdCs r0).1 (rdL (rdEntry bitsF) k (rdNE r0).2).1)) ∧ appOK tag 46 4

def RdA5 (r0 : Rd) (bz br bm : Nat) (t : Nat → AV) (h : Nat → Option (List AV)) : Prop := t 2 = .ptr bz 0 ∧ t 6 = .ptr br 0 ∧ t 7 = .ptr bm 0 ∧ h bz = some (eMt .nil .nil ⟨0, 0, 0, 0, 0, ⟨0, 0⟩, [], []⟩) ∧ h br = some (eR (rdSt r0 5)) ∧ h bm = some (eMt .nil .nil (msgAt r0 5 ⟨0, 0⟩ [] []))

def RdB5 (r0 : Rd) (bz br bm : Nat) (t : Nat → AV) (h : Nat → Option (List AV)) : Prop := ∃ tag : Tag, t 2 = .ptr bz 0 ∧ t 6 = .ptr br 0 ∧ t 7 = .ptr bm 0 ∧ h bz = some (eMt .nil .nil ⟨0, 0, 0, 0, 0, ⟨0, 0⟩, [], []⟩) ∧ h br = some (eR (rdCs r0).2) ∧ h bm = some (eMt tag .nil (msgAt r0 5 (rdV r0).1 (rdCs r0).1 []))

@[simp] theorem msgAt_cells (r : Rd) (k : Nat) (v : PView) (cs : List PCell) (es : List PEntry) : (msgAt r k v cs es).cells = cs := rfl
@[simp] theorem msgAt_book (r : Rd) (k : Nat) (v : PView) (cs : List PCell) (es : List PEntry) : (msgAt r k v cs es).book = es := rfl
@[simp] theorem msgAt_view (r : Rd) (k : Nat) (v : PView) (cs : List PCell) (es : List PEntry) : (msgAt r k v cs es).view = v := rfl
theorem wr1 : IntKind.i64.wrap 1 = 1 := by decide
def RdC5 (r0 : Rd) (bz br bm : Nat) (t : Nat → AV) (h : Nat → Option (List AV)) : Prop := ∃ tag1 tag2 : Tag, t 2 = .ptr bz 0 ∧ t 6 = .ptr br 0 ∧ t 7 = .ptr bm 0 ∧ h bz = some (eMt .nil .nil ⟨0, 0, 0, 0, 0, ⟨0, 0⟩, [], []⟩) ∧ h br = some (eR (rdEs bitsF r0).2) ∧ h bm = some (eMt tag1 tag2 (rdMsg bitsF r0))

end Go.Proofs.YtjbbfiagijjdoaaGreat

/- Contracts: bits side by side are turned. No condition. -/
set_option linter.unusedSimpArgs false
set_option linter.unusedVariables false
set_option maxRecDepth 10000
namespace Go.Proofs.YtjbbfiagijjdoaaGreat
open Go Go.Rw Go.Proofs
-- a goal is never to be run by the elaborator
attribute [local irreducible] awp aops aop aopsE aeff

/-- new memory, which the caller may write -/
def New (e sz : Nat) (rows : List (List AV)) (r : AV) : Prop := (rows = [] ∧ ∃ tag, appOK tag e sz ∧ r = .sl tag []) ∨ (rows ≠ [] ∧ r = .sl (.live e sz true) rows)

def LenSt4 (n bd cb : Nat) (t : Nat → AV) (_ : Nat → Option (List AV)) : Prop := ∃ x c : Nat, t 0 = .v (.int .u32 x) ∧ t 2 = .v (.int .i64 c) ∧ c + Lib.bitLen x = Lib.bitLen n ∧ x < bd ∧ c ≤ cb
def vB (b : UInt8) : AV := .v (.int .u8 (b.toNat : Int))
theorem eB_flat (l : List UInt8) : (eB l).flatten.map dead1 = l.map vB := by
  induction l with
  | nil => rfl
  | cons b l ih => simp only [eB, List.map_cons, List.flatten_cons, List.map_append] at *; rw [ih]; rfl
@[simp] theorem eB_flat' (l : List UInt8) : ((eB l).map (List.map dead1)).flatten = l.map vB := by rw [← eB_flat, List.map_flatten]
def BuI (l : List UInt8) (a : Int) (m : BitVec 32) (b cap : Nat) (spare : List Value) (t : Nat → AV) (h : Nat → Option (List AV)) : Prop := ∃ k : Nat, t 0 = .sl .no (eB l) ∧ t 1 = eI a ∧ t 2 = .v (.int .u32 (n32 m)) ∧ t 7 = .sm b 0 l.length cap ∧
  t 30 = eI (wide m : Nat) ∧ t 31 = eI k ∧ k ≤ wide m ∧ h b = some ((burstK l a.toNat m k).map vB ++ spare.map AV.v)

end Go.Proofs.YtjbbfiagijjdoaaGreat

/- Words: texts that are compared. No condition. -/
set_option linter.unusedSimpArgs false
set_option linter.unusedVariables false
namespace Go.Proofs.YtjbbfiagijjdoaaGreat
open Go Go.Rw Go.Proofs

theorem str_toList (l : List UInt8) : (⟨l.toArray⟩ : ByteArray).toList = l := by rw [ByteArray.toList_eq]
@[simp] theorem aNum_seql (l m : List UInt8) : aNum .eql (.string ⟨l.toArray⟩) (.string ⟨m.toArray⟩) = some (.bool (decide (l = m))) := by
  have h : (l == m) = decide (l = m) := by
    by_cases hlm : l = m
    · subst hlm; simp
    · simp [hlm]
  have e : Op.stringOp .eql (⟨l.toArray⟩ : ByteArray) ⟨m.toArray⟩ = pure (Value.bool (decide (l = m))) := by
    unfold Op.stringOp
    simp only [str_toList, h]
  simp [aNum, isNum, Go.binOp, e]
@[simp] theorem aNum_sneq (l m : List UInt8) : aNum .neq (.string ⟨l.toArray⟩) (.string ⟨m.toArray⟩) = some (.bool (!decide (l = m))) := by
  have h : (l == m) = decide (l = m) := by
    by_cases hlm : l = m
    · subst hlm; simp
    · simp [hlm]
  have e : Op.stringOp .neq (⟨l.toArray⟩ : ByteArray) ⟨m.toArray⟩ = pure (Value.bool (!decide (l = m))) := by
    unfold Op.stringOp
    simp only [str_toList, h]
  simp [aNum, isNum, Go.binOp, e]
end Go.Proofs.YtjbbfiagijjdoaaGreat
