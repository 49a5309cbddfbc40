/-
  The plain forms of the functions that the statement reaches, and that each is its function's body. (Written by program.)
-/
import Derived.Test.YtgpehdiancphnaaNmX
import Derived.Test.YtgpehdiancphnaaProg
import Derived.ProofKit
set_option linter.unusedVariables false
set_option maxRecDepth 100000
set_option maxHeartbeats 4000000
namespace Go.Proofs.Ytgpehdiancphnaa
namespace NM
open AM Go.RowKit
theorem mixed : Try.prog.follows .mixedOrders = true := by kernel_rfl
/- drayage/spec.Small -/
def n76 : NFunc := ⟨13, .seq (.region 1 [
    ⟨(some 0), .alloc [.zsl, .zsl, .zsl, .int .i64 (0), .int .i64 (0), .int .i64 (0), .int .i64 (0), .int .i64 (0), .int .i64 (0), .int .i64 (0), .int .i64 (0), .int .i64 (0), .int .i64 (0), .int .i64 (0), .int .i64 (0), .int .i64 (0), .int .i64 (0), .int .i64 (0)], none, 0, none⟩] []) (.seq (.region 6 [
    ⟨(some 1), .build [.int .i64 (0), .int .i64 (0), .int .i64 (0), .int .i64 (0)] [(0, 1, (.const (.int .i64 (4)))), (1, 1, (.const (.int .i64 (8)))), (2, 1, (.const (.int .i64 (0)))), (3, 1, (.const (.int .i64 (1))))], none, 0, none⟩,
    ⟨(some 2), .build [.int .i64 (0), .int .i64 (0), .int .i64 (0), .int .i64 (0)] [(0, 1, (.const (.int .i64 (8)))), (1, 1, (.const (.int .i64 (8)))), (2, 1, (.const (.int .i64 (1)))), (3, 1, (.const (.int .i64 (0))))], none, 0, none⟩,
    ⟨(some 3), .buildSlice 4 2 true [.int .i64 (0), .int .i64 (0), .int .i64 (0), .int .i64 (0)] [(0, (.tmp 1)), (1, (.tmp 2))], none, 0, none⟩,
    ⟨(some 4), .buildSlice 1 2 true [.int .i64 (0)] [(0, (.const (.int .i64 (0)))), (1, (.const (.int .i64 (1))))], none, 1, none⟩,
    ⟨(some 5), .buildSlice 1 1 true [.int .i64 (0)] [(0, (.const (.int .i64 (1))))], none, 2, none⟩,
    ⟨(some 6), .buildSlice 1 2 true [.zsl] [(0, (.tmp 4)), (1, (.tmp 5))], none, 3, none⟩,
    ⟨(some 7), .build [.int .i64 (0), .zsl, .int .i64 (0), .int .i64 (0), .int .i64 (0), .int .i64 (0)] [(0, 1, (.const (.int .i64 (0)))), (2, 1, (.const (.int .i64 (8)))), (3, 1, (.const (.int .i64 (4)))), (4, 1, (.const (.int .i64 (3)))), (5, 1, (.const (.int .i64 (1))))], none, 4, none⟩,
    ⟨(some 8), .buildSlice 1 2 true [.int .i64 (0)] [(0, (.const (.int .i64 (0)))), (1, (.const (.int .i64 (1))))], none, 4, none⟩,
    ⟨(some 9), .build [.int .i64 (0), .zsl, .int .i64 (0), .int .i64 (0), .int .i64 (0), .int .i64 (0)] [(0, 1, (.const (.int .i64 (1)))), (1, 1, (.tmp 8)), (2, 1, (.const (.int .i64 (4)))), (3, 1, (.const (.int .i64 (2)))), (4, 1, (.const (.int .i64 (2)))), (5, 1, (.const (.int .i64 (5))))], none, 5, none⟩,
    ⟨(some 10), .buildSlice 6 2 true [.int .i64 (0), .zsl, .int .i64 (0), .int .i64 (0), .int .i64 (0), .int .i64 (0)] [(0, (.tmp 7)), (1, (.tmp 9))], none, 5, none⟩,
    ⟨(some 11), .build [.int .i64 (0), .int .i64 (0), .int .i64 (0), .int .i64 (0)] [(0, 1, (.const (.int .i64 (1)))), (1, 1, (.const (.int .i64 (2)))), (2, 1, (.const (.int .i64 (10)))), (3, 1, (.const (.int .i64 (3))))], none, 6, none⟩,
    ⟨(some 12), .build [.zsl, .zsl, .zsl, .int .i64 (0), .int .i64 (0), .int .i64 (0), .int .i64 (0), .int .i64 (0), .int .i64 (0), .int .i64 (0), .int .i64 (0), .int .i64 (0), .int .i64 (0), .int .i64 (0), .int .i64 (0), .int .i64 (0), .int .i64 (0), .int .i64 (0)] [(0, 1, (.tmp 3)), (1, 1, (.tmp 6)), (2, 1, (.tmp 10)), (3, 1, (.const (.int .i64 (3)))), (4, 4, (.tmp 11)), (8, 1, (.const (.int .i64 (4)))), (9, 1, (.const (.int .i64 (1)))), (10, 1, (.const (.int .i64 (12)))), (11, 1, (.const (.int .i64 (100)))), (12, 1, (.const (.int .i64 (50)))), (13, 1, (.const (.int .i64 (5)))), (14, 1, (.const (.int .i64 (4)))), (15, 1, (.const (.int .i64 (3)))), (16, 1, (.const (.int .i64 (6)))), (17, 1, (.const (.int .i64 (4))))], none, 6, none⟩,
    ⟨none, .store 18 (.tmp 0) (.tmp 12), none, 6, none⟩] []) (.ret)), [.cell true 18 0], true⟩
def s76 : Sig := ⟨.nil, [], ((.v .spec), []), []⟩
def F76 (L : Lp)   : Option Spec :=
  some (Spec.mk [Res.mk 4 8 0 1, Res.mk 8 8 1 0] [[0, 1], [1]] [Queue.mk 0 [] 8 4 3 1, Queue.mk 1 [0, 1] 4 2 2 5] 3 (Weights.mk 1 2 10 3) 4 1 12 100 50 5 4 3 6 4)
theorem e76 (L : Lp)  (x : s76.args.den) (h : denH s76.heap) : nrun [] L n76 s76 x h = F76 L   := by kernel_rfl
def f76 : Option Spec := F76 (@LN LOOPS) 
@[reducible] def t76 : Ent := ⟨76, s76, fun x h => f76 ⟩
theorem k76 : chkNF Try.prog Try.f76 n76 = true := by kernel_rfl
theorem ok76 : NOk Try.prog t76 := NOk.body (T := []) mixed nall_nil (oneEach_of (by kernel_rfl)) Try.func76 k76 (by kernel_rfl) (fun x h => e76 _  x h)
/- drayage/spec.within -/
def n155 : NFunc := ⟨12, .seq (.region 4 [
    ⟨(some 5), .box 1 (.tmp 1), none, 0, none⟩,
    ⟨(some 6), .box 1 (.tmp 2), none, 1, none⟩,
    ⟨(some 7), .box 1 (.tmp 3), none, 2, none⟩,
    ⟨(some 8), .alloc [.str [], .nilfn], none, 3, none⟩] []) (.seq (.region 0 [
    ⟨(some 9), .move (.tmp 0), none, 0, none⟩,
    ⟨(some 10), .makeFunc 167 [(.tmp 6), (.tmp 5), (.tmp 7)], none, 0, none⟩,
    ⟨(some 11), .build [.str [], .nilfn] [(0, 1, (.tmp 9)), (1, 1, (.tmp 10))], none, 0, none⟩,
    ⟨none, .store 2 (.tmp 8) (.tmp 11), none, 0, none⟩] []) (.ret)), [.cell true 2 8], true⟩
def s155 : Sig := ⟨(.cons (.v .str) (.cons (.v (.int .i64)) (.cons (.v (.int .i64)) (.cons (.v (.int .i64)) .nil)))), [], ((.agg (.cons (.v .str) (.cons (.fn 167 (.cons (.iptr (.cons (.v (.int .i64)) .nil) 0) (.cons (.iptr (.cons (.v (.int .i64)) .nil) 0) (.cons (.iptr (.cons (.v (.int .i64)) .nil) 0) .nil)))) .nil))), []), []⟩
def F155 (L : Lp)  (word0 : (List UInt8)) (an1 : Int) (lo2 : Int) (hi3 : Int) : Option ((List UInt8) × (((Int × Unit) × ((Int × Unit) × ((Int × Unit) × Unit))) × Unit)) :=
  some (word0, ((lo2, ()), (an1, ()), (hi3, ()), ()), ())
theorem e155 (L : Lp)  (x : s155.args.den) (h : denH s155.heap) : nrun [] L n155 s155 x h = F155 L  x.1 x.2.1 x.2.2.1 x.2.2.2.1 := by kernel_rfl
def f155 : (List UInt8) → Int → Int → Int → Option ((List UInt8) × (((Int × Unit) × ((Int × Unit) × ((Int × Unit) × Unit))) × Unit)) := F155 (@LN LOOPS) 
@[reducible] def t155 : Ent := ⟨155, s155, fun x h => f155 x.1 x.2.1 x.2.2.1 x.2.2.2.1⟩
theorem k155 : chkNF Try.prog Try.f155 n155 = true := by kernel_rfl
theorem ok155 : NOk Try.prog t155 := NOk.body (T := []) mixed nall_nil (oneEach_of (by kernel_rfl)) Try.func155 k155 (by kernel_rfl) (fun x h => e155 _  x h)
/- drayage/spec.rules -/
def n127 : NFunc := ⟨44, .seq (.region 1 [
    ⟨(some 1), .box 18 (.tmp 0), none, 0, none⟩,
    ⟨(some 2), .move (.const (.zsl)), none, 1, none⟩] []) (.seq (.region 41 [
    ⟨(some 3), .makeFunc 151 [(.tmp 1)], none, 0, (some ([], none))⟩,
    ⟨(some 4), .build [.str [], .nilfn] [(0, 1, (.const (.str [78, 111, 100, 101, 115]))), (1, 1, (.tmp 3))], none, 0, (some ([], none))⟩,
    ⟨(some 5), .makeFunc 153 [(.tmp 1)], none, 0, (some ([], none))⟩,
    ⟨(some 6), .build [.str [], .nilfn] [(0, 1, (.const (.str [80, 97, 114, 116, 115]))), (1, 1, (.tmp 5))], none, 0, (some ([], none))⟩,
    ⟨(some 7), .fieldAddr 3 (.tmp 1), none, 0, (some ([], none))⟩,
    ⟨(some 8), .load false 1 (.tmp 7), none, 0, (some ([], none))⟩,
    ⟨(some 9), .call (.func 155) [(false, (.const (.str [85, 115, 101, 114, 115]))), (false, (.tmp 8)), (false, (.const (.int .i64 (1)))), (false, (.const (.int .i64 (8))))] true 4, none, 0, (some ([], none))⟩,
    ⟨(some 10), .makeFunc 156 [(.tmp 1)], none, 4, (some ([], none))⟩,
    ⟨(some 11), .build [.str [], .nilfn] [(0, 1, (.const (.str [81, 117, 101, 117, 101, 115]))), (1, 1, (.tmp 10))], none, 4, (some ([], none))⟩,
    ⟨(some 12), .makeFunc 158 [(.tmp 1)], none, 4, (some ([], none))⟩,
    ⟨(some 13), .build [.str [], .nilfn] [(0, 1, (.const (.str [87, 101, 105, 103, 104, 116, 115]))), (1, 1, (.tmp 12))], none, 4, (some ([], none))⟩,
    ⟨(some 14), .fieldAddr 8 (.tmp 1), none, 4, (some ([], none))⟩,
    ⟨(some 15), .load false 1 (.tmp 14), none, 4, (some ([], none))⟩,
    ⟨(some 16), .call (.func 155) [(false, (.const (.str [68, 101, 99, 97, 121]))), (false, (.tmp 15)), (false, (.const (.int .i64 (1)))), (false, (.const (.int .i64 (16))))] true 4, none, 4, (some ([0, 1, 2, 3], none))⟩,
    ⟨(some 17), .makeFunc 160 [(.tmp 1)], none, 8, (some ([], none))⟩,
    ⟨(some 18), .build [.str [], .nilfn] [(0, 1, (.const (.str [77, 111, 100, 101]))), (1, 1, (.tmp 17))], none, 8, (some ([], none))⟩,
    ⟨(some 19), .fieldAddr 10 (.tmp 1), none, 8, (some ([], none))⟩,
    ⟨(some 20), .load false 1 (.tmp 19), none, 8, (some ([], none))⟩,
    ⟨(some 21), .call (.func 155) [(false, (.const (.str [74, 111, 98, 115]))), (false, (.tmp 20)), (false, (.const (.int .i64 (1)))), (false, (.const (.int .i64 (256))))] true 4, none, 8, (some ([0, 1, 2, 3, 4, 5, 6, 7], none))⟩,
    ⟨(some 22), .fieldAddr 11 (.tmp 1), none, 12, (some ([], none))⟩,
    ⟨(some 23), .load false 1 (.tmp 22), none, 12, (some ([], none))⟩,
    ⟨(some 24), .call (.func 155) [(false, (.const (.str [73, 100, 115]))), (false, (.tmp 23)), (false, (.const (.int .i64 (1)))), (false, (.const (.int .i64 (1048576))))] true 4, none, 12, (some ([0, 1, 2, 3, 4, 5, 6, 7, 8, 9, 10, 11], none))⟩,
    ⟨(some 25), .fieldAddr 12 (.tmp 1), none, 16, (some ([], none))⟩,
    ⟨(some 26), .load false 1 (.tmp 25), none, 16, (some ([], none))⟩,
    ⟨(some 27), .call (.func 155) [(false, (.const (.str [86, 101, 114, 115, 105, 111, 110, 115]))), (false, (.tmp 26)), (false, (.const (.int .i64 (1)))), (false, (.const (.int .i64 (65536))))] true 4, none, 16, (some ([0, 1, 2, 3, 4, 5, 6, 7, 8, 9, 10, 11, 12, 13, 14, 15], none))⟩,
    ⟨(some 28), .fieldAddr 13 (.tmp 1), none, 20, (some ([], none))⟩,
    ⟨(some 29), .load false 1 (.tmp 28), none, 20, (some ([], none))⟩,
    ⟨(some 30), .call (.func 155) [(false, (.const (.str [76, 105, 110, 103, 101, 114]))), (false, (.tmp 29)), (false, (.const (.int .i64 (0)))), (false, (.const (.int .i64 (65536))))] true 4, none, 20, (some ([0, 1, 2, 3, 4, 5, 6, 7, 8, 9, 10, 11, 12, 13, 14, 15, 16, 17, 18, 19], none))⟩,
    ⟨(some 31), .fieldAddr 14 (.tmp 1), none, 24, (some ([], none))⟩,
    ⟨(some 32), .load false 1 (.tmp 31), none, 24, (some ([], none))⟩,
    ⟨(some 33), .call (.func 155) [(false, (.const (.str [75, 101, 101, 112]))), (false, (.tmp 32)), (false, (.const (.int .i64 (1)))), (false, (.const (.int .i64 (16))))] true 4, none, 24, (some ([0, 1, 2, 3, 4, 5, 6, 7, 8, 9, 10, 11, 12, 13, 14, 15, 16, 17, 18, 19, 20, 21, 22, 23], none))⟩,
    ⟨(some 34), .fieldAddr 15 (.tmp 1), none, 28, (some ([], none))⟩,
    ⟨(some 35), .load false 1 (.tmp 34), none, 28, (some ([], none))⟩,
    ⟨(some 36), .call (.func 155) [(false, (.const (.str [73, 110]))), (false, (.tmp 35)), (false, (.const (.int .i64 (1)))), (false, (.const (.int .i64 (8))))] true 4, none, 28, (some ([0, 1, 2, 3, 4, 5, 6, 7, 8, 9, 10, 11, 12, 13, 14, 15, 16, 17, 18, 19, 20, 21, 22, 23, 24, 25, 26, 27], none))⟩,
    ⟨(some 37), .fieldAddr 16 (.tmp 1), none, 32, (some ([], none))⟩,
    ⟨(some 38), .load false 1 (.tmp 37), none, 32, (some ([], none))⟩,
    ⟨(some 39), .call (.func 155) [(false, (.const (.str [79, 117, 116]))), (false, (.tmp 38)), (false, (.const (.int .i64 (1)))), (false, (.const (.int .i64 (16))))] true 4, none, 32, (some ([0, 1, 2, 3, 4, 5, 6, 7, 8, 9, 10, 11, 12, 13, 14, 15, 16, 17, 18, 19, 20, 21, 22, 23, 24, 25, 26, 27, 28, 29, 30, 31], none))⟩,
    ⟨(some 40), .fieldAddr 17 (.tmp 1), none, 36, (some ([], none))⟩,
    ⟨(some 41), .load false 1 (.tmp 40), none, 36, (some ([], none))⟩,
    ⟨(some 42), .call (.func 155) [(false, (.const (.str [67, 97, 99, 104, 101]))), (false, (.tmp 41)), (false, (.const (.int .i64 (0)))), (false, (.const (.int .i64 (16))))] false 4, none, 36, (some ([0, 1, 2, 3, 4, 5, 6, 7, 8, 9, 10, 11, 12, 13, 14, 15, 16, 17, 18, 19, 20, 21, 22, 23, 24, 25, 26, 27, 28, 29, 30, 31, 32, 33, 34, 35], none))⟩,
    ⟨(some 43), .buildSlice 2 15 true [.str [], .nilfn] [(0, (.tmp 4)), (1, (.tmp 6)), (2, (.tmp 9)), (3, (.tmp 11)), (4, (.tmp 13)), (5, (.tmp 16)), (6, (.tmp 18)), (7, (.tmp 21)), (8, (.tmp 24)), (9, (.tmp 27)), (10, (.tmp 30)), (11, (.tmp 33)), (12, (.tmp 36)), (13, (.tmp 39)), (14, (.tmp 42))], none, 40, (some ([0, 1, 2, 3, 4, 5, 6, 7, 8, 9, 10, 11, 12, 13, 14, 15, 16, 17, 18, 19, 20, 21, 22, 23, 24, 25, 26, 27, 28, 29, 30, 31, 32, 33, 34, 35, 36, 37, 38, 39], none))⟩,
    ⟨(some 2), .move (.tmp 43), none, 41, (some ([0, 1, 2, 3, 4, 5, 6, 7, 8, 9, 10, 11, 12, 13, 14, 15, 16, 17, 18, 19, 20, 21, 22, 23, 24, 25, 26, 27, 28, 29, 30, 31, 32, 33, 34, 35, 36, 37, 38, 39, 40], none))⟩] []) (.ret)), [.tmp 2], true⟩
def s127 : Sig := ⟨(.cons (.v .spec) .nil), [], ((.rows 2 (.cons (.cons (.v .str) (.cons (.fn 151 (.cons (.iptr (.cons (.v (.list .res)) (.cons (.v (.list (.list (.int .i64)))) (.cons (.v (.list .queue)) (.cons (.v (.int .i64)) (.cons (.v (.int .i64)) (.cons (.v (.int .i64)) (.cons (.v (.int .i64)) (.cons (.v (.int .i64)) (.cons (.v (.int .i64)) (.cons (.v (.int .i64)) (.cons (.v (.int .i64)) (.cons (.v (.int .i64)) (.cons (.v (.int .i64)) (.cons (.v (.int .i64)) (.cons (.v (.int .i64)) (.cons (.v (.int .i64)) (.cons (.v (.int .i64)) (.cons (.v (.int .i64)) .nil)))))))))))))))))) 0) .nil)) .nil)) (.cons (.cons (.v .str) (.cons (.fn 153 (.cons (.iptr (.cons (.v (.list .res)) (.cons (.v (.list (.list (.int .i64)))) (.cons (.v (.list .queue)) (.cons (.v (.int .i64)) (.cons (.v (.int .i64)) (.cons (.v (.int .i64)) (.cons (.v (.int .i64)) (.cons (.v (.int .i64)) (.cons (.v (.int .i64)) (.cons (.v (.int .i64)) (.cons (.v (.int .i64)) (.cons (.v (.int .i64)) (.cons (.v (.int .i64)) (.cons (.v (.int .i64)) (.cons (.v (.int .i64)) (.cons (.v (.int .i64)) (.cons (.v (.int .i64)) (.cons (.v (.int .i64)) .nil)))))))))))))))))) 0) .nil)) .nil)) (.cons (.cons (.v .str) (.cons (.fn 167 (.cons (.iptr (.cons (.v (.int .i64)) .nil) 0) (.cons (.iptr (.cons (.v (.int .i64)) .nil) 0) (.cons (.iptr (.cons (.v (.int .i64)) .nil) 0) .nil)))) .nil)) (.cons (.cons (.v .str) (.cons (.fn 156 (.cons (.iptr (.cons (.v (.list .res)) (.cons (.v (.list (.list (.int .i64)))) (.cons (.v (.list .queue)) (.cons (.v (.int .i64)) (.cons (.v (.int .i64)) (.cons (.v (.int .i64)) (.cons (.v (.int .i64)) (.cons (.v (.int .i64)) (.cons (.v (.int .i64)) (.cons (.v (.int .i64)) (.cons (.v (.int .i64)) (.cons (.v (.int .i64)) (.cons (.v (.int .i64)) (.cons (.v (.int .i64)) (.cons (.v (.int .i64)) (.cons (.v (.int .i64)) (.cons (.v (.int .i64)) (.cons (.v (.int .i64)) .nil)))))))))))))))))) 0) .nil)) .nil)) (.cons (.cons (.v .str) (.cons (.fn 158 (.cons (.iptr (.cons (.v (.list .res)) (.cons (.v (.list (.list (.int .i64)))) (.cons (.v (.list .queue)) (.cons (.v (.int .i64)) (.cons (.v (.int .i64)) (.cons (.v (.int .i64)) (.cons (.v (.int .i64)) (.cons (.v (.int .i64)) (.cons (.v (.int .i64)) (.cons (.v (.int .i64)) (.cons (.v (.int .i64)) (.cons (.v (.int .i64)) (.cons (.v (.int .i64)) (.cons (.v (.int .i64)) (.cons (.v (.int .i64)) (.cons (.v (.int .i64)) (.cons (.v (.int .i64)) (.cons (.v (.int .i64)) .nil)))))))))))))))))) 0) .nil)) .nil)) (.cons (.cons (.v .str) (.cons (.fn 167 (.cons (.iptr (.cons (.v (.int .i64)) .nil) 0) (.cons (.iptr (.cons (.v (.int .i64)) .nil) 0) (.cons (.iptr (.cons (.v (.int .i64)) .nil) 0) .nil)))) .nil)) (.cons (.cons (.v .str) (.cons (.fn 160 (.cons (.iptr (.cons (.v (.list .res)) (.cons (.v (.list (.list (.int .i64)))) (.cons (.v (.list .queue)) (.cons (.v (.int .i64)) (.cons (.v (.int .i64)) (.cons (.v (.int .i64)) (.cons (.v (.int .i64)) (.cons (.v (.int .i64)) (.cons (.v (.int .i64)) (.cons (.v (.int .i64)) (.cons (.v (.int .i64)) (.cons (.v (.int .i64)) (.cons (.v (.int .i64)) (.cons (.v (.int .i64)) (.cons (.v (.int .i64)) (.cons (.v (.int .i64)) (.cons (.v (.int .i64)) (.cons (.v (.int .i64)) .nil)))))))))))))))))) 0) .nil)) .nil)) (.cons (.cons (.v .str) (.cons (.fn 167 (.cons (.iptr (.cons (.v (.int .i64)) .nil) 0) (.cons (.iptr (.cons (.v (.int .i64)) .nil) 0) (.cons (.iptr (.cons (.v (.int .i64)) .nil) 0) .nil)))) .nil)) (.cons (.cons (.v .str) (.cons (.fn 167 (.cons (.iptr (.cons (.v (.int .i64)) .nil) 0) (.cons (.iptr (.cons (.v (.int .i64)) .nil) 0) (.cons (.iptr (.cons (.v (.int .i64)) .nil) 0) .nil)))) .nil)) (.cons (.cons (.v .str) (.cons (.fn 167 (.cons (.iptr (.cons (.v (.int .i64)) .nil) 0) (.cons (.iptr (.cons (.v (.int .i64)) .nil) 0) (.cons (.iptr (.cons (.v (.int .i64)) .nil) 0) .nil)))) .nil)) (.cons (.cons (.v .str) (.cons (.fn 167 (.cons (.iptr (.cons (.v (.int .i64)) .nil) 0) (.cons (.iptr (.cons (.v (.int .i64)) .nil) 0) (.cons (.iptr (.cons (.v (.int .i64)) .nil) 0) .nil)))) .nil)) (.cons (.cons (.v .str) (.cons (.fn 167 (.cons (.iptr (.cons (.v (.int .i64)) .nil) 0) (.cons (.iptr (.cons (.v (.int .i64)) .nil) 0) (.cons (.iptr (.cons (.v (.int .i64)) .nil) 0) .nil)))) .nil)) (.cons (.cons (.v .str) (.cons (.fn 167 (.cons (.iptr (.cons (.v (.int .i64)) .nil) 0) (.cons (.iptr (.cons (.v (.int .i64)) .nil) 0) (.cons (.iptr (.cons (.v (.int .i64)) .nil) 0) .nil)))) .nil)) (.cons (.cons (.v .str) (.cons (.fn 167 (.cons (.iptr (.cons (.v (.int .i64)) .nil) 0) (.cons (.iptr (.cons (.v (.int .i64)) .nil) 0) (.cons (.iptr (.cons (.v (.int .i64)) .nil) 0) .nil)))) .nil)) (.cons (.cons (.v .str) (.cons (.fn 167 (.cons (.iptr (.cons (.v (.int .i64)) .nil) 0) (.cons (.iptr (.cons (.v (.int .i64)) .nil) 0) (.cons (.iptr (.cons (.v (.int .i64)) .nil) 0) .nil)))) .nil)) .nil)))))))))))))))), []), []⟩
def F127 (L : Lp) (g155 : (List UInt8) → Int → Int → Int → Option ((List UInt8) × (((Int × Unit) × ((Int × Unit) × ((Int × Unit) × Unit))) × Unit))) (as0 : Spec) : Option (((List UInt8) × ((((List Res) × ((List (List Int)) × ((List Queue) × (Int × (Int × (Int × (Int × (Int × (Int × (Int × (Int × (Int × (Int × (Int × (Int × (Int × (Int × (Int × Unit)))))))))))))))))) × Unit) × Unit)) × (((List UInt8) × ((((List Res) × ((List (List Int)) × ((List Queue) × (Int × (Int × (Int × (Int × (Int × (Int × (Int × (Int × (Int × (Int × (Int × (Int × (Int × (Int × (Int × Unit)))))))))))))))))) × Unit) × Unit)) × (((List UInt8) × (((Int × Unit) × ((Int × Unit) × ((Int × Unit) × Unit))) × Unit)) × (((List UInt8) × ((((List Res) × ((List (List Int)) × ((List Queue) × (Int × (Int × (Int × (Int × (Int × (Int × (Int × (Int × (Int × (Int × (Int × (Int × (Int × (Int × (Int × Unit)))))))))))))))))) × Unit) × Unit)) × (((List UInt8) × ((((List Res) × ((List (List Int)) × ((List Queue) × (Int × (Int × (Int × (Int × (Int × (Int × (Int × (Int × (Int × (Int × (Int × (Int × (Int × (Int × (Int × Unit)))))))))))))))))) × Unit) × Unit)) × (((List UInt8) × (((Int × Unit) × ((Int × Unit) × ((Int × Unit) × Unit))) × Unit)) × (((List UInt8) × ((((List Res) × ((List (List Int)) × ((List Queue) × (Int × (Int × (Int × (Int × (Int × (Int × (Int × (Int × (Int × (Int × (Int × (Int × (Int × (Int × (Int × Unit)))))))))))))))))) × Unit) × Unit)) × (((List UInt8) × (((Int × Unit) × ((Int × Unit) × ((Int × Unit) × Unit))) × Unit)) × (((List UInt8) × (((Int × Unit) × ((Int × Unit) × ((Int × Unit) × Unit))) × Unit)) × (((List UInt8) × (((Int × Unit) × ((Int × Unit) × ((Int × Unit) × Unit))) × Unit)) × (((List UInt8) × (((Int × Unit) × ((Int × Unit) × ((Int × Unit) × Unit))) × Unit)) × (((List UInt8) × (((Int × Unit) × ((Int × Unit) × ((Int × Unit) × Unit))) × Unit)) × (((List UInt8) × (((Int × Unit) × ((Int × Unit) × ((Int × Unit) × Unit))) × Unit)) × (((List UInt8) × (((Int × Unit) × ((Int × Unit) × ((Int × Unit) × Unit))) × Unit)) × (((List UInt8) × (((Int × Unit) × ((Int × Unit) × ((Int × Unit) × Unit))) × Unit)) × Unit))))))))))))))) :=
  Option.bind (g155 ([85, 115, 101, 114, 115] : List UInt8) as0.users 1 8) fun r1 =>
  Option.bind (g155 ([68, 101, 99, 97, 121] : List UInt8) as0.decay 1 16) fun r2 =>
  Option.bind (g155 ([74, 111, 98, 115] : List UInt8) as0.jobs 1 256) fun r3 =>
  Option.bind (g155 ([73, 100, 115] : List UInt8) as0.ids 1 1048576) fun r4 =>
  Option.bind (g155 ([86, 101, 114, 115, 105, 111, 110, 115] : List UInt8) as0.versions 1 65536) fun r5 =>
  Option.bind (g155 ([76, 105, 110, 103, 101, 114] : List UInt8) as0.linger 0 65536) fun r6 =>
  Option.bind (g155 ([75, 101, 101, 112] : List UInt8) as0.keep 1 16) fun r7 =>
  Option.bind (g155 ([73, 110] : List UInt8) as0.inn 1 8) fun r8 =>
  Option.bind (g155 ([79, 117, 116] : List UInt8) as0.out 1 16) fun r9 =>
  Option.bind (g155 ([67, 97, 99, 104, 101] : List UInt8) as0.cache 0 16) fun r10 =>
  some ((([78, 111, 100, 101, 115] : List UInt8), ((as0.nodes, as0.parts, as0.queues, as0.users, as0.weights.age, as0.weights.size, as0.weights.qos, as0.weights.share, as0.decay, as0.mode, as0.jobs, as0.ids, as0.versions, as0.linger, as0.keep, as0.inn, as0.out, as0.cache, ()), ()), ()), ((([80, 97, 114, 116, 115] : List UInt8), ((as0.nodes, as0.parts, as0.queues, as0.users, as0.weights.age, as0.weights.size, as0.weights.qos, as0.weights.share, as0.decay, as0.mode, as0.jobs, as0.ids, as0.versions, as0.linger, as0.keep, as0.inn, as0.out, as0.cache, ()), ()), ()), ((r1.1, ((r1.2.1.1.1, ()), (r1.2.1.2.1.1, ()), (r1.2.1.2.2.1.1, ()), ()), ()), ((([81, 117, 101, 117, 101, 115] : List UInt8), ((as0.nodes, as0.parts, as0.queues, as0.users, as0.weights.age, as0.weights.size, as0.weights.qos, as0.weights.share, as0.decay, as0.mode, as0.jobs, as0.ids, as0.versions, as0.linger, as0.keep, as0.inn, as0.out, as0.cache, ()), ()), ()), ((([87, 101, 105, 103, 104, 116, 115] : List UInt8), ((as0.nodes, as0.parts, as0.queues, as0.users, as0.weights.age, as0.weights.size, as0.weights.qos, as0.weights.share, as0.decay, as0.mode, as0.jobs, as0.ids, as0.versions, as0.linger, as0.keep, as0.inn, as0.out, as0.cache, ()), ()), ()), ((r2.1, ((r2.2.1.1.1, ()), (r2.2.1.2.1.1, ()), (r2.2.1.2.2.1.1, ()), ()), ()), ((([77, 111, 100, 101] : List UInt8), ((as0.nodes, as0.parts, as0.queues, as0.users, as0.weights.age, as0.weights.size, as0.weights.qos, as0.weights.share, as0.decay, as0.mode, as0.jobs, as0.ids, as0.versions, as0.linger, as0.keep, as0.inn, as0.out, as0.cache, ()), ()), ()), ((r3.1, ((r3.2.1.1.1, ()), (r3.2.1.2.1.1, ()), (r3.2.1.2.2.1.1, ()), ()), ()), ((r4.1, ((r4.2.1.1.1, ()), (r4.2.1.2.1.1, ()), (r4.2.1.2.2.1.1, ()), ()), ()), ((r5.1, ((r5.2.1.1.1, ()), (r5.2.1.2.1.1, ()), (r5.2.1.2.2.1.1, ()), ()), ()), ((r6.1, ((r6.2.1.1.1, ()), (r6.2.1.2.1.1, ()), (r6.2.1.2.2.1.1, ()), ()), ()), ((r7.1, ((r7.2.1.1.1, ()), (r7.2.1.2.1.1, ()), (r7.2.1.2.2.1.1, ()), ()), ()), ((r8.1, ((r8.2.1.1.1, ()), (r8.2.1.2.1.1, ()), (r8.2.1.2.2.1.1, ()), ()), ()), ((r9.1, ((r9.2.1.1.1, ()), (r9.2.1.2.1.1, ()), (r9.2.1.2.2.1.1, ()), ()), ()), ((r10.1, ((r10.2.1.1.1, ()), (r10.2.1.2.1.1, ()), (r10.2.1.2.2.1.1, ()), ()), ()), ())))))))))))))))
theorem e127 (L : Lp) (g155 : (List UInt8) → Int → Int → Int → Option ((List UInt8) × (((Int × Unit) × ((Int × Unit) × ((Int × Unit) × Unit))) × Unit))) (x : s127.args.den) (h : denH s127.heap) : nrun [⟨155, s155, fun x h => g155 x.1 x.2.1 x.2.2.1 x.2.2.2.1⟩] L n127 s127 x h = F127 L g155 x.1 := by kernel_rfl
def f127 : Spec → Option (((List UInt8) × ((((List Res) × ((List (List Int)) × ((List Queue) × (Int × (Int × (Int × (Int × (Int × (Int × (Int × (Int × (Int × (Int × (Int × (Int × (Int × (Int × (Int × Unit)))))))))))))))))) × Unit) × Unit)) × (((List UInt8) × ((((List Res) × ((List (List Int)) × ((List Queue) × (Int × (Int × (Int × (Int × (Int × (Int × (Int × (Int × (Int × (Int × (Int × (Int × (Int × (Int × (Int × Unit)))))))))))))))))) × Unit) × Unit)) × (((List UInt8) × (((Int × Unit) × ((Int × Unit) × ((Int × Unit) × Unit))) × Unit)) × (((List UInt8) × ((((List Res) × ((List (List Int)) × ((List Queue) × (Int × (Int × (Int × (Int × (Int × (Int × (Int × (Int × (Int × (Int × (Int × (Int × (Int × (Int × (Int × Unit)))))))))))))))))) × Unit) × Unit)) × (((List UInt8) × ((((List Res) × ((List (List Int)) × ((List Queue) × (Int × (Int × (Int × (Int × (Int × (Int × (Int × (Int × (Int × (Int × (Int × (Int × (Int × (Int × (Int × Unit)))))))))))))))))) × Unit) × Unit)) × (((List UInt8) × (((Int × Unit) × ((Int × Unit) × ((Int × Unit) × Unit))) × Unit)) × (((List UInt8) × ((((List Res) × ((List (List Int)) × ((List Queue) × (Int × (Int × (Int × (Int × (Int × (Int × (Int × (Int × (Int × (Int × (Int × (Int × (Int × (Int × (Int × Unit)))))))))))))))))) × Unit) × Unit)) × (((List UInt8) × (((Int × Unit) × ((Int × Unit) × ((Int × Unit) × Unit))) × Unit)) × (((List UInt8) × (((Int × Unit) × ((Int × Unit) × ((Int × Unit) × Unit))) × Unit)) × (((List UInt8) × (((Int × Unit) × ((Int × Unit) × ((Int × Unit) × Unit))) × Unit)) × (((List UInt8) × (((Int × Unit) × ((Int × Unit) × ((Int × Unit) × Unit))) × Unit)) × (((List UInt8) × (((Int × Unit) × ((Int × Unit) × ((Int × Unit) × Unit))) × Unit)) × (((List UInt8) × (((Int × Unit) × ((Int × Unit) × ((Int × Unit) × Unit))) × Unit)) × (((List UInt8) × (((Int × Unit) × ((Int × Unit) × ((Int × Unit) × Unit))) × Unit)) × (((List UInt8) × (((Int × Unit) × ((Int × Unit) × ((Int × Unit) × Unit))) × Unit)) × Unit))))))))))))))) := F127 (@LN LOOPS) f155
@[reducible] def t127 : Ent := ⟨127, s127, fun x h => f127 x.1⟩
theorem k127 : chkNF Try.prog Try.f127 n127 = true := by kernel_rfl
theorem ok127 : NOk Try.prog t127 := NOk.body (T := [t155]) mixed (nall_cons ok155 nall_nil) (oneEach_of (by kernel_rfl)) Try.func127 k127 (by kernel_rfl) (fun x h => e127 _ _ x h)
/- drayage/vec.numbers -/
def n134 : NFunc := ⟨12, .seq (.region 2 [
    ⟨(some 1), .box 4 (.tmp 0), none, 0, none⟩,
    ⟨(some 2), .alloc [.int .i64 (0), .int .i64 (0), .int .i64 (0), .int .i64 (0)], none, 1, none⟩] []) (.seq (.region 0 [
    ⟨(some 3), .fieldAddr 0 (.tmp 1), none, 0, none⟩,
    ⟨(some 4), .load false 1 (.tmp 3), none, 0, none⟩,
    ⟨(some 5), .fieldAddr 1 (.tmp 1), none, 0, none⟩,
    ⟨(some 6), .load false 1 (.tmp 5), none, 0, none⟩,
    ⟨(some 7), .fieldAddr 2 (.tmp 1), none, 0, none⟩,
    ⟨(some 8), .load false 1 (.tmp 7), none, 0, none⟩,
    ⟨(some 9), .fieldAddr 3 (.tmp 1), none, 0, none⟩,
    ⟨(some 10), .load false 1 (.tmp 9), none, 0, none⟩,
    ⟨(some 11), .build [.int .i64 (0), .int .i64 (0), .int .i64 (0), .int .i64 (0)] [(0, 1, (.tmp 4)), (1, 1, (.tmp 6)), (2, 1, (.tmp 8)), (3, 1, (.tmp 10))], none, 0, none⟩,
    ⟨none, .store 4 (.tmp 2) (.tmp 11), none, 0, none⟩] []) (.ret)), [.cell true 4 2], true⟩
def s134 : Sig := ⟨(.cons (.v .res) .nil), [], ((.v (.pair (.int .i64) (.pair (.int .i64) (.pair (.int .i64) (.int .i64))))), []), []⟩
def F134 (L : Lp)  (a0 : Res) : Option (Int × (Int × (Int × Int))) :=
  some (a0.cpu, (a0.mem, (a0.gpu, a0.lic)))
theorem e134 (L : Lp)  (x : s134.args.den) (h : denH s134.heap) : nrun [] L n134 s134 x h = F134 L  x.1 := by kernel_rfl
def f134 : Res → Option (Int × (Int × (Int × Int))) := F134 (@LN LOOPS) 
@[reducible] def t134 : Ent := ⟨134, s134, fun x h => f134 x.1⟩
theorem k134 : chkNF Try.prog Try.f134 n134 = true := by kernel_rfl
theorem ok134 : NOk Try.prog t134 := NOk.body (T := []) mixed nall_nil (oneEach_of (by kernel_rfl)) Try.func134 k134 (by kernel_rfl) (fun x h => e134 _  x h)
/- drayage/vec.Right -/
def n87 : NFunc := ⟨17, .seq (.region 1 [
    ⟨(some 1), .box 4 (.tmp 0), none, 0, none⟩,
    ⟨(some 2), .move (.const (.bool false)), none, 1, none⟩] []) (.seq (.seq (.region 4 [
    ⟨(some 5), .load true 4 (.tmp 1), none, 0, none⟩,
    ⟨(some 6), .call (.func 134) [(false, (.tmp 5))] false 4, none, 0, none⟩,
    ⟨(some 7), .move (.const (.int .i64 (0))), none, 4, none⟩] []) (.block 0 (.loopU [6, 7] 5 (.seq (.region 0 [
    ⟨(some 8), .bin .lss (.tmp 7) (.const (.int .i64 (4))), none, 0, none⟩] []) (.seq (.cond (.tmp 8) (.skip) (.exit 0)) (.seq (.block 1 (.seq (.region 0 [
    ⟨(some 9), .indexVal false 4 1 (.tmp 6) (.tmp 7), none, 0, none⟩,
    ⟨(some 4), .move (.tmp 9), none, 0, none⟩] []) (.seq (.region 0 [
    ⟨(some 10), .move (.tmp 4), none, 0, none⟩,
    ⟨(some 11), .bin .lss (.tmp 10) (.const (.int .i64 (0))), none, 0, none⟩,
    ⟨(some 12), .move (.tmp 11), none, 0, none⟩,
    ⟨(some 13), .move (.tmp 4), (some (12, false)), 0, none⟩,
    ⟨(some 14), .bin .gtr (.tmp 13) (.const (.int .i64 (1048576))), (some (12, false)), 0, none⟩,
    ⟨(some 15), .pick (.tmp 12) (.const (.bool true)) (.tmp 14), none, 0, none⟩] []) (.cond (.tmp 15) (.seq (.region 0 [
    ⟨(some 2), .move (.const (.bool false)), none, 0, none⟩] []) (.ret)) (.skip))))) (.region 0 [
    ⟨(some 16), .bin .add (.tmp 7) (.const (.int .i64 (1))), none, 0, none⟩,
    ⟨(some 7), .move (.tmp 16), none, 0, none⟩] []))))))) (.seq (.region 0 [
    ⟨(some 2), .move (.const (.bool true)), none, 0, none⟩] []) (.ret))), [.tmp 2], true⟩
def s87 : Sig := ⟨(.cons (.v .res) .nil), [], ((.v .bool), []), []⟩
def F87 (L : Lp) (g134 : Res → Option (Int × (Int × (Int × Int)))) (a0 : Res) : Option Bool :=
  Option.bind (g134 a0) fun r1 =>
  cond (decide (r1.1 < 0))
    (some false)
    (cond (decide (1048576 < r1.1))
      (some false)
      (cond (decide (r1.2.1 < 0))
        (some false)
        (cond (decide (1048576 < r1.2.1))
          (some false)
          (cond (decide (r1.2.2.1 < 0))
            (some false)
            (cond (decide (1048576 < r1.2.2.1))
              (some false)
              (cond (decide (r1.2.2.2 < 0))
                (some false)
                (cond (decide (1048576 < r1.2.2.2))
                  (some false)
                  (some true))))))))
theorem e87 (L : Lp) (g134 : Res → Option (Int × (Int × (Int × Int)))) (x : s87.args.den) (h : denH s87.heap) : nrun [⟨134, s134, fun x h => g134 x.1⟩] L n87 s87 x h = F87 L g134 x.1 := by kernel_rfl
def f87 : Res → Option Bool := F87 (@LN LOOPS) f134
@[reducible] def t87 : Ent := ⟨87, s87, fun x h => f87 x.1⟩
theorem k87 : chkNF Try.prog Try.f87 n87 = true := by kernel_rfl
theorem ok87 : NOk Try.prog t87 := NOk.body (T := [t134]) mixed (nall_cons ok134 nall_nil) (oneEach_of (by kernel_rfl)) Try.func87 k87 (by kernel_rfl) (fun x h => e87 _ _ x h)
/- drayage/spec.nodesRight -/
def n152 : NFunc := ⟨26, .seq (.region 1 [
    ⟨(some 1), .box 18 (.tmp 0), none, 0, none⟩,
    ⟨(some 2), .move (.const (.bool false)), none, 1, none⟩] []) (.seq (.seq (.region 0 [
    ⟨(some 5), .fieldAddr 0 (.tmp 1), none, 0, none⟩,
    ⟨(some 6), .load false 1 (.tmp 5), none, 0, none⟩,
    ⟨(some 7), .len (.tmp 6), none, 0, none⟩,
    ⟨(some 8), .bin .lss (.tmp 7) (.const (.int .i64 (1))), none, 0, none⟩,
    ⟨(some 9), .move (.tmp 8), none, 0, none⟩,
    ⟨(some 10), .fieldAddr 0 (.tmp 1), (some (9, false)), 0, none⟩,
    ⟨(some 11), .load false 1 (.tmp 10), (some (9, false)), 0, none⟩,
    ⟨(some 12), .len (.tmp 11), (some (9, false)), 0, none⟩,
    ⟨(some 13), .bin .gtr (.tmp 12) (.const (.int .i64 (16))), (some (9, false)), 0, none⟩,
    ⟨(some 14), .pick (.tmp 9) (.const (.bool true)) (.tmp 13), none, 0, none⟩] []) (.cond (.tmp 14) (.seq (.region 0 [
    ⟨(some 2), .move (.const (.bool false)), none, 0, none⟩] []) (.ret)) (.skip))) (.seq (.seq (.region 0 [
    ⟨(some 15), .fieldAddr 0 (.tmp 1), none, 0, none⟩,
    ⟨(some 16), .load false 1 (.tmp 15), none, 0, none⟩,
    ⟨(some 17), .len (.tmp 16), none, 0, none⟩,
    ⟨(some 18), .move (.const (.int .i64 (0))), none, 0, none⟩] []) (.block 0 (.loop [16, 17, 18] ⟨[(18, (.v (.int .i64)))], [16, 17], []⟩ (.seq (.region 0 [
    ⟨(some 19), .bin .lss (.tmp 18) (.tmp 17), none, 0, none⟩] []) (.seq (.cond (.tmp 19) (.skip) (.exit 0)) (.seq (.block 1 (.seq (.region 1 [
    ⟨(some 20), .indexSl 4 (.tmp 16) (.tmp 18), none, 0, none⟩,
    ⟨(some 21), .load true 4 (.tmp 20), none, 0, none⟩,
    ⟨(some 4), .alloc [.int .i64 (0), .int .i64 (0), .int .i64 (0), .int .i64 (0)], none, 0, none⟩,
    ⟨none, .store 4 (.tmp 4) (.tmp 21), none, 1, none⟩] []) (.seq (.region 4 [
    ⟨(some 22), .load true 4 (.tmp 4), none, 0, none⟩,
    ⟨(some 23), .call (.func 87) [(false, (.tmp 22))] false 4, none, 0, none⟩,
    ⟨(some 24), .un .not (.tmp 23), none, 4, none⟩] []) (.cond (.tmp 24) (.seq (.region 0 [
    ⟨(some 2), .move (.const (.bool false)), none, 0, none⟩] []) (.ret)) (.skip))))) (.region 0 [
    ⟨(some 25), .bin .add (.tmp 18) (.const (.int .i64 (1))), none, 0, none⟩,
    ⟨(some 18), .move (.tmp 25), none, 0, none⟩] []))))))) (.seq (.region 0 [
    ⟨(some 2), .move (.const (.bool true)), none, 0, none⟩] []) (.ret)))), [.tmp 2], true⟩
def s152 : Sig := ⟨(.cons (.v .spec) .nil), [], ((.v .bool), []), []⟩
def l152_0 (g87 : Res → Option Bool) (as0 : Spec) (next : ((Int × Unit) × Unit) → Option Bool) (z2 : Int) : Option Bool :=
  cond (decide (z2 < (List.length as0.nodes : Int)))
    (cond (decide (0 ≤ z2))
      (Option.bind (as0.nodes[Int.toNat z2]?) fun y3 =>
      Option.bind (g87 y3) fun r4 =>
      cond (!r4)
        (some false)
        (next ((IntKind.wrap .i64 (z2 + 1), ()), ())))
      (none))
    (some true)
def F152 (L : Lp) (g87 : Res → Option Bool) (as0 : Spec) : Option Bool :=
  cond (decide ((List.length as0.nodes : Int) < 1))
    (some false)
    (cond (decide (16 < (List.length as0.nodes : Int)))
      (some false)
      (L (fun (s1 : ((Int × Unit) × Unit)) next => l152_0 g87 as0 next s1.1.1) ((0, ()), ())))
theorem e152 (L : Lp) (g87 : Res → Option Bool) (x : s152.args.den) (h : denH s152.heap) : nrun [⟨87, s87, fun x h => g87 x.1⟩] L n152 s152 x h = F152 L g87 x.1 := by kernel_rfl
def f152 : Spec → Option Bool := F152 (@LN LOOPS) f87
@[reducible] def t152 : Ent := ⟨152, s152, fun x h => f152 x.1⟩
theorem k152 : chkNF Try.prog Try.f152 n152 = true := by kernel_rfl
theorem ok152 : NOk Try.prog t152 := NOk.body (T := [t87]) mixed (nall_cons ok87 nall_nil) (oneEach_of (by kernel_rfl)) Try.func152 k152 (by kernel_rfl) (fun x h => e152 _ _ x h)
/- drayage/spec.rules$1 -/
def n151 : NFunc := ⟨4, .seq (.region 0 [
    ⟨(some 1), .move (.const (.bool false)), none, 0, none⟩] []) (.seq (.region 4 [
    ⟨(some 2), .load true 18 (.tmp 0), none, 0, none⟩,
    ⟨(some 3), .call (.func 152) [(false, (.tmp 2))] false 4, none, 0, none⟩,
    ⟨(some 1), .move (.tmp 3), none, 4, none⟩] []) (.ret)), [.tmp 1], true⟩
def s151 : Sig := ⟨(.cons (.iptr (.cons (.v (.list .res)) (.cons (.v (.list (.list (.int .i64)))) (.cons (.v (.list .queue)) (.cons (.v (.int .i64)) (.cons (.v (.int .i64)) (.cons (.v (.int .i64)) (.cons (.v (.int .i64)) (.cons (.v (.int .i64)) (.cons (.v (.int .i64)) (.cons (.v (.int .i64)) (.cons (.v (.int .i64)) (.cons (.v (.int .i64)) (.cons (.v (.int .i64)) (.cons (.v (.int .i64)) (.cons (.v (.int .i64)) (.cons (.v (.int .i64)) (.cons (.v (.int .i64)) (.cons (.v (.int .i64)) .nil)))))))))))))))))) 0) .nil), [], ((.v .bool), []), []⟩
def F151 (L : Lp) (g152 : Spec → Option Bool) (a0 : (List Res)) (a1 : (List (List Int))) (a2 : (List Queue)) (a3 : Int) (a4 : Int) (a5 : Int) (a6 : Int) (a7 : Int) (a8 : Int) (a9 : Int) (a10 : Int) (a11 : Int) (a12 : Int) (a13 : Int) (a14 : Int) (a15 : Int) (a16 : Int) (a17 : Int) : Option Bool :=
  Option.bind (g152 (Spec.mk a0 a1 a2 a3 (Weights.mk a4 a5 a6 a7) a8 a9 a10 a11 a12 a13 a14 a15 a16 a17)) fun r18 =>
  some r18
theorem e151 (L : Lp) (g152 : Spec → Option Bool) (x : s151.args.den) (h : denH s151.heap) : nrun [⟨152, s152, fun x h => g152 x.1⟩] L n151 s151 x h = F151 L g152 x.1.1 x.1.2.1 x.1.2.2.1 x.1.2.2.2.1 x.1.2.2.2.2.1 x.1.2.2.2.2.2.1 x.1.2.2.2.2.2.2.1 x.1.2.2.2.2.2.2.2.1 x.1.2.2.2.2.2.2.2.2.1 x.1.2.2.2.2.2.2.2.2.2.1 x.1.2.2.2.2.2.2.2.2.2.2.1 x.1.2.2.2.2.2.2.2.2.2.2.2.1 x.1.2.2.2.2.2.2.2.2.2.2.2.2.1 x.1.2.2.2.2.2.2.2.2.2.2.2.2.2.1 x.1.2.2.2.2.2.2.2.2.2.2.2.2.2.2.1 x.1.2.2.2.2.2.2.2.2.2.2.2.2.2.2.2.1 x.1.2.2.2.2.2.2.2.2.2.2.2.2.2.2.2.2.1 x.1.2.2.2.2.2.2.2.2.2.2.2.2.2.2.2.2.2.1 := by kernel_rfl
def f151 : (List Res) → (List (List Int)) → (List Queue) → Int → Int → Int → Int → Int → Int → Int → Int → Int → Int → Int → Int → Int → Int → Int → Option Bool := F151 (@LN LOOPS) f152
@[reducible] def t151 : Ent := ⟨151, s151, fun x h => f151 x.1.1 x.1.2.1 x.1.2.2.1 x.1.2.2.2.1 x.1.2.2.2.2.1 x.1.2.2.2.2.2.1 x.1.2.2.2.2.2.2.1 x.1.2.2.2.2.2.2.2.1 x.1.2.2.2.2.2.2.2.2.1 x.1.2.2.2.2.2.2.2.2.2.1 x.1.2.2.2.2.2.2.2.2.2.2.1 x.1.2.2.2.2.2.2.2.2.2.2.2.1 x.1.2.2.2.2.2.2.2.2.2.2.2.2.1 x.1.2.2.2.2.2.2.2.2.2.2.2.2.2.1 x.1.2.2.2.2.2.2.2.2.2.2.2.2.2.2.1 x.1.2.2.2.2.2.2.2.2.2.2.2.2.2.2.2.1 x.1.2.2.2.2.2.2.2.2.2.2.2.2.2.2.2.2.1 x.1.2.2.2.2.2.2.2.2.2.2.2.2.2.2.2.2.2.1⟩
theorem k151 : chkNF Try.prog Try.f151 n151 = true := by kernel_rfl
theorem ok151 : NOk Try.prog t151 := NOk.body (T := [t152]) mixed (nall_cons ok152 nall_nil) (oneEach_of (by kernel_rfl)) Try.func151 k151 (by kernel_rfl) (fun x h => e151 _ _ x h)
/- drayage/spec.ascending -/
def n166 : NFunc := ⟨24, .seq (.region 0 [
    ⟨(some 4), .move (.const (.bool false)), none, 0, none⟩] []) (.seq (.region 0 [
    ⟨(some 5), .move (.const (.int .i64 (-1))), none, 0, none⟩] []) (.seq (.seq (.region 0 [
    ⟨(some 8), .move (.tmp 0), none, 0, none⟩,
    ⟨(some 9), .len (.tmp 8), none, 0, none⟩,
    ⟨(some 10), .move (.const (.int .i64 (0))), none, 0, none⟩] []) (.block 0 (.loop [1, 5, 8, 9, 10] ⟨[(5, (.v (.int .i64))), (10, (.v (.int .i64)))], [1, 8, 9], []⟩ (.seq (.region 0 [
    ⟨(some 11), .bin .lss (.tmp 10) (.tmp 9), none, 0, none⟩] []) (.seq (.cond (.tmp 11) (.skip) (.exit 0)) (.seq (.block 1 (.seq (.region 0 [
    ⟨(some 12), .indexSl 1 (.tmp 8) (.tmp 10), none, 0, none⟩,
    ⟨(some 13), .load false 1 (.tmp 12), none, 0, none⟩,
    ⟨(some 7), .move (.tmp 13), none, 0, none⟩] []) (.seq (.seq (.region 0 [
    ⟨(some 14), .move (.tmp 7), none, 0, none⟩,
    ⟨(some 15), .move (.tmp 5), none, 0, none⟩,
    ⟨(some 16), .bin .leq (.tmp 14) (.tmp 15), none, 0, none⟩,
    ⟨(some 17), .move (.tmp 16), none, 0, none⟩,
    ⟨(some 18), .move (.tmp 7), (some (17, false)), 0, none⟩,
    ⟨(some 19), .move (.tmp 1), (some (17, false)), 0, none⟩,
    ⟨(some 20), .bin .geq (.tmp 18) (.tmp 19), (some (17, false)), 0, none⟩,
    ⟨(some 21), .pick (.tmp 17) (.const (.bool true)) (.tmp 20), none, 0, none⟩] []) (.cond (.tmp 21) (.seq (.region 0 [
    ⟨(some 4), .move (.const (.bool false)), none, 0, none⟩] []) (.ret)) (.skip))) (.region 0 [
    ⟨(some 22), .move (.tmp 7), none, 0, none⟩,
    ⟨(some 5), .move (.tmp 22), none, 0, none⟩] [])))) (.region 0 [
    ⟨(some 23), .bin .add (.tmp 10) (.const (.int .i64 (1))), none, 0, none⟩,
    ⟨(some 10), .move (.tmp 23), none, 0, none⟩] []))))))) (.seq (.region 0 [
    ⟨(some 4), .move (.const (.bool true)), none, 0, none⟩] []) (.ret)))), [.tmp 4], true⟩
def s166 : Sig := ⟨(.cons (.v (.list (.int .i64))) (.cons (.v (.int .i64)) .nil)), [], ((.v .bool), []), []⟩
def l166_0 (al0 : (List Int)) (end1 : Int) (next : ((Int × (Int × Unit)) × Unit) → Option Bool) (last3 : Int) (z4 : Int) : Option Bool :=
  cond (decide (z4 < (List.length al0 : Int)))
    (cond (decide (0 ≤ z4))
      (Option.bind (al0[Int.toNat z4]?) fun y5 =>
      cond (decide (y5 ≤ last3))
        (some false)
        (cond (decide (end1 ≤ y5))
          (some false)
          (next ((y5, IntKind.wrap .i64 (z4 + 1), ()), ()))))
      (none))
    (some true)
def F166 (L : Lp)  (al0 : (List Int)) (end1 : Int) : Option Bool :=
  L (fun (s2 : ((Int × (Int × Unit)) × Unit)) next => l166_0 al0 end1 next s2.1.1 s2.1.2.1) (((-1), 0, ()), ())
theorem e166 (L : Lp)  (x : s166.args.den) (h : denH s166.heap) : nrun [] L n166 s166 x h = F166 L  x.1 x.2.1 := by kernel_rfl
def f166 : (List Int) → Int → Option Bool := F166 (@LN LOOPS) 
@[reducible] def t166 : Ent := ⟨166, s166, fun x h => f166 x.1 x.2.1⟩
theorem k166 : chkNF Try.prog Try.f166 n166 = true := by kernel_rfl
theorem ok166 : NOk Try.prog t166 := NOk.body (T := []) mixed nall_nil (oneEach_of (by kernel_rfl)) Try.func166 k166 (by kernel_rfl) (fun x h => e166 _  x h)
/- drayage/spec.partsRight -/
def n154 : NFunc := ⟨34, .seq (.region 1 [
    ⟨(some 1), .box 18 (.tmp 0), none, 0, none⟩,
    ⟨(some 2), .move (.const (.bool false)), none, 1, none⟩] []) (.seq (.seq (.region 0 [
    ⟨(some 5), .fieldAddr 1 (.tmp 1), none, 0, none⟩,
    ⟨(some 6), .load false 1 (.tmp 5), none, 0, none⟩,
    ⟨(some 7), .len (.tmp 6), none, 0, none⟩,
    ⟨(some 8), .bin .lss (.tmp 7) (.const (.int .i64 (1))), none, 0, none⟩,
    ⟨(some 9), .move (.tmp 8), none, 0, none⟩,
    ⟨(some 10), .fieldAddr 1 (.tmp 1), (some (9, false)), 0, none⟩,
    ⟨(some 11), .load false 1 (.tmp 10), (some (9, false)), 0, none⟩,
    ⟨(some 12), .len (.tmp 11), (some (9, false)), 0, none⟩,
    ⟨(some 13), .bin .gtr (.tmp 12) (.const (.int .i64 (8))), (some (9, false)), 0, none⟩,
    ⟨(some 14), .pick (.tmp 9) (.const (.bool true)) (.tmp 13), none, 0, none⟩] []) (.cond (.tmp 14) (.seq (.region 0 [
    ⟨(some 2), .move (.const (.bool false)), none, 0, none⟩] []) (.ret)) (.skip))) (.seq (.seq (.region 0 [
    ⟨(some 15), .fieldAddr 1 (.tmp 1), none, 0, none⟩,
    ⟨(some 16), .load false 1 (.tmp 15), none, 0, none⟩,
    ⟨(some 17), .len (.tmp 16), none, 0, none⟩,
    ⟨(some 18), .move (.const (.int .i64 (0))), none, 0, none⟩] []) (.block 0 (.loop [1, 16, 17, 18] ⟨[(1, (.ptr 0 0 0)), (18, (.v (.int .i64)))], [16, 17], [.one false .spec]⟩ (.seq (.region 0 [
    ⟨(some 19), .bin .lss (.tmp 18) (.tmp 17), none, 0, none⟩] []) (.seq (.cond (.tmp 19) (.skip) (.exit 0)) (.seq (.block 1 (.seq (.region 0 [
    ⟨(some 20), .indexSl 1 (.tmp 16) (.tmp 18), none, 0, none⟩,
    ⟨(some 21), .load false 1 (.tmp 20), none, 0, none⟩,
    ⟨(some 4), .move (.tmp 21), none, 0, none⟩] []) (.seq (.region 4 [
    ⟨(some 22), .move (.tmp 4), none, 0, none⟩,
    ⟨(some 23), .len (.tmp 22), none, 0, none⟩,
    ⟨(some 24), .bin .lss (.tmp 23) (.const (.int .i64 (1))), none, 0, none⟩,
    ⟨(some 25), .move (.tmp 24), none, 0, none⟩,
    ⟨(some 26), .move (.tmp 4), (some (25, false)), 0, none⟩,
    ⟨(some 27), .fieldAddr 0 (.tmp 1), (some (25, false)), 0, none⟩,
    ⟨(some 28), .load false 1 (.tmp 27), (some (25, false)), 0, none⟩,
    ⟨(some 29), .len (.tmp 28), (some (25, false)), 0, none⟩,
    ⟨(some 30), .call (.func 166) [(false, (.tmp 26)), (false, (.tmp 29))] false 4, (some (25, false)), 0, none⟩,
    ⟨(some 31), .un .not (.tmp 30), (some (25, false)), 4, none⟩,
    ⟨(some 32), .pick (.tmp 25) (.const (.bool true)) (.tmp 31), none, 4, none⟩] []) (.cond (.tmp 32) (.seq (.region 0 [
    ⟨(some 2), .move (.const (.bool false)), none, 0, none⟩] []) (.ret)) (.skip))))) (.region 0 [
    ⟨(some 33), .bin .add (.tmp 18) (.const (.int .i64 (1))), none, 0, none⟩,
    ⟨(some 18), .move (.tmp 33), none, 0, none⟩] []))))))) (.seq (.region 0 [
    ⟨(some 2), .move (.const (.bool true)), none, 0, none⟩] []) (.ret)))), [.tmp 2], true⟩
def s154 : Sig := ⟨(.cons (.v .spec) .nil), [], ((.v .bool), []), []⟩
def l154_0 (g166 : (List Int) → Int → Option Bool) (as0 : Spec) (next : ((Unit × (Int × Unit)) × (Spec × Unit)) → Option Bool) (z2 : Int) (z3 : Spec) : Option Bool :=
  cond (decide (z2 < (List.length as0.parts : Int)))
    (cond (decide (0 ≤ z2))
      (Option.bind (as0.parts[Int.toNat z2]?) fun y4 =>
      cond (decide ((List.length y4 : Int) < 1))
        (some false)
        (Option.bind (g166 y4 (List.length z3.nodes : Int)) fun r5 =>
        cond (!r5)
          (some false)
          (next (((), IntKind.wrap .i64 (z2 + 1), ()), (z3, ())))))
      (none))
    (some true)
def F154 (L : Lp) (g166 : (List Int) → Int → Option Bool) (as0 : Spec) : Option Bool :=
  cond (decide ((List.length as0.parts : Int) < 1))
    (some false)
    (cond (decide (8 < (List.length as0.parts : Int)))
      (some false)
      (L (fun (s1 : ((Unit × (Int × Unit)) × (Spec × Unit))) next => l154_0 g166 as0 next s1.1.2.1 s1.2.1) (((), 0, ()), (as0, ()))))
theorem e154 (L : Lp) (g166 : (List Int) → Int → Option Bool) (x : s154.args.den) (h : denH s154.heap) : nrun [⟨166, s166, fun x h => g166 x.1 x.2.1⟩] L n154 s154 x h = F154 L g166 x.1 := by kernel_rfl
def f154 : Spec → Option Bool := F154 (@LN LOOPS) f166
@[reducible] def t154 : Ent := ⟨154, s154, fun x h => f154 x.1⟩
theorem k154 : chkNF Try.prog Try.f154 n154 = true := by kernel_rfl
theorem ok154 : NOk Try.prog t154 := NOk.body (T := [t166]) mixed (nall_cons ok166 nall_nil) (oneEach_of (by kernel_rfl)) Try.func154 k154 (by kernel_rfl) (fun x h => e154 _ _ x h)
/- drayage/spec.rules$2 -/
def n153 : NFunc := ⟨4, .seq (.region 0 [
    ⟨(some 1), .move (.const (.bool false)), none, 0, none⟩] []) (.seq (.region 4 [
    ⟨(some 2), .load true 18 (.tmp 0), none, 0, none⟩,
    ⟨(some 3), .call (.func 154) [(false, (.tmp 2))] false 4, none, 0, none⟩,
    ⟨(some 1), .move (.tmp 3), none, 4, none⟩] []) (.ret)), [.tmp 1], true⟩
def s153 : Sig := ⟨(.cons (.iptr (.cons (.v (.list .res)) (.cons (.v (.list (.list (.int .i64)))) (.cons (.v (.list .queue)) (.cons (.v (.int .i64)) (.cons (.v (.int .i64)) (.cons (.v (.int .i64)) (.cons (.v (.int .i64)) (.cons (.v (.int .i64)) (.cons (.v (.int .i64)) (.cons (.v (.int .i64)) (.cons (.v (.int .i64)) (.cons (.v (.int .i64)) (.cons (.v (.int .i64)) (.cons (.v (.int .i64)) (.cons (.v (.int .i64)) (.cons (.v (.int .i64)) (.cons (.v (.int .i64)) (.cons (.v (.int .i64)) .nil)))))))))))))))))) 0) .nil), [], ((.v .bool), []), []⟩
def F153 (L : Lp) (g154 : Spec → Option Bool) (a0 : (List Res)) (a1 : (List (List Int))) (a2 : (List Queue)) (a3 : Int) (a4 : Int) (a5 : Int) (a6 : Int) (a7 : Int) (a8 : Int) (a9 : Int) (a10 : Int) (a11 : Int) (a12 : Int) (a13 : Int) (a14 : Int) (a15 : Int) (a16 : Int) (a17 : Int) : Option Bool :=
  Option.bind (g154 (Spec.mk a0 a1 a2 a3 (Weights.mk a4 a5 a6 a7) a8 a9 a10 a11 a12 a13 a14 a15 a16 a17)) fun r18 =>
  some r18
theorem e153 (L : Lp) (g154 : Spec → Option Bool) (x : s153.args.den) (h : denH s153.heap) : nrun [⟨154, s154, fun x h => g154 x.1⟩] L n153 s153 x h = F153 L g154 x.1.1 x.1.2.1 x.1.2.2.1 x.1.2.2.2.1 x.1.2.2.2.2.1 x.1.2.2.2.2.2.1 x.1.2.2.2.2.2.2.1 x.1.2.2.2.2.2.2.2.1 x.1.2.2.2.2.2.2.2.2.1 x.1.2.2.2.2.2.2.2.2.2.1 x.1.2.2.2.2.2.2.2.2.2.2.1 x.1.2.2.2.2.2.2.2.2.2.2.2.1 x.1.2.2.2.2.2.2.2.2.2.2.2.2.1 x.1.2.2.2.2.2.2.2.2.2.2.2.2.2.1 x.1.2.2.2.2.2.2.2.2.2.2.2.2.2.2.1 x.1.2.2.2.2.2.2.2.2.2.2.2.2.2.2.2.1 x.1.2.2.2.2.2.2.2.2.2.2.2.2.2.2.2.2.1 x.1.2.2.2.2.2.2.2.2.2.2.2.2.2.2.2.2.2.1 := by kernel_rfl
def f153 : (List Res) → (List (List Int)) → (List Queue) → Int → Int → Int → Int → Int → Int → Int → Int → Int → Int → Int → Int → Int → Int → Int → Option Bool := F153 (@LN LOOPS) f154
@[reducible] def t153 : Ent := ⟨153, s153, fun x h => f153 x.1.1 x.1.2.1 x.1.2.2.1 x.1.2.2.2.1 x.1.2.2.2.2.1 x.1.2.2.2.2.2.1 x.1.2.2.2.2.2.2.1 x.1.2.2.2.2.2.2.2.1 x.1.2.2.2.2.2.2.2.2.1 x.1.2.2.2.2.2.2.2.2.2.1 x.1.2.2.2.2.2.2.2.2.2.2.1 x.1.2.2.2.2.2.2.2.2.2.2.2.1 x.1.2.2.2.2.2.2.2.2.2.2.2.2.1 x.1.2.2.2.2.2.2.2.2.2.2.2.2.2.1 x.1.2.2.2.2.2.2.2.2.2.2.2.2.2.2.1 x.1.2.2.2.2.2.2.2.2.2.2.2.2.2.2.2.1 x.1.2.2.2.2.2.2.2.2.2.2.2.2.2.2.2.2.1 x.1.2.2.2.2.2.2.2.2.2.2.2.2.2.2.2.2.2.1⟩
theorem k153 : chkNF Try.prog Try.f153 n153 = true := by kernel_rfl
theorem ok153 : NOk Try.prog t153 := NOk.body (T := [t154]) mixed (nall_cons ok154 nall_nil) (oneEach_of (by kernel_rfl)) Try.func153 k153 (by kernel_rfl) (fun x h => e153 _ _ x h)
/- drayage/spec.within$1 -/
def n167 : NFunc := ⟨12, .seq (.region 0 [
    ⟨(some 3), .move (.const (.bool false)), none, 0, none⟩] []) (.seq (.region 0 [
    ⟨(some 4), .load false 1 (.tmp 0), none, 0, none⟩,
    ⟨(some 5), .load false 1 (.tmp 1), none, 0, none⟩,
    ⟨(some 6), .bin .leq (.tmp 4) (.tmp 5), none, 0, none⟩,
    ⟨(some 7), .move (.tmp 6), none, 0, none⟩,
    ⟨(some 8), .load false 1 (.tmp 1), (some (7, true)), 0, none⟩,
    ⟨(some 9), .load false 1 (.tmp 2), (some (7, true)), 0, none⟩,
    ⟨(some 10), .bin .leq (.tmp 8) (.tmp 9), (some (7, true)), 0, none⟩,
    ⟨(some 11), .pick (.tmp 7) (.tmp 10) (.const (.bool false)), none, 0, none⟩,
    ⟨(some 3), .move (.tmp 11), none, 0, none⟩] []) (.ret)), [.tmp 3], true⟩
def s167 : Sig := ⟨(.cons (.iptr (.cons (.v (.int .i64)) .nil) 0) (.cons (.iptr (.cons (.v (.int .i64)) .nil) 0) (.cons (.iptr (.cons (.v (.int .i64)) .nil) 0) .nil))), [], ((.v .bool), []), []⟩
def F167 (L : Lp)  (a0 : Int) (a1 : Int) (a2 : Int) : Option Bool :=
  cond (decide (a0 ≤ a1))
    (some (decide (a1 ≤ a2)))
    (some false)
theorem e167 (L : Lp)  (x : s167.args.den) (h : denH s167.heap) : nrun [] L n167 s167 x h = F167 L  x.1.1 x.2.1.1 x.2.2.1.1 := by kernel_rfl
def f167 : Int → Int → Int → Option Bool := F167 (@LN LOOPS) 
@[reducible] def t167 : Ent := ⟨167, s167, fun x h => f167 x.1.1 x.2.1.1 x.2.2.1.1⟩
theorem k167 : chkNF Try.prog Try.f167 n167 = true := by kernel_rfl
theorem ok167 : NOk Try.prog t167 := NOk.body (T := []) mixed nall_nil (oneEach_of (by kernel_rfl)) Try.func167 k167 (by kernel_rfl) (fun x h => e167 _  x h)
/- drayage/spec.queuesRight -/
def n157 : NFunc := ⟨69, .seq (.region 1 [
    ⟨(some 1), .box 18 (.tmp 0), none, 0, none⟩,
    ⟨(some 2), .move (.const (.bool false)), none, 1, none⟩] []) (.seq (.seq (.region 0 [
    ⟨(some 7), .fieldAddr 2 (.tmp 1), none, 0, none⟩,
    ⟨(some 8), .load false 1 (.tmp 7), none, 0, none⟩,
    ⟨(some 9), .len (.tmp 8), none, 0, none⟩,
    ⟨(some 10), .bin .lss (.tmp 9) (.const (.int .i64 (1))), none, 0, none⟩,
    ⟨(some 11), .move (.tmp 10), none, 0, none⟩,
    ⟨(some 12), .fieldAddr 2 (.tmp 1), (some (11, false)), 0, none⟩,
    ⟨(some 13), .load false 1 (.tmp 12), (some (11, false)), 0, none⟩,
    ⟨(some 14), .len (.tmp 13), (some (11, false)), 0, none⟩,
    ⟨(some 15), .bin .gtr (.tmp 14) (.const (.int .i64 (8))), (some (11, false)), 0, none⟩,
    ⟨(some 16), .pick (.tmp 11) (.const (.bool true)) (.tmp 15), none, 0, none⟩] []) (.cond (.tmp 16) (.seq (.region 0 [
    ⟨(some 2), .move (.const (.bool false)), none, 0, none⟩] []) (.ret)) (.skip))) (.seq (.seq (.region 0 [
    ⟨(some 17), .fieldAddr 2 (.tmp 1), none, 0, none⟩,
    ⟨(some 18), .load false 1 (.tmp 17), none, 0, none⟩,
    ⟨(some 19), .len (.tmp 18), none, 0, none⟩,
    ⟨(some 20), .move (.const (.int .i64 (0))), none, 0, none⟩] []) (.block 0 (.loop [1, 18, 19, 20] ⟨[(1, (.ptr 0 0 0)), (20, (.v (.int .i64)))], [18, 19], [.one false .spec]⟩ (.seq (.region 0 [
    ⟨(some 21), .bin .lss (.tmp 20) (.tmp 19), none, 0, none⟩] []) (.seq (.cond (.tmp 21) (.skip) (.exit 0)) (.seq (.block 1 (.seq (.region 1 [
    ⟨(some 22), .indexSl 6 (.tmp 18) (.tmp 20), none, 0, none⟩,
    ⟨(some 23), .load true 6 (.tmp 22), none, 0, none⟩,
    ⟨(some 4), .alloc [.int .i64 (0), .zsl, .int .i64 (0), .int .i64 (0), .int .i64 (0), .int .i64 (0)], none, 0, none⟩,
    ⟨none, .store 6 (.tmp 4) (.tmp 23), none, 1, none⟩] []) (.seq (.seq (.region 4 [
    ⟨(some 24), .fieldAddr 0 (.tmp 4), none, 0, none⟩,
    ⟨(some 25), .load false 1 (.tmp 24), none, 0, none⟩,
    ⟨(some 26), .bin .lss (.tmp 25) (.const (.int .i64 (0))), none, 0, none⟩,
    ⟨(some 27), .move (.tmp 26), none, 0, none⟩,
    ⟨(some 28), .fieldAddr 0 (.tmp 4), (some (27, false)), 0, none⟩,
    ⟨(some 29), .load false 1 (.tmp 28), (some (27, false)), 0, none⟩,
    ⟨(some 30), .fieldAddr 1 (.tmp 1), (some (27, false)), 0, none⟩,
    ⟨(some 31), .load false 1 (.tmp 30), (some (27, false)), 0, none⟩,
    ⟨(some 32), .len (.tmp 31), (some (27, false)), 0, none⟩,
    ⟨(some 33), .bin .geq (.tmp 29) (.tmp 32), (some (27, false)), 0, none⟩,
    ⟨(some 34), .pick (.tmp 27) (.const (.bool true)) (.tmp 33), none, 0, none⟩,
    ⟨(some 35), .move (.tmp 34), none, 0, none⟩,
    ⟨(some 36), .fieldAddr 1 (.tmp 4), (some (35, false)), 0, none⟩,
    ⟨(some 37), .load false 1 (.tmp 36), (some (35, false)), 0, none⟩,
    ⟨(some 38), .fieldAddr 3 (.tmp 1), (some (35, false)), 0, none⟩,
    ⟨(some 39), .load false 1 (.tmp 38), (some (35, false)), 0, none⟩,
    ⟨(some 40), .call (.func 166) [(false, (.tmp 37)), (false, (.tmp 39))] false 4, (some (35, false)), 0, none⟩,
    ⟨(some 41), .un .not (.tmp 40), (some (35, false)), 4, none⟩,
    ⟨(some 42), .pick (.tmp 35) (.const (.bool true)) (.tmp 41), none, 4, none⟩] []) (.cond (.tmp 42) (.seq (.region 0 [
    ⟨(some 2), .move (.const (.bool false)), none, 0, none⟩] []) (.ret)) (.skip))) (.seq (.seq (.region 0 [
    ⟨(some 43), .fieldAddr 2 (.tmp 4), none, 0, none⟩,
    ⟨(some 44), .load false 1 (.tmp 43), none, 0, none⟩,
    ⟨(some 45), .fieldAddr 3 (.tmp 4), none, 0, none⟩,
    ⟨(some 46), .load false 1 (.tmp 45), none, 0, none⟩,
    ⟨(some 47), .fieldAddr 4 (.tmp 4), none, 0, none⟩,
    ⟨(some 48), .load false 1 (.tmp 47), none, 0, none⟩,
    ⟨(some 49), .build [.int .i64 (0), .int .i64 (0), .int .i64 (0)] [(0, 1, (.tmp 44)), (1, 1, (.tmp 46)), (2, 1, (.tmp 48))], none, 0, none⟩,
    ⟨(some 50), .move (.const (.int .i64 (0))), none, 0, none⟩] []) (.block 2 (.loopU [1, 4, 18, 19, 20, 49, 50] 4 (.seq (.region 0 [
    ⟨(some 51), .bin .lss (.tmp 50) (.const (.int .i64 (3))), none, 0, none⟩] []) (.seq (.cond (.tmp 51) (.skip) (.exit 2)) (.seq (.block 3 (.seq (.region 0 [
    ⟨(some 52), .indexVal false 3 1 (.tmp 49) (.tmp 50), none, 0, none⟩,
    ⟨(some 6), .move (.tmp 52), none, 0, none⟩] []) (.seq (.region 0 [
    ⟨(some 53), .move (.tmp 6), none, 0, none⟩,
    ⟨(some 54), .bin .lss (.tmp 53) (.const (.int .i64 (1))), none, 0, none⟩,
    ⟨(some 55), .move (.tmp 54), none, 0, none⟩,
    ⟨(some 56), .move (.tmp 6), (some (55, false)), 0, none⟩,
    ⟨(some 57), .bin .gtr (.tmp 56) (.const (.int .i64 (256))), (some (55, false)), 0, none⟩,
    ⟨(some 58), .pick (.tmp 55) (.const (.bool true)) (.tmp 57), none, 0, none⟩] []) (.cond (.tmp 58) (.seq (.region 0 [
    ⟨(some 2), .move (.const (.bool false)), none, 0, none⟩] []) (.ret)) (.skip))))) (.region 0 [
    ⟨(some 59), .bin .add (.tmp 50) (.const (.int .i64 (1))), none, 0, none⟩,
    ⟨(some 50), .move (.tmp 59), none, 0, none⟩] []))))))) (.seq (.region 0 [
    ⟨(some 60), .fieldAddr 5 (.tmp 4), none, 0, none⟩,
    ⟨(some 61), .load false 1 (.tmp 60), none, 0, none⟩,
    ⟨(some 62), .bin .lss (.tmp 61) (.const (.int .i64 (0))), none, 0, none⟩,
    ⟨(some 63), .move (.tmp 62), none, 0, none⟩,
    ⟨(some 64), .fieldAddr 5 (.tmp 4), (some (63, false)), 0, none⟩,
    ⟨(some 65), .load false 1 (.tmp 64), (some (63, false)), 0, none⟩,
    ⟨(some 66), .bin .gtr (.tmp 65) (.const (.int .i64 (100))), (some (63, false)), 0, none⟩,
    ⟨(some 67), .pick (.tmp 63) (.const (.bool true)) (.tmp 66), none, 0, none⟩] []) (.cond (.tmp 67) (.seq (.region 0 [
    ⟨(some 2), .move (.const (.bool false)), none, 0, none⟩] []) (.ret)) (.skip))))))) (.region 0 [
    ⟨(some 68), .bin .add (.tmp 20) (.const (.int .i64 (1))), none, 0, none⟩,
    ⟨(some 20), .move (.tmp 68), none, 0, none⟩] []))))))) (.seq (.region 0 [
    ⟨(some 2), .move (.const (.bool true)), none, 0, none⟩] []) (.ret)))), [.tmp 2], true⟩
def s157 : Sig := ⟨(.cons (.v .spec) .nil), [], ((.v .bool), []), []⟩
def l157_0 (g166 : (List Int) → Int → Option Bool) (as0 : Spec) (next : ((Unit × (Int × Unit)) × (Spec × Unit)) → Option Bool) (z2 : Int) (z3 : Spec) : Option Bool :=
  cond (decide (z2 < (List.length as0.queues : Int)))
    (cond (decide (0 ≤ z2))
      (Option.bind (as0.queues[Int.toNat z2]?) fun y4 =>
      cond (decide (y4.part < 0))
        (some false)
        (cond (decide ((List.length z3.parts : Int) ≤ y4.part))
          (some false)
          (Option.bind (g166 y4.users z3.users) fun r5 =>
          cond (!r5)
            (some false)
            (cond (decide (y4.maxJobs < 1))
              (some false)
              (cond (decide (256 < y4.maxJobs))
                (some false)
                (cond (decide (y4.maxRun < 1))
                  (some false)
                  (cond (decide (256 < y4.maxRun))
                    (some false)
                    (cond (decide (y4.maxUser < 1))
                      (some false)
                      (cond (decide (256 < y4.maxUser))
                        (some false)
                        (cond (decide (y4.qos < 0))
                          (some false)
                          (cond (decide (100 < y4.qos))
                            (some false)
                            (next (((), IntKind.wrap .i64 (z2 + 1), ()), (z3, ()))))))))))))))
      (none))
    (some true)
def F157 (L : Lp) (g166 : (List Int) → Int → Option Bool) (as0 : Spec) : Option Bool :=
  cond (decide ((List.length as0.queues : Int) < 1))
    (some false)
    (cond (decide (8 < (List.length as0.queues : Int)))
      (some false)
      (L (fun (s1 : ((Unit × (Int × Unit)) × (Spec × Unit))) next => l157_0 g166 as0 next s1.1.2.1 s1.2.1) (((), 0, ()), (as0, ()))))
theorem e157 (L : Lp) (g166 : (List Int) → Int → Option Bool) (x : s157.args.den) (h : denH s157.heap) : nrun [⟨166, s166, fun x h => g166 x.1 x.2.1⟩] L n157 s157 x h = F157 L g166 x.1 := by kernel_rfl
def f157 : Spec → Option Bool := F157 (@LN LOOPS) f166
@[reducible] def t157 : Ent := ⟨157, s157, fun x h => f157 x.1⟩
theorem k157 : chkNF Try.prog Try.f157 n157 = true := by kernel_rfl
theorem ok157 : NOk Try.prog t157 := NOk.body (T := [t166]) mixed (nall_cons ok166 nall_nil) (oneEach_of (by kernel_rfl)) Try.func157 k157 (by kernel_rfl) (fun x h => e157 _ _ x h)
/- drayage/spec.rules$3 -/
def n156 : NFunc := ⟨4, .seq (.region 0 [
    ⟨(some 1), .move (.const (.bool false)), none, 0, none⟩] []) (.seq (.region 4 [
    ⟨(some 2), .load true 18 (.tmp 0), none, 0, none⟩,
    ⟨(some 3), .call (.func 157) [(false, (.tmp 2))] false 4, none, 0, none⟩,
    ⟨(some 1), .move (.tmp 3), none, 4, none⟩] []) (.ret)), [.tmp 1], true⟩
def s156 : Sig := ⟨(.cons (.iptr (.cons (.v (.list .res)) (.cons (.v (.list (.list (.int .i64)))) (.cons (.v (.list .queue)) (.cons (.v (.int .i64)) (.cons (.v (.int .i64)) (.cons (.v (.int .i64)) (.cons (.v (.int .i64)) (.cons (.v (.int .i64)) (.cons (.v (.int .i64)) (.cons (.v (.int .i64)) (.cons (.v (.int .i64)) (.cons (.v (.int .i64)) (.cons (.v (.int .i64)) (.cons (.v (.int .i64)) (.cons (.v (.int .i64)) (.cons (.v (.int .i64)) (.cons (.v (.int .i64)) (.cons (.v (.int .i64)) .nil)))))))))))))))))) 0) .nil), [], ((.v .bool), []), []⟩
def F156 (L : Lp) (g157 : Spec → Option Bool) (a0 : (List Res)) (a1 : (List (List Int))) (a2 : (List Queue)) (a3 : Int) (a4 : Int) (a5 : Int) (a6 : Int) (a7 : Int) (a8 : Int) (a9 : Int) (a10 : Int) (a11 : Int) (a12 : Int) (a13 : Int) (a14 : Int) (a15 : Int) (a16 : Int) (a17 : Int) : Option Bool :=
  Option.bind (g157 (Spec.mk a0 a1 a2 a3 (Weights.mk a4 a5 a6 a7) a8 a9 a10 a11 a12 a13 a14 a15 a16 a17)) fun r18 =>
  some r18
theorem e156 (L : Lp) (g157 : Spec → Option Bool) (x : s156.args.den) (h : denH s156.heap) : nrun [⟨157, s157, fun x h => g157 x.1⟩] L n156 s156 x h = F156 L g157 x.1.1 x.1.2.1 x.1.2.2.1 x.1.2.2.2.1 x.1.2.2.2.2.1 x.1.2.2.2.2.2.1 x.1.2.2.2.2.2.2.1 x.1.2.2.2.2.2.2.2.1 x.1.2.2.2.2.2.2.2.2.1 x.1.2.2.2.2.2.2.2.2.2.1 x.1.2.2.2.2.2.2.2.2.2.2.1 x.1.2.2.2.2.2.2.2.2.2.2.2.1 x.1.2.2.2.2.2.2.2.2.2.2.2.2.1 x.1.2.2.2.2.2.2.2.2.2.2.2.2.2.1 x.1.2.2.2.2.2.2.2.2.2.2.2.2.2.2.1 x.1.2.2.2.2.2.2.2.2.2.2.2.2.2.2.2.1 x.1.2.2.2.2.2.2.2.2.2.2.2.2.2.2.2.2.1 x.1.2.2.2.2.2.2.2.2.2.2.2.2.2.2.2.2.2.1 := by kernel_rfl
def f156 : (List Res) → (List (List Int)) → (List Queue) → Int → Int → Int → Int → Int → Int → Int → Int → Int → Int → Int → Int → Int → Int → Int → Option Bool := F156 (@LN LOOPS) f157
@[reducible] def t156 : Ent := ⟨156, s156, fun x h => f156 x.1.1 x.1.2.1 x.1.2.2.1 x.1.2.2.2.1 x.1.2.2.2.2.1 x.1.2.2.2.2.2.1 x.1.2.2.2.2.2.2.1 x.1.2.2.2.2.2.2.2.1 x.1.2.2.2.2.2.2.2.2.1 x.1.2.2.2.2.2.2.2.2.2.1 x.1.2.2.2.2.2.2.2.2.2.2.1 x.1.2.2.2.2.2.2.2.2.2.2.2.1 x.1.2.2.2.2.2.2.2.2.2.2.2.2.1 x.1.2.2.2.2.2.2.2.2.2.2.2.2.2.1 x.1.2.2.2.2.2.2.2.2.2.2.2.2.2.2.1 x.1.2.2.2.2.2.2.2.2.2.2.2.2.2.2.2.1 x.1.2.2.2.2.2.2.2.2.2.2.2.2.2.2.2.2.1 x.1.2.2.2.2.2.2.2.2.2.2.2.2.2.2.2.2.2.1⟩
theorem k156 : chkNF Try.prog Try.f156 n156 = true := by kernel_rfl
theorem ok156 : NOk Try.prog t156 := NOk.body (T := [t157]) mixed (nall_cons ok157 nall_nil) (oneEach_of (by kernel_rfl)) Try.func156 k156 (by kernel_rfl) (fun x h => e156 _ _ x h)
/- drayage/spec.weightsRight -/
def n159 : NFunc := ⟨24, .seq (.region 1 [
    ⟨(some 1), .box 4 (.tmp 0), none, 0, none⟩,
    ⟨(some 2), .move (.const (.bool false)), none, 1, none⟩] []) (.seq (.seq (.region 0 [
    ⟨(some 5), .fieldAddr 0 (.tmp 1), none, 0, none⟩,
    ⟨(some 6), .load false 1 (.tmp 5), none, 0, none⟩,
    ⟨(some 7), .fieldAddr 1 (.tmp 1), none, 0, none⟩,
    ⟨(some 8), .load false 1 (.tmp 7), none, 0, none⟩,
    ⟨(some 9), .fieldAddr 2 (.tmp 1), none, 0, none⟩,
    ⟨(some 10), .load false 1 (.tmp 9), none, 0, none⟩,
    ⟨(some 11), .fieldAddr 3 (.tmp 1), none, 0, none⟩,
    ⟨(some 12), .load false 1 (.tmp 11), none, 0, none⟩,
    ⟨(some 13), .build [.int .i64 (0), .int .i64 (0), .int .i64 (0), .int .i64 (0)] [(0, 1, (.tmp 6)), (1, 1, (.tmp 8)), (2, 1, (.tmp 10)), (3, 1, (.tmp 12))], none, 0, none⟩,
    ⟨(some 14), .move (.const (.int .i64 (0))), none, 0, none⟩] []) (.block 0 (.loopU [13, 14] 5 (.seq (.region 0 [
    ⟨(some 15), .bin .lss (.tmp 14) (.const (.int .i64 (4))), none, 0, none⟩] []) (.seq (.cond (.tmp 15) (.skip) (.exit 0)) (.seq (.block 1 (.seq (.region 0 [
    ⟨(some 16), .indexVal false 4 1 (.tmp 13) (.tmp 14), none, 0, none⟩,
    ⟨(some 4), .move (.tmp 16), none, 0, none⟩] []) (.seq (.region 0 [
    ⟨(some 17), .move (.tmp 4), none, 0, none⟩,
    ⟨(some 18), .bin .lss (.tmp 17) (.const (.int .i64 (0))), none, 0, none⟩,
    ⟨(some 19), .move (.tmp 18), none, 0, none⟩,
    ⟨(some 20), .move (.tmp 4), (some (19, false)), 0, none⟩,
    ⟨(some 21), .bin .gtr (.tmp 20) (.const (.int .i64 (1000))), (some (19, false)), 0, none⟩,
    ⟨(some 22), .pick (.tmp 19) (.const (.bool true)) (.tmp 21), none, 0, none⟩] []) (.cond (.tmp 22) (.seq (.region 0 [
    ⟨(some 2), .move (.const (.bool false)), none, 0, none⟩] []) (.ret)) (.skip))))) (.region 0 [
    ⟨(some 23), .bin .add (.tmp 14) (.const (.int .i64 (1))), none, 0, none⟩,
    ⟨(some 14), .move (.tmp 23), none, 0, none⟩] []))))))) (.seq (.region 0 [
    ⟨(some 2), .move (.const (.bool true)), none, 0, none⟩] []) (.ret))), [.tmp 2], true⟩
def s159 : Sig := ⟨(.cons (.v .weights) .nil), [], ((.v .bool), []), []⟩
def F159 (L : Lp)  (w0 : Weights) : Option Bool :=
  cond (decide (w0.age < 0))
    (some false)
    (cond (decide (1000 < w0.age))
      (some false)
      (cond (decide (w0.size < 0))
        (some false)
        (cond (decide (1000 < w0.size))
          (some false)
          (cond (decide (w0.qos < 0))
            (some false)
            (cond (decide (1000 < w0.qos))
              (some false)
              (cond (decide (w0.share < 0))
                (some false)
                (cond (decide (1000 < w0.share))
                  (some false)
                  (some true))))))))
theorem e159 (L : Lp)  (x : s159.args.den) (h : denH s159.heap) : nrun [] L n159 s159 x h = F159 L  x.1 := by kernel_rfl
def f159 : Weights → Option Bool := F159 (@LN LOOPS) 
@[reducible] def t159 : Ent := ⟨159, s159, fun x h => f159 x.1⟩
theorem k159 : chkNF Try.prog Try.f159 n159 = true := by kernel_rfl
theorem ok159 : NOk Try.prog t159 := NOk.body (T := []) mixed nall_nil (oneEach_of (by kernel_rfl)) Try.func159 k159 (by kernel_rfl) (fun x h => e159 _  x h)
/- drayage/spec.rules$4 -/
def n158 : NFunc := ⟨5, .seq (.region 0 [
    ⟨(some 1), .move (.const (.bool false)), none, 0, none⟩] []) (.seq (.region 4 [
    ⟨(some 2), .fieldAddr 4 (.tmp 0), none, 0, none⟩,
    ⟨(some 3), .load true 4 (.tmp 2), none, 0, none⟩,
    ⟨(some 4), .call (.func 159) [(false, (.tmp 3))] false 4, none, 0, none⟩,
    ⟨(some 1), .move (.tmp 4), none, 4, none⟩] []) (.ret)), [.tmp 1], true⟩
def s158 : Sig := ⟨(.cons (.iptr (.cons (.v (.list .res)) (.cons (.v (.list (.list (.int .i64)))) (.cons (.v (.list .queue)) (.cons (.v (.int .i64)) (.cons (.v (.int .i64)) (.cons (.v (.int .i64)) (.cons (.v (.int .i64)) (.cons (.v (.int .i64)) (.cons (.v (.int .i64)) (.cons (.v (.int .i64)) (.cons (.v (.int .i64)) (.cons (.v (.int .i64)) (.cons (.v (.int .i64)) (.cons (.v (.int .i64)) (.cons (.v (.int .i64)) (.cons (.v (.int .i64)) (.cons (.v (.int .i64)) (.cons (.v (.int .i64)) .nil)))))))))))))))))) 0) .nil), [], ((.v .bool), []), []⟩
def F158 (L : Lp) (g159 : Weights → Option Bool) (a0 : (List Res)) (a1 : (List (List Int))) (a2 : (List Queue)) (a3 : Int) (a4 : Int) (a5 : Int) (a6 : Int) (a7 : Int) (a8 : Int) (a9 : Int) (a10 : Int) (a11 : Int) (a12 : Int) (a13 : Int) (a14 : Int) (a15 : Int) (a16 : Int) (a17 : Int) : Option Bool :=
  Option.bind (g159 (Weights.mk a4 a5 a6 a7)) fun r18 =>
  some r18
theorem e158 (L : Lp) (g159 : Weights → Option Bool) (x : s158.args.den) (h : denH s158.heap) : nrun [⟨159, s159, fun x h => g159 x.1⟩] L n158 s158 x h = F158 L g159 x.1.1 x.1.2.1 x.1.2.2.1 x.1.2.2.2.1 x.1.2.2.2.2.1 x.1.2.2.2.2.2.1 x.1.2.2.2.2.2.2.1 x.1.2.2.2.2.2.2.2.1 x.1.2.2.2.2.2.2.2.2.1 x.1.2.2.2.2.2.2.2.2.2.1 x.1.2.2.2.2.2.2.2.2.2.2.1 x.1.2.2.2.2.2.2.2.2.2.2.2.1 x.1.2.2.2.2.2.2.2.2.2.2.2.2.1 x.1.2.2.2.2.2.2.2.2.2.2.2.2.2.1 x.1.2.2.2.2.2.2.2.2.2.2.2.2.2.2.1 x.1.2.2.2.2.2.2.2.2.2.2.2.2.2.2.2.1 x.1.2.2.2.2.2.2.2.2.2.2.2.2.2.2.2.2.1 x.1.2.2.2.2.2.2.2.2.2.2.2.2.2.2.2.2.2.1 := by kernel_rfl
def f158 : (List Res) → (List (List Int)) → (List Queue) → Int → Int → Int → Int → Int → Int → Int → Int → Int → Int → Int → Int → Int → Int → Int → Option Bool := F158 (@LN LOOPS) f159
@[reducible] def t158 : Ent := ⟨158, s158, fun x h => f158 x.1.1 x.1.2.1 x.1.2.2.1 x.1.2.2.2.1 x.1.2.2.2.2.1 x.1.2.2.2.2.2.1 x.1.2.2.2.2.2.2.1 x.1.2.2.2.2.2.2.2.1 x.1.2.2.2.2.2.2.2.2.1 x.1.2.2.2.2.2.2.2.2.2.1 x.1.2.2.2.2.2.2.2.2.2.2.1 x.1.2.2.2.2.2.2.2.2.2.2.2.1 x.1.2.2.2.2.2.2.2.2.2.2.2.2.1 x.1.2.2.2.2.2.2.2.2.2.2.2.2.2.1 x.1.2.2.2.2.2.2.2.2.2.2.2.2.2.2.1 x.1.2.2.2.2.2.2.2.2.2.2.2.2.2.2.2.1 x.1.2.2.2.2.2.2.2.2.2.2.2.2.2.2.2.2.1 x.1.2.2.2.2.2.2.2.2.2.2.2.2.2.2.2.2.2.1⟩
theorem k158 : chkNF Try.prog Try.f158 n158 = true := by kernel_rfl
theorem ok158 : NOk Try.prog t158 := NOk.body (T := [t159]) mixed (nall_cons ok159 nall_nil) (oneEach_of (by kernel_rfl)) Try.func158 k158 (by kernel_rfl) (fun x h => e158 _ _ x h)
/- drayage/spec.rules$5 -/
def n160 : NFunc := ⟨10, .seq (.region 0 [
    ⟨(some 1), .move (.const (.bool false)), none, 0, none⟩] []) (.seq (.region 0 [
    ⟨(some 2), .fieldAddr 9 (.tmp 0), none, 0, none⟩,
    ⟨(some 3), .load false 1 (.tmp 2), none, 0, none⟩,
    ⟨(some 4), .bin .eql (.tmp 3) (.const (.int .i64 (1))), none, 0, none⟩,
    ⟨(some 5), .move (.tmp 4), none, 0, none⟩,
    ⟨(some 6), .fieldAddr 9 (.tmp 0), (some (5, false)), 0, none⟩,
    ⟨(some 7), .load false 1 (.tmp 6), (some (5, false)), 0, none⟩,
    ⟨(some 8), .bin .eql (.tmp 7) (.const (.int .i64 (2))), (some (5, false)), 0, none⟩,
    ⟨(some 9), .pick (.tmp 5) (.const (.bool true)) (.tmp 8), none, 0, none⟩,
    ⟨(some 1), .move (.tmp 9), none, 0, none⟩] []) (.ret)), [.tmp 1], true⟩
def s160 : Sig := ⟨(.cons (.iptr (.cons (.v (.list .res)) (.cons (.v (.list (.list (.int .i64)))) (.cons (.v (.list .queue)) (.cons (.v (.int .i64)) (.cons (.v (.int .i64)) (.cons (.v (.int .i64)) (.cons (.v (.int .i64)) (.cons (.v (.int .i64)) (.cons (.v (.int .i64)) (.cons (.v (.int .i64)) (.cons (.v (.int .i64)) (.cons (.v (.int .i64)) (.cons (.v (.int .i64)) (.cons (.v (.int .i64)) (.cons (.v (.int .i64)) (.cons (.v (.int .i64)) (.cons (.v (.int .i64)) (.cons (.v (.int .i64)) .nil)))))))))))))))))) 0) .nil), [], ((.v .bool), []), []⟩
def F160 (L : Lp)  (a0 : (List Res)) (a1 : (List (List Int))) (a2 : (List Queue)) (a3 : Int) (a4 : Int) (a5 : Int) (a6 : Int) (a7 : Int) (a8 : Int) (a9 : Int) (a10 : Int) (a11 : Int) (a12 : Int) (a13 : Int) (a14 : Int) (a15 : Int) (a16 : Int) (a17 : Int) : Option Bool :=
  cond (decide (a9 = 1))
    (some true)
    (some (decide (a9 = 2)))
theorem e160 (L : Lp)  (x : s160.args.den) (h : denH s160.heap) : nrun [] L n160 s160 x h = F160 L  x.1.1 x.1.2.1 x.1.2.2.1 x.1.2.2.2.1 x.1.2.2.2.2.1 x.1.2.2.2.2.2.1 x.1.2.2.2.2.2.2.1 x.1.2.2.2.2.2.2.2.1 x.1.2.2.2.2.2.2.2.2.1 x.1.2.2.2.2.2.2.2.2.2.1 x.1.2.2.2.2.2.2.2.2.2.2.1 x.1.2.2.2.2.2.2.2.2.2.2.2.1 x.1.2.2.2.2.2.2.2.2.2.2.2.2.1 x.1.2.2.2.2.2.2.2.2.2.2.2.2.2.1 x.1.2.2.2.2.2.2.2.2.2.2.2.2.2.2.1 x.1.2.2.2.2.2.2.2.2.2.2.2.2.2.2.2.1 x.1.2.2.2.2.2.2.2.2.2.2.2.2.2.2.2.2.1 x.1.2.2.2.2.2.2.2.2.2.2.2.2.2.2.2.2.2.1 := by kernel_rfl
def f160 : (List Res) → (List (List Int)) → (List Queue) → Int → Int → Int → Int → Int → Int → Int → Int → Int → Int → Int → Int → Int → Int → Int → Option Bool := F160 (@LN LOOPS) 
@[reducible] def t160 : Ent := ⟨160, s160, fun x h => f160 x.1.1 x.1.2.1 x.1.2.2.1 x.1.2.2.2.1 x.1.2.2.2.2.1 x.1.2.2.2.2.2.1 x.1.2.2.2.2.2.2.1 x.1.2.2.2.2.2.2.2.1 x.1.2.2.2.2.2.2.2.2.1 x.1.2.2.2.2.2.2.2.2.2.1 x.1.2.2.2.2.2.2.2.2.2.2.1 x.1.2.2.2.2.2.2.2.2.2.2.2.1 x.1.2.2.2.2.2.2.2.2.2.2.2.2.1 x.1.2.2.2.2.2.2.2.2.2.2.2.2.2.1 x.1.2.2.2.2.2.2.2.2.2.2.2.2.2.2.1 x.1.2.2.2.2.2.2.2.2.2.2.2.2.2.2.2.1 x.1.2.2.2.2.2.2.2.2.2.2.2.2.2.2.2.2.1 x.1.2.2.2.2.2.2.2.2.2.2.2.2.2.2.2.2.2.1⟩
theorem k160 : chkNF Try.prog Try.f160 n160 = true := by kernel_rfl
theorem ok160 : NOk Try.prog t160 := NOk.body (T := []) mixed nall_nil (oneEach_of (by kernel_rfl)) Try.func160 k160 (by kernel_rfl) (fun x h => e160 _  x h)
/- drayage/spec.Flaw -/
def n78 : NFunc := ⟨19, .seq (.region 1 [
    ⟨(some 1), .box 18 (.tmp 0), none, 0, none⟩,
    ⟨(some 2), .move (.const (.str [])), none, 1, none⟩] []) (.seq (.seq (.region 4 [
    ⟨(some 5), .load true 18 (.tmp 1), none, 0, none⟩,
    ⟨(some 6), .call (.func 127) [(false, (.tmp 5))] false 4, none, 0, none⟩,
    ⟨(some 7), .len (.tmp 6), none, 4, none⟩,
    ⟨(some 8), .move (.const (.int .i64 (0))), none, 4, none⟩] []) (.block 0 (.loopU [6, 7, 8] 16 (.seq (.region 0 [
    ⟨(some 9), .bin .lss (.tmp 8) (.tmp 7), none, 0, none⟩] []) (.seq (.cond (.tmp 9) (.skip) (.exit 0)) (.seq (.block 1 (.seq (.region 1 [
    ⟨(some 10), .indexSl 2 (.tmp 6) (.tmp 8), none, 0, none⟩,
    ⟨(some 11), .load true 2 (.tmp 10), none, 0, none⟩,
    ⟨(some 4), .alloc [.str [], .nilfn], none, 0, none⟩,
    ⟨none, .store 2 (.tmp 4) (.tmp 11), none, 1, none⟩] []) (.seq (.region 4 [
    ⟨(some 12), .fieldAddr 1 (.tmp 4), none, 0, none⟩,
    ⟨(some 13), .load false 1 (.tmp 12), none, 0, none⟩,
    ⟨(some 14), .call (.tmp 13) [] false 4, none, 0, none⟩,
    ⟨(some 15), .un .not (.tmp 14), none, 4, none⟩] []) (.cond (.tmp 15) (.seq (.region 0 [
    ⟨(some 16), .fieldAddr 0 (.tmp 4), none, 0, none⟩,
    ⟨(some 17), .load false 1 (.tmp 16), none, 0, none⟩,
    ⟨(some 2), .move (.tmp 17), none, 0, none⟩] []) (.ret)) (.skip))))) (.region 0 [
    ⟨(some 18), .bin .add (.tmp 8) (.const (.int .i64 (1))), none, 0, none⟩,
    ⟨(some 8), .move (.tmp 18), none, 0, none⟩] []))))))) (.seq (.region 0 [
    ⟨(some 2), .move (.const (.str [])), none, 0, none⟩] []) (.ret))), [.tmp 2], true⟩
def s78 : Sig := ⟨(.cons (.v .spec) .nil), [], ((.v .str), []), []⟩
def F78 (L : Lp) (g127 : Spec → Option (((List UInt8) × ((((List Res) × ((List (List Int)) × ((List Queue) × (Int × (Int × (Int × (Int × (Int × (Int × (Int × (Int × (Int × (Int × (Int × (Int × (Int × (Int × (Int × Unit)))))))))))))))))) × Unit) × Unit)) × (((List UInt8) × ((((List Res) × ((List (List Int)) × ((List Queue) × (Int × (Int × (Int × (Int × (Int × (Int × (Int × (Int × (Int × (Int × (Int × (Int × (Int × (Int × (Int × Unit)))))))))))))))))) × Unit) × Unit)) × (((List UInt8) × (((Int × Unit) × ((Int × Unit) × ((Int × Unit) × Unit))) × Unit)) × (((List UInt8) × ((((List Res) × ((List (List Int)) × ((List Queue) × (Int × (Int × (Int × (Int × (Int × (Int × (Int × (Int × (Int × (Int × (Int × (Int × (Int × (Int × (Int × Unit)))))))))))))))))) × Unit) × Unit)) × (((List UInt8) × ((((List Res) × ((List (List Int)) × ((List Queue) × (Int × (Int × (Int × (Int × (Int × (Int × (Int × (Int × (Int × (Int × (Int × (Int × (Int × (Int × (Int × Unit)))))))))))))))))) × Unit) × Unit)) × (((List UInt8) × (((Int × Unit) × ((Int × Unit) × ((Int × Unit) × Unit))) × Unit)) × (((List UInt8) × ((((List Res) × ((List (List Int)) × ((List Queue) × (Int × (Int × (Int × (Int × (Int × (Int × (Int × (Int × (Int × (Int × (Int × (Int × (Int × (Int × (Int × Unit)))))))))))))))))) × Unit) × Unit)) × (((List UInt8) × (((Int × Unit) × ((Int × Unit) × ((Int × Unit) × Unit))) × Unit)) × (((List UInt8) × (((Int × Unit) × ((Int × Unit) × ((Int × Unit) × Unit))) × Unit)) × (((List UInt8) × (((Int × Unit) × ((Int × Unit) × ((Int × Unit) × Unit))) × Unit)) × (((List UInt8) × (((Int × Unit) × ((Int × Unit) × ((Int × Unit) × Unit))) × Unit)) × (((List UInt8) × (((Int × Unit) × ((Int × Unit) × ((Int × Unit) × Unit))) × Unit)) × (((List UInt8) × (((Int × Unit) × ((Int × Unit) × ((Int × Unit) × Unit))) × Unit)) × (((List UInt8) × (((Int × Unit) × ((Int × Unit) × ((Int × Unit) × Unit))) × Unit)) × (((List UInt8) × (((Int × Unit) × ((Int × Unit) × ((Int × Unit) × Unit))) × Unit)) × Unit)))))))))))))))) (g151 : (List Res) → (List (List Int)) → (List Queue) → Int → Int → Int → Int → Int → Int → Int → Int → Int → Int → Int → Int → Int → Int → Int → Option Bool) (g153 : (List Res) → (List (List Int)) → (List Queue) → Int → Int → Int → Int → Int → Int → Int → Int → Int → Int → Int → Int → Int → Int → Int → Option Bool) (g167 : Int → Int → Int → Option Bool) (g156 : (List Res) → (List (List Int)) → (List Queue) → Int → Int → Int → Int → Int → Int → Int → Int → Int → Int → Int → Int → Int → Int → Int → Option Bool) (g158 : (List Res) → (List (List Int)) → (List Queue) → Int → Int → Int → Int → Int → Int → Int → Int → Int → Int → Int → Int → Int → Int → Int → Option Bool) (g160 : (List Res) → (List (List Int)) → (List Queue) → Int → Int → Int → Int → Int → Int → Int → Int → Int → Int → Int → Int → Int → Int → Int → Option Bool) (as0 : Spec) : Option (List UInt8) :=
  Option.bind (g127 as0) fun r1 =>
  Option.bind (g151 r1.1.2.1.1.1 r1.1.2.1.1.2.1 r1.1.2.1.1.2.2.1 r1.1.2.1.1.2.2.2.1 r1.1.2.1.1.2.2.2.2.1 r1.1.2.1.1.2.2.2.2.2.1 r1.1.2.1.1.2.2.2.2.2.2.1 r1.1.2.1.1.2.2.2.2.2.2.2.1 r1.1.2.1.1.2.2.2.2.2.2.2.2.1 r1.1.2.1.1.2.2.2.2.2.2.2.2.2.1 r1.1.2.1.1.2.2.2.2.2.2.2.2.2.2.1 r1.1.2.1.1.2.2.2.2.2.2.2.2.2.2.2.1 r1.1.2.1.1.2.2.2.2.2.2.2.2.2.2.2.2.1 r1.1.2.1.1.2.2.2.2.2.2.2.2.2.2.2.2.2.1 r1.1.2.1.1.2.2.2.2.2.2.2.2.2.2.2.2.2.2.1 r1.1.2.1.1.2.2.2.2.2.2.2.2.2.2.2.2.2.2.2.1 r1.1.2.1.1.2.2.2.2.2.2.2.2.2.2.2.2.2.2.2.2.1 r1.1.2.1.1.2.2.2.2.2.2.2.2.2.2.2.2.2.2.2.2.2.1) fun r2 =>
  cond (!r2)
    (some r1.1.1)
    (Option.bind (g153 r1.2.1.2.1.1.1 r1.2.1.2.1.1.2.1 r1.2.1.2.1.1.2.2.1 r1.2.1.2.1.1.2.2.2.1 r1.2.1.2.1.1.2.2.2.2.1 r1.2.1.2.1.1.2.2.2.2.2.1 r1.2.1.2.1.1.2.2.2.2.2.2.1 r1.2.1.2.1.1.2.2.2.2.2.2.2.1 r1.2.1.2.1.1.2.2.2.2.2.2.2.2.1 r1.2.1.2.1.1.2.2.2.2.2.2.2.2.2.1 r1.2.1.2.1.1.2.2.2.2.2.2.2.2.2.2.1 r1.2.1.2.1.1.2.2.2.2.2.2.2.2.2.2.2.1 r1.2.1.2.1.1.2.2.2.2.2.2.2.2.2.2.2.2.1 r1.2.1.2.1.1.2.2.2.2.2.2.2.2.2.2.2.2.2.1 r1.2.1.2.1.1.2.2.2.2.2.2.2.2.2.2.2.2.2.2.1 r1.2.1.2.1.1.2.2.2.2.2.2.2.2.2.2.2.2.2.2.2.1 r1.2.1.2.1.1.2.2.2.2.2.2.2.2.2.2.2.2.2.2.2.2.1 r1.2.1.2.1.1.2.2.2.2.2.2.2.2.2.2.2.2.2.2.2.2.2.1) fun r3 =>
    cond (!r3)
      (some r1.2.1.1)
      (Option.bind (g167 r1.2.2.1.2.1.1.1 r1.2.2.1.2.1.2.1.1 r1.2.2.1.2.1.2.2.1.1) fun r4 =>
      cond (!r4)
        (some r1.2.2.1.1)
        (Option.bind (g156 r1.2.2.2.1.2.1.1.1 r1.2.2.2.1.2.1.1.2.1 r1.2.2.2.1.2.1.1.2.2.1 r1.2.2.2.1.2.1.1.2.2.2.1 r1.2.2.2.1.2.1.1.2.2.2.2.1 r1.2.2.2.1.2.1.1.2.2.2.2.2.1 r1.2.2.2.1.2.1.1.2.2.2.2.2.2.1 r1.2.2.2.1.2.1.1.2.2.2.2.2.2.2.1 r1.2.2.2.1.2.1.1.2.2.2.2.2.2.2.2.1 r1.2.2.2.1.2.1.1.2.2.2.2.2.2.2.2.2.1 r1.2.2.2.1.2.1.1.2.2.2.2.2.2.2.2.2.2.1 r1.2.2.2.1.2.1.1.2.2.2.2.2.2.2.2.2.2.2.1 r1.2.2.2.1.2.1.1.2.2.2.2.2.2.2.2.2.2.2.2.1 r1.2.2.2.1.2.1.1.2.2.2.2.2.2.2.2.2.2.2.2.2.1 r1.2.2.2.1.2.1.1.2.2.2.2.2.2.2.2.2.2.2.2.2.2.1 r1.2.2.2.1.2.1.1.2.2.2.2.2.2.2.2.2.2.2.2.2.2.2.1 r1.2.2.2.1.2.1.1.2.2.2.2.2.2.2.2.2.2.2.2.2.2.2.2.1 r1.2.2.2.1.2.1.1.2.2.2.2.2.2.2.2.2.2.2.2.2.2.2.2.2.1) fun r5 =>
        cond (!r5)
          (some r1.2.2.2.1.1)
          (Option.bind (g158 r1.2.2.2.2.1.2.1.1.1 r1.2.2.2.2.1.2.1.1.2.1 r1.2.2.2.2.1.2.1.1.2.2.1 r1.2.2.2.2.1.2.1.1.2.2.2.1 r1.2.2.2.2.1.2.1.1.2.2.2.2.1 r1.2.2.2.2.1.2.1.1.2.2.2.2.2.1 r1.2.2.2.2.1.2.1.1.2.2.2.2.2.2.1 r1.2.2.2.2.1.2.1.1.2.2.2.2.2.2.2.1 r1.2.2.2.2.1.2.1.1.2.2.2.2.2.2.2.2.1 r1.2.2.2.2.1.2.1.1.2.2.2.2.2.2.2.2.2.1 r1.2.2.2.2.1.2.1.1.2.2.2.2.2.2.2.2.2.2.1 r1.2.2.2.2.1.2.1.1.2.2.2.2.2.2.2.2.2.2.2.1 r1.2.2.2.2.1.2.1.1.2.2.2.2.2.2.2.2.2.2.2.2.1 r1.2.2.2.2.1.2.1.1.2.2.2.2.2.2.2.2.2.2.2.2.2.1 r1.2.2.2.2.1.2.1.1.2.2.2.2.2.2.2.2.2.2.2.2.2.2.1 r1.2.2.2.2.1.2.1.1.2.2.2.2.2.2.2.2.2.2.2.2.2.2.2.1 r1.2.2.2.2.1.2.1.1.2.2.2.2.2.2.2.2.2.2.2.2.2.2.2.2.1 r1.2.2.2.2.1.2.1.1.2.2.2.2.2.2.2.2.2.2.2.2.2.2.2.2.2.1) fun r6 =>
          cond (!r6)
            (some r1.2.2.2.2.1.1)
            (Option.bind (g167 r1.2.2.2.2.2.1.2.1.1.1 r1.2.2.2.2.2.1.2.1.2.1.1 r1.2.2.2.2.2.1.2.1.2.2.1.1) fun r7 =>
            cond (!r7)
              (some r1.2.2.2.2.2.1.1)
              (Option.bind (g160 r1.2.2.2.2.2.2.1.2.1.1.1 r1.2.2.2.2.2.2.1.2.1.1.2.1 r1.2.2.2.2.2.2.1.2.1.1.2.2.1 r1.2.2.2.2.2.2.1.2.1.1.2.2.2.1 r1.2.2.2.2.2.2.1.2.1.1.2.2.2.2.1 r1.2.2.2.2.2.2.1.2.1.1.2.2.2.2.2.1 r1.2.2.2.2.2.2.1.2.1.1.2.2.2.2.2.2.1 r1.2.2.2.2.2.2.1.2.1.1.2.2.2.2.2.2.2.1 r1.2.2.2.2.2.2.1.2.1.1.2.2.2.2.2.2.2.2.1 r1.2.2.2.2.2.2.1.2.1.1.2.2.2.2.2.2.2.2.2.1 r1.2.2.2.2.2.2.1.2.1.1.2.2.2.2.2.2.2.2.2.2.1 r1.2.2.2.2.2.2.1.2.1.1.2.2.2.2.2.2.2.2.2.2.2.1 r1.2.2.2.2.2.2.1.2.1.1.2.2.2.2.2.2.2.2.2.2.2.2.1 r1.2.2.2.2.2.2.1.2.1.1.2.2.2.2.2.2.2.2.2.2.2.2.2.1 r1.2.2.2.2.2.2.1.2.1.1.2.2.2.2.2.2.2.2.2.2.2.2.2.2.1 r1.2.2.2.2.2.2.1.2.1.1.2.2.2.2.2.2.2.2.2.2.2.2.2.2.2.1 r1.2.2.2.2.2.2.1.2.1.1.2.2.2.2.2.2.2.2.2.2.2.2.2.2.2.2.1 r1.2.2.2.2.2.2.1.2.1.1.2.2.2.2.2.2.2.2.2.2.2.2.2.2.2.2.2.1) fun r8 =>
              cond (!r8)
                (some r1.2.2.2.2.2.2.1.1)
                (Option.bind (g167 r1.2.2.2.2.2.2.2.1.2.1.1.1 r1.2.2.2.2.2.2.2.1.2.1.2.1.1 r1.2.2.2.2.2.2.2.1.2.1.2.2.1.1) fun r9 =>
                cond (!r9)
                  (some r1.2.2.2.2.2.2.2.1.1)
                  (Option.bind (g167 r1.2.2.2.2.2.2.2.2.1.2.1.1.1 r1.2.2.2.2.2.2.2.2.1.2.1.2.1.1 r1.2.2.2.2.2.2.2.2.1.2.1.2.2.1.1) fun r10 =>
                  cond (!r10)
                    (some r1.2.2.2.2.2.2.2.2.1.1)
                    (Option.bind (g167 r1.2.2.2.2.2.2.2.2.2.1.2.1.1.1 r1.2.2.2.2.2.2.2.2.2.1.2.1.2.1.1 r1.2.2.2.2.2.2.2.2.2.1.2.1.2.2.1.1) fun r11 =>
                    cond (!r11)
                      (some r1.2.2.2.2.2.2.2.2.2.1.1)
                      (Option.bind (g167 r1.2.2.2.2.2.2.2.2.2.2.1.2.1.1.1 r1.2.2.2.2.2.2.2.2.2.2.1.2.1.2.1.1 r1.2.2.2.2.2.2.2.2.2.2.1.2.1.2.2.1.1) fun r12 =>
                      cond (!r12)
                        (some r1.2.2.2.2.2.2.2.2.2.2.1.1)
                        (Option.bind (g167 r1.2.2.2.2.2.2.2.2.2.2.2.1.2.1.1.1 r1.2.2.2.2.2.2.2.2.2.2.2.1.2.1.2.1.1 r1.2.2.2.2.2.2.2.2.2.2.2.1.2.1.2.2.1.1) fun r13 =>
                        cond (!r13)
                          (some r1.2.2.2.2.2.2.2.2.2.2.2.1.1)
                          (Option.bind (g167 r1.2.2.2.2.2.2.2.2.2.2.2.2.1.2.1.1.1 r1.2.2.2.2.2.2.2.2.2.2.2.2.1.2.1.2.1.1 r1.2.2.2.2.2.2.2.2.2.2.2.2.1.2.1.2.2.1.1) fun r14 =>
                          cond (!r14)
                            (some r1.2.2.2.2.2.2.2.2.2.2.2.2.1.1)
                            (Option.bind (g167 r1.2.2.2.2.2.2.2.2.2.2.2.2.2.1.2.1.1.1 r1.2.2.2.2.2.2.2.2.2.2.2.2.2.1.2.1.2.1.1 r1.2.2.2.2.2.2.2.2.2.2.2.2.2.1.2.1.2.2.1.1) fun r15 =>
                            cond (!r15)
                              (some r1.2.2.2.2.2.2.2.2.2.2.2.2.2.1.1)
                              (Option.bind (g167 r1.2.2.2.2.2.2.2.2.2.2.2.2.2.2.1.2.1.1.1 r1.2.2.2.2.2.2.2.2.2.2.2.2.2.2.1.2.1.2.1.1 r1.2.2.2.2.2.2.2.2.2.2.2.2.2.2.1.2.1.2.2.1.1) fun r16 =>
                              cond (!r16)
                                (some r1.2.2.2.2.2.2.2.2.2.2.2.2.2.2.1.1)
                                (some ([] : List UInt8))))))))))))))))
theorem e78 (L : Lp) (g127 : Spec → Option (((List UInt8) × ((((List Res) × ((List (List Int)) × ((List Queue) × (Int × (Int × (Int × (Int × (Int × (Int × (Int × (Int × (Int × (Int × (Int × (Int × (Int × (Int × (Int × Unit)))))))))))))))))) × Unit) × Unit)) × (((List UInt8) × ((((List Res) × ((List (List Int)) × ((List Queue) × (Int × (Int × (Int × (Int × (Int × (Int × (Int × (Int × (Int × (Int × (Int × (Int × (Int × (Int × (Int × Unit)))))))))))))))))) × Unit) × Unit)) × (((List UInt8) × (((Int × Unit) × ((Int × Unit) × ((Int × Unit) × Unit))) × Unit)) × (((List UInt8) × ((((List Res) × ((List (List Int)) × ((List Queue) × (Int × (Int × (Int × (Int × (Int × (Int × (Int × (Int × (Int × (Int × (Int × (Int × (Int × (Int × (Int × Unit)))))))))))))))))) × Unit) × Unit)) × (((List UInt8) × ((((List Res) × ((List (List Int)) × ((List Queue) × (Int × (Int × (Int × (Int × (Int × (Int × (Int × (Int × (Int × (Int × (Int × (Int × (Int × (Int × (Int × Unit)))))))))))))))))) × Unit) × Unit)) × (((List UInt8) × (((Int × Unit) × ((Int × Unit) × ((Int × Unit) × Unit))) × Unit)) × (((List UInt8) × ((((List Res) × ((List (List Int)) × ((List Queue) × (Int × (Int × (Int × (Int × (Int × (Int × (Int × (Int × (Int × (Int × (Int × (Int × (Int × (Int × (Int × Unit)))))))))))))))))) × Unit) × Unit)) × (((List UInt8) × (((Int × Unit) × ((Int × Unit) × ((Int × Unit) × Unit))) × Unit)) × (((List UInt8) × (((Int × Unit) × ((Int × Unit) × ((Int × Unit) × Unit))) × Unit)) × (((List UInt8) × (((Int × Unit) × ((Int × Unit) × ((Int × Unit) × Unit))) × Unit)) × (((List UInt8) × (((Int × Unit) × ((Int × Unit) × ((Int × Unit) × Unit))) × Unit)) × (((List UInt8) × (((Int × Unit) × ((Int × Unit) × ((Int × Unit) × Unit))) × Unit)) × (((List UInt8) × (((Int × Unit) × ((Int × Unit) × ((Int × Unit) × Unit))) × Unit)) × (((List UInt8) × (((Int × Unit) × ((Int × Unit) × ((Int × Unit) × Unit))) × Unit)) × (((List UInt8) × (((Int × Unit) × ((Int × Unit) × ((Int × Unit) × Unit))) × Unit)) × Unit)))))))))))))))) (g151 : (List Res) → (List (List Int)) → (List Queue) → Int → Int → Int → Int → Int → Int → Int → Int → Int → Int → Int → Int → Int → Int → Int → Option Bool) (g153 : (List Res) → (List (List Int)) → (List Queue) → Int → Int → Int → Int → Int → Int → Int → Int → Int → Int → Int → Int → Int → Int → Int → Option Bool) (g167 : Int → Int → Int → Option Bool) (g156 : (List Res) → (List (List Int)) → (List Queue) → Int → Int → Int → Int → Int → Int → Int → Int → Int → Int → Int → Int → Int → Int → Int → Option Bool) (g158 : (List Res) → (List (List Int)) → (List Queue) → Int → Int → Int → Int → Int → Int → Int → Int → Int → Int → Int → Int → Int → Int → Int → Option Bool) (g160 : (List Res) → (List (List Int)) → (List Queue) → Int → Int → Int → Int → Int → Int → Int → Int → Int → Int → Int → Int → Int → Int → Int → Option Bool) (x : s78.args.den) (h : denH s78.heap) : nrun [⟨127, s127, fun x h => g127 x.1⟩, ⟨151, s151, fun x h => g151 x.1.1 x.1.2.1 x.1.2.2.1 x.1.2.2.2.1 x.1.2.2.2.2.1 x.1.2.2.2.2.2.1 x.1.2.2.2.2.2.2.1 x.1.2.2.2.2.2.2.2.1 x.1.2.2.2.2.2.2.2.2.1 x.1.2.2.2.2.2.2.2.2.2.1 x.1.2.2.2.2.2.2.2.2.2.2.1 x.1.2.2.2.2.2.2.2.2.2.2.2.1 x.1.2.2.2.2.2.2.2.2.2.2.2.2.1 x.1.2.2.2.2.2.2.2.2.2.2.2.2.2.1 x.1.2.2.2.2.2.2.2.2.2.2.2.2.2.2.1 x.1.2.2.2.2.2.2.2.2.2.2.2.2.2.2.2.1 x.1.2.2.2.2.2.2.2.2.2.2.2.2.2.2.2.2.1 x.1.2.2.2.2.2.2.2.2.2.2.2.2.2.2.2.2.2.1⟩, ⟨153, s153, fun x h => g153 x.1.1 x.1.2.1 x.1.2.2.1 x.1.2.2.2.1 x.1.2.2.2.2.1 x.1.2.2.2.2.2.1 x.1.2.2.2.2.2.2.1 x.1.2.2.2.2.2.2.2.1 x.1.2.2.2.2.2.2.2.2.1 x.1.2.2.2.2.2.2.2.2.2.1 x.1.2.2.2.2.2.2.2.2.2.2.1 x.1.2.2.2.2.2.2.2.2.2.2.2.1 x.1.2.2.2.2.2.2.2.2.2.2.2.2.1 x.1.2.2.2.2.2.2.2.2.2.2.2.2.2.1 x.1.2.2.2.2.2.2.2.2.2.2.2.2.2.2.1 x.1.2.2.2.2.2.2.2.2.2.2.2.2.2.2.2.1 x.1.2.2.2.2.2.2.2.2.2.2.2.2.2.2.2.2.1 x.1.2.2.2.2.2.2.2.2.2.2.2.2.2.2.2.2.2.1⟩, ⟨167, s167, fun x h => g167 x.1.1 x.2.1.1 x.2.2.1.1⟩, ⟨156, s156, fun x h => g156 x.1.1 x.1.2.1 x.1.2.2.1 x.1.2.2.2.1 x.1.2.2.2.2.1 x.1.2.2.2.2.2.1 x.1.2.2.2.2.2.2.1 x.1.2.2.2.2.2.2.2.1 x.1.2.2.2.2.2.2.2.2.1 x.1.2.2.2.2.2.2.2.2.2.1 x.1.2.2.2.2.2.2.2.2.2.2.1 x.1.2.2.2.2.2.2.2.2.2.2.2.1 x.1.2.2.2.2.2.2.2.2.2.2.2.2.1 x.1.2.2.2.2.2.2.2.2.2.2.2.2.2.1 x.1.2.2.2.2.2.2.2.2.2.2.2.2.2.2.1 x.1.2.2.2.2.2.2.2.2.2.2.2.2.2.2.2.1 x.1.2.2.2.2.2.2.2.2.2.2.2.2.2.2.2.2.1 x.1.2.2.2.2.2.2.2.2.2.2.2.2.2.2.2.2.2.1⟩, ⟨158, s158, fun x h => g158 x.1.1 x.1.2.1 x.1.2.2.1 x.1.2.2.2.1 x.1.2.2.2.2.1 x.1.2.2.2.2.2.1 x.1.2.2.2.2.2.2.1 x.1.2.2.2.2.2.2.2.1 x.1.2.2.2.2.2.2.2.2.1 x.1.2.2.2.2.2.2.2.2.2.1 x.1.2.2.2.2.2.2.2.2.2.2.1 x.1.2.2.2.2.2.2.2.2.2.2.2.1 x.1.2.2.2.2.2.2.2.2.2.2.2.2.1 x.1.2.2.2.2.2.2.2.2.2.2.2.2.2.1 x.1.2.2.2.2.2.2.2.2.2.2.2.2.2.2.1 x.1.2.2.2.2.2.2.2.2.2.2.2.2.2.2.2.1 x.1.2.2.2.2.2.2.2.2.2.2.2.2.2.2.2.2.1 x.1.2.2.2.2.2.2.2.2.2.2.2.2.2.2.2.2.2.1⟩, ⟨160, s160, fun x h => g160 x.1.1 x.1.2.1 x.1.2.2.1 x.1.2.2.2.1 x.1.2.2.2.2.1 x.1.2.2.2.2.2.1 x.1.2.2.2.2.2.2.1 x.1.2.2.2.2.2.2.2.1 x.1.2.2.2.2.2.2.2.2.1 x.1.2.2.2.2.2.2.2.2.2.1 x.1.2.2.2.2.2.2.2.2.2.2.1 x.1.2.2.2.2.2.2.2.2.2.2.2.1 x.1.2.2.2.2.2.2.2.2.2.2.2.2.1 x.1.2.2.2.2.2.2.2.2.2.2.2.2.2.1 x.1.2.2.2.2.2.2.2.2.2.2.2.2.2.2.1 x.1.2.2.2.2.2.2.2.2.2.2.2.2.2.2.2.1 x.1.2.2.2.2.2.2.2.2.2.2.2.2.2.2.2.2.1 x.1.2.2.2.2.2.2.2.2.2.2.2.2.2.2.2.2.2.1⟩] L n78 s78 x h = F78 L g127 g151 g153 g167 g156 g158 g160 x.1 := by kernel_rfl
def f78 : Spec → Option (List UInt8) := F78 (@LN LOOPS) f127 f151 f153 f167 f156 f158 f160
@[reducible] def t78 : Ent := ⟨78, s78, fun x h => f78 x.1⟩
theorem k78 : chkNF Try.prog Try.f78 n78 = true := by kernel_rfl
theorem ok78 : NOk Try.prog t78 := NOk.body (T := [t127, t151, t153, t167, t156, t158, t160]) mixed (nall_cons ok127 (nall_cons ok151 (nall_cons ok153 (nall_cons ok167 (nall_cons ok156 (nall_cons ok158 (nall_cons ok160 nall_nil))))))) (oneEach_of (by kernel_rfl)) Try.func78 k78 (by kernel_rfl) (fun x h => e78 _ _ _ _ _ _ _ _ x h)
/- drayage/spec.Right -/
def n77 : NFunc := ⟨6, .seq (.region 1 [
    ⟨(some 1), .box 18 (.tmp 0), none, 0, none⟩,
    ⟨(some 2), .move (.const (.bool false)), none, 1, none⟩] []) (.seq (.region 4 [
    ⟨(some 3), .load true 18 (.tmp 1), none, 0, none⟩,
    ⟨(some 4), .call (.func 78) [(false, (.tmp 3))] false 4, none, 0, none⟩,
    ⟨(some 5), .bin .eql (.tmp 4) (.const (.str [])), none, 4, none⟩,
    ⟨(some 2), .move (.tmp 5), none, 4, none⟩] []) (.ret)), [.tmp 2], true⟩
def s77 : Sig := ⟨(.cons (.v .spec) .nil), [], ((.v .bool), []), []⟩
def F77 (L : Lp) (g78 : Spec → Option (List UInt8)) (as0 : Spec) : Option Bool :=
  Option.bind (g78 as0) fun r1 =>
  some (decide (r1 = ([] : List UInt8)))
theorem e77 (L : Lp) (g78 : Spec → Option (List UInt8)) (x : s77.args.den) (h : denH s77.heap) : nrun [⟨78, s78, fun x h => g78 x.1⟩] L n77 s77 x h = F77 L g78 x.1 := by kernel_rfl
def f77 : Spec → Option Bool := F77 (@LN LOOPS) f78
@[reducible] def t77 : Ent := ⟨77, s77, fun x h => f77 x.1⟩
theorem k77 : chkNF Try.prog Try.f77 n77 = true := by kernel_rfl
theorem ok77 : NOk Try.prog t77 := NOk.body (T := [t78]) mixed (nall_cons ok78 nall_nil) (oneEach_of (by kernel_rfl)) Try.func77 k77 (by kernel_rfl) (fun x h => e77 _ _ x h)
/- drayage/vec.Count -/
def n132 : NFunc := ⟨44, .seq (.region 2 [
    ⟨(some 2), .box 4 (.tmp 0), none, 0, none⟩,
    ⟨(some 3), .box 4 (.tmp 1), none, 1, none⟩,
    ⟨(some 4), .move (.const (.int .i64 (0))), none, 2, none⟩] []) (.seq (.seq (.region 8 [
    ⟨(some 9), .load true 4 (.tmp 2), none, 0, none⟩,
    ⟨(some 10), .call (.func 87) [(false, (.tmp 9))] false 4, none, 0, none⟩,
    ⟨(some 11), .un .not (.tmp 10), none, 4, none⟩,
    ⟨(some 12), .move (.tmp 11), none, 4, none⟩,
    ⟨(some 13), .load true 4 (.tmp 3), (some (12, false)), 4, none⟩,
    ⟨(some 14), .call (.func 87) [(false, (.tmp 13))] false 4, (some (12, false)), 4, none⟩,
    ⟨(some 15), .un .not (.tmp 14), (some (12, false)), 8, none⟩,
    ⟨(some 16), .pick (.tmp 12) (.const (.bool true)) (.tmp 15), none, 8, none⟩,
    ⟨(some 17), .move (.tmp 16), none, 8, none⟩,
    ⟨(some 18), .load true 4 (.tmp 3), (some (17, false)), 8, none⟩,
    ⟨(some 19), .build [.int .i64 (0), .int .i64 (0), .int .i64 (0), .int .i64 (0)] [], (some (17, false)), 8, none⟩,
    ⟨(some 20), .eqAgg (false, [.int .i64, .int .i64, .int .i64, .int .i64]) (.tmp 18) (.tmp 19), (some (17, false)), 8, none⟩,
    ⟨(some 21), .pick (.tmp 17) (.const (.bool true)) (.tmp 20), none, 8, none⟩] []) (.cond (.tmp 21) (.seq (.region 0 [
    ⟨(some 4), .move (.const (.int .i64 (0))), none, 0, none⟩] []) (.ret)) (.skip))) (.seq (.region 0 [
    ⟨(some 5), .move (.const (.int .i64 (64))), none, 0, none⟩] []) (.seq (.region 10 [
    ⟨(some 22), .load true 4 (.tmp 2), none, 0, (some ([], some [0]))⟩,
    ⟨(some 23), .call (.func 134) [(false, (.tmp 22))] true 4, none, 0, (some ([], some []))⟩,
    ⟨(some 24), .load true 4 (.tmp 3), none, 4, (some ([], some [1]))⟩,
    ⟨(some 25), .call (.func 134) [(false, (.tmp 24))] false 4, none, 4, (some ([], some []))⟩,
    ⟨(some 6), .alloc [.int .i64 (0), .int .i64 (0), .int .i64 (0), .int .i64 (0)], none, 8, (some ([], some []))⟩,
    ⟨(some 7), .alloc [.int .i64 (0), .int .i64 (0), .int .i64 (0), .int .i64 (0)], none, 9, (some ([], some []))⟩,
    ⟨none, .store 4 (.tmp 6) (.tmp 23), none, 10, (some ([8], some []))⟩,
    ⟨none, .store 4 (.tmp 7) (.tmp 25), none, 10, (some ([9], some []))⟩] []) (.seq (.seq (.region 0 [
    ⟨(some 26), .move (.const (.int .i64 (0))), none, 0, none⟩] []) (.block 0 (.loop [5, 6, 7, 26] ⟨[(5, (.v (.int .i64))), (6, (.ptr 0 0 0)), (7, (.ptr 1 0 0)), (26, (.v (.int .i64)))], [], [.one false (.pair (.int .i64) (.pair (.int .i64) (.pair (.int .i64) (.int .i64)))), .one false (.pair (.int .i64) (.pair (.int .i64) (.pair (.int .i64) (.int .i64))))]⟩ (.seq (.region 0 [
    ⟨(some 27), .bin .lss (.tmp 26) (.const (.int .i64 (4))), none, 0, none⟩] []) (.seq (.cond (.tmp 27) (.skip) (.exit 0)) (.seq (.meet [5, 6, 7, 26] [] ⟨[(5, (.v (.int .i64))), (6, (.ptr 0 0 0)), (7, (.ptr 1 0 0))], [26], [.one false (.pair (.int .i64) (.pair (.int .i64) (.pair (.int .i64) (.int .i64)))), .one false (.pair (.int .i64) (.pair (.int .i64) (.pair (.int .i64) (.int .i64))))]⟩ (.block 1 (.seq (.region 0 [
    ⟨(some 28), .move (.tmp 26), none, 0, none⟩,
    ⟨(some 8), .move (.tmp 28), none, 0, none⟩] []) (.seq (.meet [6, 7, 26, 8, 5, 32] [] ⟨[(6, (.ptr 0 0 0)), (7, (.ptr 1 0 0)), (32, (.v .bool))], [5, 8, 26], [.one false (.pair (.int .i64) (.pair (.int .i64) (.pair (.int .i64) (.int .i64)))), .one false (.pair (.int .i64) (.pair (.int .i64) (.pair (.int .i64) (.int .i64))))]⟩ (.region 0 [
    ⟨(some 29), .move (.tmp 8), none, 0, none⟩,
    ⟨(some 30), .indexArr 4 1 (.tmp 7) (.tmp 29), none, 0, none⟩,
    ⟨(some 31), .load false 1 (.tmp 30), none, 0, none⟩,
    ⟨(some 32), .bin .gtr (.tmp 31) (.const (.int .i64 (0))), none, 0, none⟩] [⟨30, none, some (29, 4)⟩])) (.cond (.tmp 32) (.region 0 [
    ⟨(some 33), .move (.tmp 5), none, 0, (some ([], none))⟩,
    ⟨(some 34), .move (.tmp 8), none, 0, (some ([], none))⟩,
    ⟨(some 35), .indexArr 4 1 (.tmp 6) (.tmp 34), none, 0, (some ([], none))⟩,
    ⟨(some 36), .load false 1 (.tmp 35), none, 0, (some ([], none))⟩,
    ⟨(some 37), .move (.tmp 8), none, 0, (some ([], none))⟩,
    ⟨(some 38), .indexArr 4 1 (.tmp 7) (.tmp 37), none, 0, (some ([], none))⟩,
    ⟨(some 39), .load false 1 (.tmp 38), none, 0, (some ([], none))⟩,
    ⟨(some 40), .bin .quo (.tmp 36) (.tmp 39), none, 0, (some ([], none))⟩,
    ⟨(some 41), .minmax false (.tmp 33) (.tmp 40), none, 0, (some ([], none))⟩,
    ⟨(some 5), .move (.tmp 41), none, 0, (some ([], none))⟩] [⟨35, none, some (34, 4)⟩, ⟨38, none, some (37, 4)⟩]) (.skip)))))) (.region 0 [
    ⟨(some 42), .bin .add (.tmp 26) (.const (.int .i64 (1))), none, 0, none⟩,
    ⟨(some 26), .move (.tmp 42), none, 0, none⟩] []))))))) (.seq (.region 0 [
    ⟨(some 43), .move (.tmp 5), none, 0, none⟩,
    ⟨(some 4), .move (.tmp 43), none, 0, none⟩] []) (.ret)))))), [.tmp 4], true⟩
def s132 : Sig := ⟨(.cons (.v .res) (.cons (.v .res) .nil)), [], ((.v (.int .i64)), []), []⟩
def l132_0  (next : ((Int × (Unit × (Unit × (Int × Unit)))) × ((Int × (Int × (Int × Int))) × ((Int × (Int × (Int × Int))) × Unit))) → Option Int) (zn7 : Int) (z8 : Int) (z9 : (Int × (Int × (Int × Int)))) (z10 : (Int × (Int × (Int × Int)))) : Option Int :=
  cond (decide (z8 < 4))
    (Option.bind (α := ((Int × (Unit × (Unit × Unit))) × ((Int × (Int × (Int × Int))) × ((Int × (Int × (Int × Int))) × Unit))))
      (Option.bind (α := ((Unit × (Unit × (Bool × Unit))) × ((Int × (Int × (Int × Int))) × ((Int × (Int × (Int × Int))) × Unit))))
        (cond (decide (z8 = 3))
          (some (((), (), decide (0 < z10.2.2.2), ()), (z9, z10, ())))
          (cond (decide (z8 = 2))
            (some (((), (), decide (0 < z10.2.2.1), ()), (z9, z10, ())))
            (cond (decide (z8 = 1))
              (some (((), (), decide (0 < z10.2.1), ()), (z9, z10, ())))
              (cond (decide (z8 = 0))
                (some (((), (), decide (0 < z10.1), ()), (z9, z10, ())))
                (none))))) fun x11 =>
      cond x11.1.2.2.1
        (cond (decide (z8 = 3))
          (cond (decide (z8 = 3))
            (cond (decide (x11.2.2.1.2.2.2 = 0))
              (none)
              (let v12 := if (IntKind.wrap .i64 (Int.tdiv x11.2.1.2.2.2 x11.2.2.1.2.2.2)) < zn7 then (IntKind.wrap .i64 (Int.tdiv x11.2.1.2.2.2 x11.2.2.1.2.2.2)) else zn7
              some ((v12, (), (), ()), (x11.2.1, x11.2.2.1, ()))))
            (cond (decide (z8 = 2))
              (cond (decide (x11.2.2.1.2.2.1 = 0))
                (none)
                (let v13 := if (IntKind.wrap .i64 (Int.tdiv x11.2.1.2.2.2 x11.2.2.1.2.2.1)) < zn7 then (IntKind.wrap .i64 (Int.tdiv x11.2.1.2.2.2 x11.2.2.1.2.2.1)) else zn7
                some ((v13, (), (), ()), (x11.2.1, x11.2.2.1, ()))))
              (cond (decide (z8 = 1))
                (cond (decide (x11.2.2.1.2.1 = 0))
                  (none)
                  (let v14 := if (IntKind.wrap .i64 (Int.tdiv x11.2.1.2.2.2 x11.2.2.1.2.1)) < zn7 then (IntKind.wrap .i64 (Int.tdiv x11.2.1.2.2.2 x11.2.2.1.2.1)) else zn7
                  some ((v14, (), (), ()), (x11.2.1, x11.2.2.1, ()))))
                (cond (decide (z8 = 0))
                  (cond (decide (x11.2.2.1.1 = 0))
                    (none)
                    (let v15 := if (IntKind.wrap .i64 (Int.tdiv x11.2.1.2.2.2 x11.2.2.1.1)) < zn7 then (IntKind.wrap .i64 (Int.tdiv x11.2.1.2.2.2 x11.2.2.1.1)) else zn7
                    some ((v15, (), (), ()), (x11.2.1, x11.2.2.1, ()))))
                  (none)))))
          (cond (decide (z8 = 2))
            (cond (decide (z8 = 3))
              (cond (decide (x11.2.2.1.2.2.2 = 0))
                (none)
                (let v16 := if (IntKind.wrap .i64 (Int.tdiv x11.2.1.2.2.1 x11.2.2.1.2.2.2)) < zn7 then (IntKind.wrap .i64 (Int.tdiv x11.2.1.2.2.1 x11.2.2.1.2.2.2)) else zn7
                some ((v16, (), (), ()), (x11.2.1, x11.2.2.1, ()))))
              (cond (decide (z8 = 2))
                (cond (decide (x11.2.2.1.2.2.1 = 0))
                  (none)
                  (let v17 := if (IntKind.wrap .i64 (Int.tdiv x11.2.1.2.2.1 x11.2.2.1.2.2.1)) < zn7 then (IntKind.wrap .i64 (Int.tdiv x11.2.1.2.2.1 x11.2.2.1.2.2.1)) else zn7
                  some ((v17, (), (), ()), (x11.2.1, x11.2.2.1, ()))))
                (cond (decide (z8 = 1))
                  (cond (decide (x11.2.2.1.2.1 = 0))
                    (none)
                    (let v18 := if (IntKind.wrap .i64 (Int.tdiv x11.2.1.2.2.1 x11.2.2.1.2.1)) < zn7 then (IntKind.wrap .i64 (Int.tdiv x11.2.1.2.2.1 x11.2.2.1.2.1)) else zn7
                    some ((v18, (), (), ()), (x11.2.1, x11.2.2.1, ()))))
                  (cond (decide (z8 = 0))
                    (cond (decide (x11.2.2.1.1 = 0))
                      (none)
                      (let v19 := if (IntKind.wrap .i64 (Int.tdiv x11.2.1.2.2.1 x11.2.2.1.1)) < zn7 then (IntKind.wrap .i64 (Int.tdiv x11.2.1.2.2.1 x11.2.2.1.1)) else zn7
                      some ((v19, (), (), ()), (x11.2.1, x11.2.2.1, ()))))
                    (none)))))
            (cond (decide (z8 = 1))
              (cond (decide (z8 = 3))
                (cond (decide (x11.2.2.1.2.2.2 = 0))
                  (none)
                  (let v20 := if (IntKind.wrap .i64 (Int.tdiv x11.2.1.2.1 x11.2.2.1.2.2.2)) < zn7 then (IntKind.wrap .i64 (Int.tdiv x11.2.1.2.1 x11.2.2.1.2.2.2)) else zn7
                  some ((v20, (), (), ()), (x11.2.1, x11.2.2.1, ()))))
                (cond (decide (z8 = 2))
                  (cond (decide (x11.2.2.1.2.2.1 = 0))
                    (none)
                    (let v21 := if (IntKind.wrap .i64 (Int.tdiv x11.2.1.2.1 x11.2.2.1.2.2.1)) < zn7 then (IntKind.wrap .i64 (Int.tdiv x11.2.1.2.1 x11.2.2.1.2.2.1)) else zn7
                    some ((v21, (), (), ()), (x11.2.1, x11.2.2.1, ()))))
                  (cond (decide (z8 = 1))
                    (cond (decide (x11.2.2.1.2.1 = 0))
                      (none)
                      (let v22 := if (IntKind.wrap .i64 (Int.tdiv x11.2.1.2.1 x11.2.2.1.2.1)) < zn7 then (IntKind.wrap .i64 (Int.tdiv x11.2.1.2.1 x11.2.2.1.2.1)) else zn7
                      some ((v22, (), (), ()), (x11.2.1, x11.2.2.1, ()))))
                    (cond (decide (z8 = 0))
                      (cond (decide (x11.2.2.1.1 = 0))
                        (none)
                        (let v23 := if (IntKind.wrap .i64 (Int.tdiv x11.2.1.2.1 x11.2.2.1.1)) < zn7 then (IntKind.wrap .i64 (Int.tdiv x11.2.1.2.1 x11.2.2.1.1)) else zn7
                        some ((v23, (), (), ()), (x11.2.1, x11.2.2.1, ()))))
                      (none)))))
              (cond (decide (z8 = 0))
                (cond (decide (z8 = 3))
                  (cond (decide (x11.2.2.1.2.2.2 = 0))
                    (none)
                    (let v24 := if (IntKind.wrap .i64 (Int.tdiv x11.2.1.1 x11.2.2.1.2.2.2)) < zn7 then (IntKind.wrap .i64 (Int.tdiv x11.2.1.1 x11.2.2.1.2.2.2)) else zn7
                    some ((v24, (), (), ()), (x11.2.1, x11.2.2.1, ()))))
                  (cond (decide (z8 = 2))
                    (cond (decide (x11.2.2.1.2.2.1 = 0))
                      (none)
                      (let v25 := if (IntKind.wrap .i64 (Int.tdiv x11.2.1.1 x11.2.2.1.2.2.1)) < zn7 then (IntKind.wrap .i64 (Int.tdiv x11.2.1.1 x11.2.2.1.2.2.1)) else zn7
                      some ((v25, (), (), ()), (x11.2.1, x11.2.2.1, ()))))
                    (cond (decide (z8 = 1))
                      (cond (decide (x11.2.2.1.2.1 = 0))
                        (none)
                        (let v26 := if (IntKind.wrap .i64 (Int.tdiv x11.2.1.1 x11.2.2.1.2.1)) < zn7 then (IntKind.wrap .i64 (Int.tdiv x11.2.1.1 x11.2.2.1.2.1)) else zn7
                        some ((v26, (), (), ()), (x11.2.1, x11.2.2.1, ()))))
                      (cond (decide (z8 = 0))
                        (cond (decide (x11.2.2.1.1 = 0))
                          (none)
                          (let v27 := if (IntKind.wrap .i64 (Int.tdiv x11.2.1.1 x11.2.2.1.1)) < zn7 then (IntKind.wrap .i64 (Int.tdiv x11.2.1.1 x11.2.2.1.1)) else zn7
                          some ((v27, (), (), ()), (x11.2.1, x11.2.2.1, ()))))
                        (none)))))
                (none)))))
        (some ((zn7, (), (), ()), (x11.2.1, x11.2.2.1, ())))) fun x28 =>
    next ((x28.1.1, (), (), IntKind.wrap .i64 (z8 + 1), ()), (x28.2.1, x28.2.2.1, ())))
    (some zn7)
def F132 (L : Lp) (g87 : Res → Option Bool) (g134 : Res → Option (Int × (Int × (Int × Int)))) (free0 : Res) (need1 : Res) : Option Int :=
  Option.bind (g87 free0) fun r2 =>
  cond (!r2)
    (some 0)
    (Option.bind (g87 need1) fun r3 =>
    cond (!r3)
      (some 0)
      (cond ((decide (need1.cpu = 0)) && ((decide (need1.mem = 0)) && ((decide (need1.gpu = 0)) && ((decide (need1.lic = 0)) && true))))
        (some 0)
        (Option.bind (g134 free0) fun r4 =>
        Option.bind (g134 need1) fun r5 =>
        L (fun (s6 : ((Int × (Unit × (Unit × (Int × Unit)))) × ((Int × (Int × (Int × Int))) × ((Int × (Int × (Int × Int))) × Unit)))) next => l132_0 next s6.1.1 s6.1.2.2.2.1 s6.2.1 s6.2.2.1) ((64, (), (), 0, ()), (r4, r5, ())))))
theorem e132 (L : Lp) (g87 : Res → Option Bool) (g134 : Res → Option (Int × (Int × (Int × Int)))) (x : s132.args.den) (h : denH s132.heap) : nrun [⟨87, s87, fun x h => g87 x.1⟩, ⟨134, s134, fun x h => g134 x.1⟩] L n132 s132 x h = F132 L g87 g134 x.1 x.2.1 := by kernel_rfl
def f132 : Res → Res → Option Int := F132 (@LN LOOPS) f87 f134
@[reducible] def t132 : Ent := ⟨132, s132, fun x h => f132 x.1 x.2.1⟩
theorem k132 : chkNF Try.prog Try.f132 n132 = true := by kernel_rfl
theorem ok132 : NOk Try.prog t132 := NOk.body (T := [t87, t134]) mixed (nall_cons ok87 (nall_cons ok134 nall_nil)) (oneEach_of (by kernel_rfl)) Try.func132 k132 (by kernel_rfl) (fun x h => e132 _ _ _ x h)
/- drayage/spec.Room -/
def n80 : NFunc := ⟨45, .seq (.region 2 [
    ⟨(some 3), .box 18 (.tmp 0), none, 0, none⟩,
    ⟨(some 5), .box 4 (.tmp 2), none, 1, none⟩,
    ⟨(some 6), .move (.const (.int .i64 (0))), none, 2, none⟩] []) (.seq (.seq (.region 4 [
    ⟨(some 10), .load true 18 (.tmp 3), none, 0, none⟩,
    ⟨(some 11), .call (.func 77) [(false, (.tmp 10))] false 4, none, 0, none⟩,
    ⟨(some 12), .un .not (.tmp 11), none, 4, none⟩,
    ⟨(some 13), .move (.tmp 12), none, 4, none⟩,
    ⟨(some 14), .move (.tmp 1), (some (13, false)), 4, none⟩,
    ⟨(some 15), .bin .lss (.tmp 14) (.const (.int .i64 (0))), (some (13, false)), 4, none⟩,
    ⟨(some 16), .pick (.tmp 13) (.const (.bool true)) (.tmp 15), none, 4, none⟩,
    ⟨(some 17), .move (.tmp 16), none, 4, none⟩,
    ⟨(some 18), .move (.tmp 1), (some (17, false)), 4, none⟩,
    ⟨(some 19), .fieldAddr 1 (.tmp 3), (some (17, false)), 4, none⟩,
    ⟨(some 20), .load false 1 (.tmp 19), (some (17, false)), 4, none⟩,
    ⟨(some 21), .len (.tmp 20), (some (17, false)), 4, none⟩,
    ⟨(some 22), .bin .geq (.tmp 18) (.tmp 21), (some (17, false)), 4, none⟩,
    ⟨(some 23), .pick (.tmp 17) (.const (.bool true)) (.tmp 22), none, 4, none⟩] []) (.cond (.tmp 23) (.seq (.region 0 [
    ⟨(some 6), .move (.const (.int .i64 (0))), none, 0, none⟩] []) (.ret)) (.skip))) (.seq (.region 0 [
    ⟨(some 7), .move (.const (.int .i64 (0))), none, 0, none⟩] []) (.seq (.seq (.region 0 [
    ⟨(some 24), .fieldAddr 1 (.tmp 3), none, 0, none⟩,
    ⟨(some 25), .load false 1 (.tmp 24), none, 0, none⟩,
    ⟨(some 26), .move (.tmp 1), none, 0, none⟩,
    ⟨(some 27), .indexSl 1 (.tmp 25) (.tmp 26), none, 0, none⟩,
    ⟨(some 28), .load false 1 (.tmp 27), none, 0, none⟩,
    ⟨(some 29), .len (.tmp 28), none, 0, none⟩,
    ⟨(some 30), .move (.const (.int .i64 (0))), none, 0, none⟩] []) (.block 0 (.loop [3, 5, 7, 28, 29, 30] ⟨[(3, (.ptr 0 0 0)), (5, (.ptr 1 0 0)), (7, (.v (.int .i64))), (30, (.v (.int .i64)))], [28, 29], [.one false .spec, .one false .res]⟩ (.seq (.region 0 [
    ⟨(some 31), .bin .lss (.tmp 30) (.tmp 29), none, 0, none⟩] []) (.seq (.cond (.tmp 31) (.skip) (.exit 0)) (.seq (.block 1 (.seq (.region 0 [
    ⟨(some 32), .indexSl 1 (.tmp 28) (.tmp 30), none, 0, none⟩,
    ⟨(some 33), .load false 1 (.tmp 32), none, 0, none⟩,
    ⟨(some 9), .move (.tmp 33), none, 0, none⟩] []) (.region 4 [
    ⟨(some 34), .move (.tmp 7), none, 0, (some ([], none))⟩,
    ⟨(some 35), .fieldAddr 0 (.tmp 3), none, 0, (some ([], none))⟩,
    ⟨(some 36), .load false 1 (.tmp 35), none, 0, (some ([], none))⟩,
    ⟨(some 37), .move (.tmp 9), none, 0, (some ([], none))⟩,
    ⟨(some 38), .indexSl 4 (.tmp 36) (.tmp 37), none, 0, (some ([], none))⟩,
    ⟨(some 39), .load true 4 (.tmp 38), none, 0, (some ([], none))⟩,
    ⟨(some 40), .load true 4 (.tmp 5), none, 0, (some ([], none))⟩,
    ⟨(some 41), .call (.func 132) [(false, (.tmp 39)), (false, (.tmp 40))] false 4, none, 0, (some ([], none))⟩,
    ⟨(some 42), .bin .add (.tmp 34) (.tmp 41), none, 4, (some ([0, 1, 2, 3], none))⟩,
    ⟨(some 7), .move (.tmp 42), none, 4, (some ([0, 1, 2, 3], none))⟩] []))) (.region 0 [
    ⟨(some 43), .bin .add (.tmp 30) (.const (.int .i64 (1))), none, 0, none⟩,
    ⟨(some 30), .move (.tmp 43), none, 0, none⟩] []))))))) (.seq (.region 0 [
    ⟨(some 44), .move (.tmp 7), none, 0, none⟩,
    ⟨(some 6), .move (.tmp 44), none, 0, none⟩] []) (.ret))))), [.tmp 6], true⟩
def s80 : Sig := ⟨(.cons (.v .spec) (.cons (.v (.int .i64)) (.cons (.v .res) .nil))), [], ((.v (.int .i64)), []), []⟩
def l80_0 (g132 : Res → Res → Option Int) (y4 : (List Int)) (next : ((Unit × (Unit × (Int × (Int × Unit)))) × (Spec × (Res × Unit))) → Option Int) (room6 : Int) (z7 : Int) (z8 : Spec) (z9 : Res) : Option Int :=
  cond (decide (z7 < (List.length y4 : Int)))
    (cond (decide (0 ≤ z7))
      (Option.bind (y4[Int.toNat z7]?) fun y10 =>
      cond (decide (0 ≤ y10))
        (Option.bind (z8.nodes[Int.toNat y10]?) fun y11 =>
        Option.bind (g132 y11 z9) fun r12 =>
        next (((), (), IntKind.wrap .i64 (room6 + r12), IntKind.wrap .i64 (z7 + 1), ()), (z8, z9, ())))
        (none))
      (none))
    (some room6)
def F80 (L : Lp) (g77 : Spec → Option Bool) (g132 : Res → Res → Option Int) (as0 : Spec) (part1 : Int) (need2 : Res) : Option Int :=
  Option.bind (g77 as0) fun r3 =>
  cond (!r3)
    (some 0)
    (cond (decide (part1 < 0))
      (some 0)
      (cond (decide ((List.length as0.parts : Int) ≤ part1))
        (some 0)
        (cond (decide (0 ≤ part1))
          (Option.bind (as0.parts[Int.toNat part1]?) fun y4 =>
          L (fun (s5 : ((Unit × (Unit × (Int × (Int × Unit)))) × (Spec × (Res × Unit)))) next => l80_0 g132 y4 next s5.1.2.2.1 s5.1.2.2.2.1 s5.2.1 s5.2.2.1) (((), (), 0, 0, ()), (as0, need2, ())))
          (none))))
theorem e80 (L : Lp) (g77 : Spec → Option Bool) (g132 : Res → Res → Option Int) (x : s80.args.den) (h : denH s80.heap) : nrun [⟨77, s77, fun x h => g77 x.1⟩, ⟨132, s132, fun x h => g132 x.1 x.2.1⟩] L n80 s80 x h = F80 L g77 g132 x.1 x.2.1 x.2.2.1 := by kernel_rfl
def f80 : Spec → Int → Res → Option Int := F80 (@LN LOOPS) f77 f132
@[reducible] def t80 : Ent := ⟨80, s80, fun x h => f80 x.1 x.2.1 x.2.2.1⟩
theorem k80 : chkNF Try.prog Try.f80 n80 = true := by kernel_rfl
theorem ok80 : NOk Try.prog t80 := NOk.body (T := [t77, t132]) mixed (nall_cons ok77 (nall_cons ok132 nall_nil)) (oneEach_of (by kernel_rfl)) Try.func80 k80 (by kernel_rfl) (fun x h => e80 _ _ _ x h)
/- drayage/spec.Fits -/
def n18 : NFunc := ⟨38, .seq (.region 2 [
    ⟨(some 4), .box 18 (.tmp 0), none, 0, none⟩,
    ⟨(some 7), .box 4 (.tmp 3), none, 1, none⟩,
    ⟨(some 8), .move (.const (.bool false)), none, 2, none⟩] []) (.seq (.seq (.region 4 [
    ⟨(some 9), .load true 18 (.tmp 4), none, 0, none⟩,
    ⟨(some 10), .call (.func 77) [(false, (.tmp 9))] false 4, none, 0, none⟩,
    ⟨(some 11), .un .not (.tmp 10), none, 4, none⟩,
    ⟨(some 12), .move (.tmp 11), none, 4, none⟩,
    ⟨(some 13), .move (.tmp 1), (some (12, false)), 4, none⟩,
    ⟨(some 14), .bin .lss (.tmp 13) (.const (.int .i64 (0))), (some (12, false)), 4, none⟩,
    ⟨(some 15), .pick (.tmp 12) (.const (.bool true)) (.tmp 14), none, 4, none⟩,
    ⟨(some 16), .move (.tmp 15), none, 4, none⟩,
    ⟨(some 17), .move (.tmp 1), (some (16, false)), 4, none⟩,
    ⟨(some 18), .fieldAddr 2 (.tmp 4), (some (16, false)), 4, none⟩,
    ⟨(some 19), .load false 1 (.tmp 18), (some (16, false)), 4, none⟩,
    ⟨(some 20), .len (.tmp 19), (some (16, false)), 4, none⟩,
    ⟨(some 21), .bin .geq (.tmp 17) (.tmp 20), (some (16, false)), 4, none⟩,
    ⟨(some 22), .pick (.tmp 16) (.const (.bool true)) (.tmp 21), none, 4, none⟩,
    ⟨(some 23), .move (.tmp 22), none, 4, none⟩,
    ⟨(some 24), .move (.tmp 2), (some (23, false)), 4, none⟩,
    ⟨(some 25), .bin .lss (.tmp 24) (.const (.int .i64 (1))), (some (23, false)), 4, none⟩,
    ⟨(some 26), .pick (.tmp 23) (.const (.bool true)) (.tmp 25), none, 4, none⟩] []) (.cond (.tmp 26) (.seq (.region 0 [
    ⟨(some 8), .move (.const (.bool false)), none, 0, none⟩] []) (.ret)) (.skip))) (.seq (.region 4 [
    ⟨(some 27), .load true 18 (.tmp 4), none, 0, (some ([], none))⟩,
    ⟨(some 28), .fieldAddr 2 (.tmp 4), none, 0, (some ([], none))⟩,
    ⟨(some 29), .load false 1 (.tmp 28), none, 0, (some ([], none))⟩,
    ⟨(some 30), .move (.tmp 1), none, 0, (some ([], none))⟩,
    ⟨(some 31), .indexSl 6 (.tmp 29) (.tmp 30), none, 0, (some ([], none))⟩,
    ⟨(some 32), .fieldAddr 0 (.tmp 31), none, 0, (some ([], none))⟩,
    ⟨(some 33), .load false 1 (.tmp 32), none, 0, (some ([], none))⟩,
    ⟨(some 34), .load true 4 (.tmp 7), none, 0, (some ([], none))⟩,
    ⟨(some 35), .call (.func 80) [(false, (.tmp 27)), (false, (.tmp 33)), (false, (.tmp 34))] false 4, none, 0, (some ([], none))⟩,
    ⟨(some 36), .move (.tmp 2), none, 4, (some ([], none))⟩,
    ⟨(some 37), .bin .geq (.tmp 35) (.tmp 36), none, 4, (some ([0, 1, 2, 3], none))⟩,
    ⟨(some 8), .move (.tmp 37), none, 4, (some ([0, 1, 2, 3], none))⟩] []) (.ret))), [.tmp 8], true⟩
def s18 : Sig := ⟨(.cons (.v .spec) (.cons (.v (.int .i64)) (.cons (.v (.int .i64)) (.cons (.v .res) .nil)))), [], ((.v .bool), []), []⟩
def F18 (L : Lp) (g77 : Spec → Option Bool) (g80 : Spec → Int → Res → Option Int) (as0 : Spec) (queue1 : Int) (many2 : Int) (need3 : Res) : Option Bool :=
  Option.bind (g77 as0) fun r4 =>
  cond (!r4)
    (some false)
    (cond (decide (queue1 < 0))
      (some false)
      (cond (decide ((List.length as0.queues : Int) ≤ queue1))
        (some false)
        (cond (decide (many2 < 1))
          (some false)
          (cond (decide (0 ≤ queue1))
            (Option.bind (as0.queues[Int.toNat queue1]?) fun y5 =>
            Option.bind (g80 as0 y5.part need3) fun r6 =>
            some (decide (many2 ≤ r6)))
            (none)))))
theorem e18 (L : Lp) (g77 : Spec → Option Bool) (g80 : Spec → Int → Res → Option Int) (x : s18.args.den) (h : denH s18.heap) : nrun [⟨77, s77, fun x h => g77 x.1⟩, ⟨80, s80, fun x h => g80 x.1 x.2.1 x.2.2.1⟩] L n18 s18 x h = F18 L g77 g80 x.1 x.2.1 x.2.2.1 x.2.2.2.1 := by kernel_rfl
def f18 : Spec → Int → Int → Res → Option Bool := F18 (@LN LOOPS) f77 f80
@[reducible] def t18 : Ent := ⟨18, s18, fun x h => f18 x.1 x.2.1 x.2.2.1 x.2.2.2.1⟩
theorem k18 : chkNF Try.prog Try.f18 n18 = true := by kernel_rfl
theorem ok18 : NOk Try.prog t18 := NOk.body (T := [t77, t80]) mixed (nall_cons ok77 (nall_cons ok80 nall_nil)) (oneEach_of (by kernel_rfl)) Try.func18 k18 (by kernel_rfl) (fun x h => e18 _ _ _ x h)
/- drayage/drayagelaw07.awake -/
def n15 : NFunc := ⟨23, .seq (.region 0 [
    ⟨(some 0), .move (.const (.bool false)), none, 0, none⟩] []) (.seq (.region 5 [
    ⟨(some 3), .call (.func 76) [] false 4, none, 0, none⟩,
    ⟨(some 1), .alloc [.zsl, .zsl, .zsl, .int .i64 (0), .int .i64 (0), .int .i64 (0), .int .i64 (0), .int .i64 (0), .int .i64 (0), .int .i64 (0), .int .i64 (0), .int .i64 (0), .int .i64 (0), .int .i64 (0), .int .i64 (0), .int .i64 (0), .int .i64 (0), .int .i64 (0)], none, 4, none⟩,
    ⟨none, .store 18 (.tmp 1) (.tmp 3), none, 5, none⟩] []) (.seq (.region 1 [
    ⟨(some 4), .build [.int .i64 (0), .int .i64 (0), .int .i64 (0), .int .i64 (0)] [(0, 1, (.const (.int .i64 (4))))], none, 0, none⟩,
    ⟨(some 2), .alloc [.int .i64 (0), .int .i64 (0), .int .i64 (0), .int .i64 (0)], none, 0, none⟩,
    ⟨none, .store 4 (.tmp 2) (.tmp 4), none, 1, none⟩] []) (.seq (.region 16 [
    ⟨(some 5), .load true 18 (.tmp 1), none, 0, none⟩,
    ⟨(some 6), .call (.func 77) [(false, (.tmp 5))] false 4, none, 0, none⟩,
    ⟨(some 7), .move (.tmp 6), none, 4, none⟩,
    ⟨(some 8), .load true 18 (.tmp 1), (some (7, true)), 4, none⟩,
    ⟨(some 9), .load true 4 (.tmp 2), (some (7, true)), 4, none⟩,
    ⟨(some 10), .call (.func 18) [(false, (.tmp 8)), (false, (.const (.int .i64 (1)))), (false, (.const (.int .i64 (2)))), (false, (.tmp 9))] false 4, (some (7, true)), 4, none⟩,
    ⟨(some 11), .pick (.tmp 7) (.tmp 10) (.const (.bool false)), none, 8, none⟩,
    ⟨(some 12), .move (.tmp 11), none, 8, none⟩,
    ⟨(some 13), .load true 18 (.tmp 1), (some (12, true)), 8, none⟩,
    ⟨(some 14), .load true 4 (.tmp 2), (some (12, true)), 8, none⟩,
    ⟨(some 15), .call (.func 18) [(false, (.tmp 13)), (false, (.const (.int .i64 (1)))), (false, (.const (.int .i64 (3)))), (false, (.tmp 14))] false 4, (some (12, true)), 8, none⟩,
    ⟨(some 16), .un .not (.tmp 15), (some (12, true)), 12, none⟩,
    ⟨(some 17), .pick (.tmp 12) (.tmp 16) (.const (.bool false)), none, 12, none⟩,
    ⟨(some 18), .move (.tmp 17), none, 12, none⟩,
    ⟨(some 19), .build [.zsl, .zsl, .zsl, .int .i64 (0), .int .i64 (0), .int .i64 (0), .int .i64 (0), .int .i64 (0), .int .i64 (0), .int .i64 (0), .int .i64 (0), .int .i64 (0), .int .i64 (0), .int .i64 (0), .int .i64 (0), .int .i64 (0), .int .i64 (0), .int .i64 (0)] [], (some (18, true)), 12, none⟩,
    ⟨(some 20), .call (.func 78) [(false, (.tmp 19))] false 4, (some (18, true)), 12, none⟩,
    ⟨(some 21), .bin .eql (.tmp 20) (.const (.str [78, 111, 100, 101, 115])), (some (18, true)), 16, none⟩,
    ⟨(some 22), .pick (.tmp 18) (.tmp 21) (.const (.bool false)), none, 16, none⟩,
    ⟨(some 0), .move (.tmp 22), none, 16, none⟩] []) (.ret)))), [.tmp 0], true⟩
def s15 : Sig := ⟨.nil, [], ((.v .bool), []), []⟩
def F15 (L : Lp) (g76 : Option Spec) (g77 : Spec → Option Bool) (g18 : Spec → Int → Int → Res → Option Bool) (g78 : Spec → Option (List UInt8))  : Option Bool :=
  Option.bind (g76) fun r0 =>
  Option.bind (g77 r0) fun r1 =>
  cond r1
    (Option.bind (g18 r0 1 2 (Res.mk 4 0 0 0)) fun r2 =>
    cond r2
      (Option.bind (g18 r0 1 3 (Res.mk 4 0 0 0)) fun r3 =>
      cond (!r3)
        (Option.bind (g78 (Spec.mk [] [] [] 0 (Weights.mk 0 0 0 0) 0 0 0 0 0 0 0 0 0 0)) fun r4 =>
        some (decide (r4 = ([78, 111, 100, 101, 115] : List UInt8))))
        (some false))
      (some false))
    (some false)
theorem e15 (L : Lp) (g76 : Option Spec) (g77 : Spec → Option Bool) (g18 : Spec → Int → Int → Res → Option Bool) (g78 : Spec → Option (List UInt8)) (x : s15.args.den) (h : denH s15.heap) : nrun [⟨76, s76, fun x h => g76 ⟩, ⟨77, s77, fun x h => g77 x.1⟩, ⟨18, s18, fun x h => g18 x.1 x.2.1 x.2.2.1 x.2.2.2.1⟩, ⟨78, s78, fun x h => g78 x.1⟩] L n15 s15 x h = F15 L g76 g77 g18 g78  := by kernel_rfl
def f15 : Option Bool := F15 (@LN LOOPS) f76 f77 f18 f78
@[reducible] def t15 : Ent := ⟨15, s15, fun x h => f15 ⟩
theorem k15 : chkNF Try.prog Try.f15 n15 = true := by kernel_rfl
theorem ok15 : NOk Try.prog t15 := NOk.body (T := [t76, t77, t18, t78]) mixed (nall_cons ok76 (nall_cons ok77 (nall_cons ok18 (nall_cons ok78 nall_nil)))) (oneEach_of (by kernel_rfl)) Try.func15 k15 (by kernel_rfl) (fun x h => e15 _ _ _ _ _ x h)
/- drayage/drayagelaw07.Few -/
def n16 : NFunc := ⟨46, .seq (.region 1 [
    ⟨(some 1), .box 18 (.tmp 0), none, 0, none⟩,
    ⟨(some 2), .move (.const (.bool false)), none, 1, none⟩] []) (.seq (.seq (.region 0 [
    ⟨(some 7), .fieldAddr 0 (.tmp 1), none, 0, none⟩,
    ⟨(some 8), .load false 1 (.tmp 7), none, 0, none⟩,
    ⟨(some 9), .len (.tmp 8), none, 0, none⟩,
    ⟨(some 10), .bin .gtr (.tmp 9) (.const (.int .i64 (40))), none, 0, none⟩,
    ⟨(some 11), .move (.tmp 10), none, 0, none⟩,
    ⟨(some 12), .fieldAddr 1 (.tmp 1), (some (11, false)), 0, none⟩,
    ⟨(some 13), .load false 1 (.tmp 12), (some (11, false)), 0, none⟩,
    ⟨(some 14), .len (.tmp 13), (some (11, false)), 0, none⟩,
    ⟨(some 15), .bin .gtr (.tmp 14) (.const (.int .i64 (20))), (some (11, false)), 0, none⟩,
    ⟨(some 16), .pick (.tmp 11) (.const (.bool true)) (.tmp 15), none, 0, none⟩,
    ⟨(some 17), .move (.tmp 16), none, 0, none⟩,
    ⟨(some 18), .fieldAddr 2 (.tmp 1), (some (17, false)), 0, none⟩,
    ⟨(some 19), .load false 1 (.tmp 18), (some (17, false)), 0, none⟩,
    ⟨(some 20), .len (.tmp 19), (some (17, false)), 0, none⟩,
    ⟨(some 21), .bin .gtr (.tmp 20) (.const (.int .i64 (20))), (some (17, false)), 0, none⟩,
    ⟨(some 22), .pick (.tmp 17) (.const (.bool true)) (.tmp 21), none, 0, none⟩] []) (.cond (.tmp 22) (.seq (.region 0 [
    ⟨(some 2), .move (.const (.bool false)), none, 0, none⟩] []) (.ret)) (.skip))) (.seq (.seq (.region 0 [
    ⟨(some 23), .fieldAddr 1 (.tmp 1), none, 0, none⟩,
    ⟨(some 24), .load false 1 (.tmp 23), none, 0, none⟩,
    ⟨(some 25), .len (.tmp 24), none, 0, none⟩,
    ⟨(some 26), .move (.const (.int .i64 (0))), none, 0, none⟩] []) (.block 0 (.loop [1, 24, 25, 26] ⟨[(1, (.ptr 0 0 0)), (26, (.v (.int .i64)))], [24, 25], [.one false .spec]⟩ (.seq (.region 0 [
    ⟨(some 27), .bin .lss (.tmp 26) (.tmp 25), none, 0, none⟩] []) (.seq (.cond (.tmp 27) (.skip) (.exit 0)) (.seq (.block 1 (.seq (.region 0 [
    ⟨(some 28), .indexSl 1 (.tmp 24) (.tmp 26), none, 0, none⟩,
    ⟨(some 29), .load false 1 (.tmp 28), none, 0, none⟩,
    ⟨(some 4), .move (.tmp 29), none, 0, none⟩] []) (.seq (.region 0 [
    ⟨(some 30), .move (.tmp 4), none, 0, none⟩,
    ⟨(some 31), .len (.tmp 30), none, 0, none⟩,
    ⟨(some 32), .bin .gtr (.tmp 31) (.const (.int .i64 (40))), none, 0, none⟩] []) (.cond (.tmp 32) (.seq (.region 0 [
    ⟨(some 2), .move (.const (.bool false)), none, 0, none⟩] []) (.ret)) (.skip))))) (.region 0 [
    ⟨(some 33), .bin .add (.tmp 26) (.const (.int .i64 (1))), none, 0, none⟩,
    ⟨(some 26), .move (.tmp 33), none, 0, none⟩] []))))))) (.seq (.seq (.region 0 [
    ⟨(some 34), .fieldAddr 2 (.tmp 1), none, 0, none⟩,
    ⟨(some 35), .load false 1 (.tmp 34), none, 0, none⟩,
    ⟨(some 36), .len (.tmp 35), none, 0, none⟩,
    ⟨(some 37), .move (.const (.int .i64 (0))), none, 0, none⟩] []) (.block 2 (.loop [35, 36, 37] ⟨[(37, (.v (.int .i64)))], [35, 36], []⟩ (.seq (.region 0 [
    ⟨(some 38), .bin .lss (.tmp 37) (.tmp 36), none, 0, none⟩] []) (.seq (.cond (.tmp 38) (.skip) (.exit 2)) (.seq (.block 3 (.seq (.region 1 [
    ⟨(some 39), .indexSl 6 (.tmp 35) (.tmp 37), none, 0, none⟩,
    ⟨(some 40), .load true 6 (.tmp 39), none, 0, none⟩,
    ⟨(some 6), .alloc [.int .i64 (0), .zsl, .int .i64 (0), .int .i64 (0), .int .i64 (0), .int .i64 (0)], none, 0, none⟩,
    ⟨none, .store 6 (.tmp 6) (.tmp 40), none, 1, none⟩] []) (.seq (.region 0 [
    ⟨(some 41), .fieldAddr 1 (.tmp 6), none, 0, none⟩,
    ⟨(some 42), .load false 1 (.tmp 41), none, 0, none⟩,
    ⟨(some 43), .len (.tmp 42), none, 0, none⟩,
    ⟨(some 44), .bin .gtr (.tmp 43) (.const (.int .i64 (40))), none, 0, none⟩] []) (.cond (.tmp 44) (.seq (.region 0 [
    ⟨(some 2), .move (.const (.bool false)), none, 0, none⟩] []) (.ret)) (.skip))))) (.region 0 [
    ⟨(some 45), .bin .add (.tmp 37) (.const (.int .i64 (1))), none, 0, none⟩,
    ⟨(some 37), .move (.tmp 45), none, 0, none⟩] []))))))) (.seq (.region 0 [
    ⟨(some 2), .move (.const (.bool true)), none, 0, none⟩] []) (.ret))))), [.tmp 2], true⟩
def s16 : Sig := ⟨(.cons (.v .spec) .nil), [], ((.v .bool), []), []⟩
def l16_0 (z3 : Spec) (next : ((Int × Unit) × Unit) → Option Bool) (z6 : Int) : Option Bool :=
  cond (decide (z6 < (List.length z3.queues : Int)))
    (cond (decide (0 ≤ z6))
      (Option.bind (z3.queues[Int.toNat z6]?) fun y7 =>
      cond (decide (40 < (List.length y7.users : Int)))
        (some false)
        (next ((IntKind.wrap .i64 (z6 + 1), ()), ())))
      (none))
    (some true)
def l16_1 (L : Lp) (as0 : Spec) (next : ((Unit × (Int × Unit)) × (Spec × Unit)) → Option Bool) (z2 : Int) (z3 : Spec) : Option Bool :=
  cond (decide (z2 < (List.length as0.parts : Int)))
    (cond (decide (0 ≤ z2))
      (Option.bind (as0.parts[Int.toNat z2]?) fun y4 =>
      cond (decide (40 < (List.length y4 : Int)))
        (some false)
        (next (((), IntKind.wrap .i64 (z2 + 1), ()), (z3, ()))))
      (none))
    (L (fun (s5 : ((Int × Unit) × Unit)) next => l16_0 z3 next s5.1.1) ((0, ()), ()))
def F16 (L : Lp)  (as0 : Spec) : Option Bool :=
  cond (decide (40 < (List.length as0.nodes : Int)))
    (some false)
    (cond (decide (20 < (List.length as0.parts : Int)))
      (some false)
      (cond (decide (20 < (List.length as0.queues : Int)))
        (some false)
        (L (fun (s1 : ((Unit × (Int × Unit)) × (Spec × Unit))) next => l16_1 L as0 next s1.1.2.1 s1.2.1) (((), 0, ()), (as0, ())))))
theorem e16 (L : Lp)  (x : s16.args.den) (h : denH s16.heap) : nrun [] L n16 s16 x h = F16 L  x.1 := by kernel_rfl
def f16 : Spec → Option Bool := F16 (@LN LOOPS) 
@[reducible] def t16 : Ent := ⟨16, s16, fun x h => f16 x.1⟩
theorem k16 : chkNF Try.prog Try.f16 n16 = true := by kernel_rfl
theorem ok16 : NOk Try.prog t16 := NOk.body (T := []) mixed nall_nil (oneEach_of (by kernel_rfl)) Try.func16 k16 (by kernel_rfl) (fun x h => e16 _  x h)
/- drayage/drayageref07.in -/
def n128 : NFunc := ⟨15, .seq (.region 0 [
    ⟨(some 6), .move (.const (.bool false)), none, 0, none⟩] []) (.seq (.region 0 [
    ⟨(some 7), .move (.tmp 1), none, 0, none⟩,
    ⟨(some 8), .move (.tmp 0), none, 0, none⟩,
    ⟨(some 9), .bin .leq (.tmp 7) (.tmp 8), none, 0, none⟩,
    ⟨(some 10), .move (.tmp 9), none, 0, none⟩,
    ⟨(some 11), .move (.tmp 0), (some (10, true)), 0, none⟩,
    ⟨(some 12), .move (.tmp 2), (some (10, true)), 0, none⟩,
    ⟨(some 13), .bin .leq (.tmp 11) (.tmp 12), (some (10, true)), 0, none⟩,
    ⟨(some 14), .pick (.tmp 10) (.tmp 13) (.const (.bool false)), none, 0, none⟩,
    ⟨(some 6), .move (.tmp 14), none, 0, none⟩] []) (.ret)), [.tmp 6], true⟩
def s128 : Sig := ⟨(.cons (.v (.int .i64)) (.cons (.v (.int .i64)) (.cons (.v (.int .i64)) .nil))), [], ((.v .bool), []), []⟩
def F128 (L : Lp)  (an0 : Int) (lo1 : Int) (hi2 : Int) : Option Bool :=
  cond (decide (lo1 ≤ an0))
    (some (decide (an0 ≤ hi2)))
    (some false)
theorem e128 (L : Lp)  (x : s128.args.den) (h : denH s128.heap) : nrun [] L n128 s128 x h = F128 L  x.1 x.2.1 x.2.2.1 := by kernel_rfl
def f128 : Int → Int → Int → Option Bool := F128 (@LN LOOPS) 
@[reducible] def t128 : Ent := ⟨128, s128, fun x h => f128 x.1 x.2.1 x.2.2.1⟩
theorem k128 : chkNF Try.prog Try.f128 n128 = true := by kernel_rfl
theorem ok128 : NOk Try.prog t128 := NOk.body (T := []) mixed nall_nil (oneEach_of (by kernel_rfl)) Try.func128 k128 (by kernel_rfl) (fun x h => e128 _  x h)
/- drayage/drayageref02.right -/
def n81 : NFunc := ⟨9, .seq (.region 0 [
    ⟨(some 2), .move (.const (.bool false)), none, 0, none⟩] []) (.seq (.region 0 [
    ⟨(some 3), .move (.tmp 0), none, 0, none⟩,
    ⟨(some 4), .bin .geq (.tmp 3) (.const (.int .i64 (0))), none, 0, none⟩,
    ⟨(some 5), .move (.tmp 4), none, 0, none⟩,
    ⟨(some 6), .move (.tmp 0), (some (5, true)), 0, none⟩,
    ⟨(some 7), .bin .leq (.tmp 6) (.const (.int .i64 (1048576))), (some (5, true)), 0, none⟩,
    ⟨(some 8), .pick (.tmp 5) (.tmp 7) (.const (.bool false)), none, 0, none⟩,
    ⟨(some 2), .move (.tmp 8), none, 0, none⟩] []) (.ret)), [.tmp 2], true⟩
def s81 : Sig := ⟨(.cons (.v (.int .i64)) .nil), [], ((.v .bool), []), []⟩
def F81 (L : Lp)  (an0 : Int) : Option Bool :=
  cond (decide (0 ≤ an0))
    (some (decide (an0 ≤ 1048576)))
    (some false)
theorem e81 (L : Lp)  (x : s81.args.den) (h : denH s81.heap) : nrun [] L n81 s81 x h = F81 L  x.1 := by kernel_rfl
def f81 : Int → Option Bool := F81 (@LN LOOPS) 
@[reducible] def t81 : Ent := ⟨81, s81, fun x h => f81 x.1⟩
theorem k81 : chkNF Try.prog Try.f81 n81 = true := by kernel_rfl
theorem ok81 : NOk Try.prog t81 := NOk.body (T := []) mixed nall_nil (oneEach_of (by kernel_rfl)) Try.func81 k81 (by kernel_rfl) (fun x h => e81 _  x h)
/- drayage/drayageref02.Right -/
def n19 : NFunc := ⟨21, .seq (.region 1 [
    ⟨(some 1), .box 4 (.tmp 0), none, 0, none⟩,
    ⟨(some 2), .move (.const (.bool false)), none, 1, none⟩] []) (.seq (.region 16 [
    ⟨(some 3), .fieldAddr 0 (.tmp 1), none, 0, none⟩,
    ⟨(some 4), .load false 1 (.tmp 3), none, 0, none⟩,
    ⟨(some 5), .call (.func 81) [(false, (.tmp 4))] false 4, none, 0, none⟩,
    ⟨(some 6), .move (.tmp 5), none, 4, none⟩,
    ⟨(some 7), .fieldAddr 1 (.tmp 1), (some (6, true)), 4, none⟩,
    ⟨(some 8), .load false 1 (.tmp 7), (some (6, true)), 4, none⟩,
    ⟨(some 9), .call (.func 81) [(false, (.tmp 8))] false 4, (some (6, true)), 4, none⟩,
    ⟨(some 10), .pick (.tmp 6) (.tmp 9) (.const (.bool false)), none, 8, none⟩,
    ⟨(some 11), .move (.tmp 10), none, 8, none⟩,
    ⟨(some 12), .fieldAddr 2 (.tmp 1), (some (11, true)), 8, none⟩,
    ⟨(some 13), .load false 1 (.tmp 12), (some (11, true)), 8, none⟩,
    ⟨(some 14), .call (.func 81) [(false, (.tmp 13))] false 4, (some (11, true)), 8, none⟩,
    ⟨(some 15), .pick (.tmp 11) (.tmp 14) (.const (.bool false)), none, 12, none⟩,
    ⟨(some 16), .move (.tmp 15), none, 12, none⟩,
    ⟨(some 17), .fieldAddr 3 (.tmp 1), (some (16, true)), 12, none⟩,
    ⟨(some 18), .load false 1 (.tmp 17), (some (16, true)), 12, none⟩,
    ⟨(some 19), .call (.func 81) [(false, (.tmp 18))] false 4, (some (16, true)), 12, none⟩,
    ⟨(some 20), .pick (.tmp 16) (.tmp 19) (.const (.bool false)), none, 16, none⟩,
    ⟨(some 2), .move (.tmp 20), none, 16, none⟩] []) (.ret)), [.tmp 2], true⟩
def s19 : Sig := ⟨(.cons (.v .res) .nil), [], ((.v .bool), []), []⟩
def F19 (L : Lp) (g81 : Int → Option Bool) (a0 : Res) : Option Bool :=
  Option.bind (g81 a0.cpu) fun r1 =>
  cond r1
    (Option.bind (g81 a0.mem) fun r2 =>
    cond r2
      (Option.bind (g81 a0.gpu) fun r3 =>
      cond r3
        (Option.bind (g81 a0.lic) fun r4 =>
        some r4)
        (some false))
      (some false))
    (some false)
theorem e19 (L : Lp) (g81 : Int → Option Bool) (x : s19.args.den) (h : denH s19.heap) : nrun [⟨81, s81, fun x h => g81 x.1⟩] L n19 s19 x h = F19 L g81 x.1 := by kernel_rfl
def f19 : Res → Option Bool := F19 (@LN LOOPS) f81
@[reducible] def t19 : Ent := ⟨19, s19, fun x h => f19 x.1⟩
theorem k19 : chkNF Try.prog Try.f19 n19 = true := by kernel_rfl
theorem ok19 : NOk Try.prog t19 := NOk.body (T := [t81]) mixed (nall_cons ok81 nall_nil) (oneEach_of (by kernel_rfl)) Try.func19 k19 (by kernel_rfl) (fun x h => e19 _ _ x h)
/- drayage/drayageref07.nodes -/
def n129 : NFunc := ⟨22, .seq (.region 1 [
    ⟨(some 1), .box 18 (.tmp 0), none, 0, none⟩,
    ⟨(some 2), .move (.const (.bool false)), none, 1, none⟩] []) (.seq (.seq (.region 0 [
    ⟨(some 3), .move (.const (.int .i64 (0))), none, 0, none⟩] []) (.block 0 (.loop [1, 3] ⟨[(1, (.ptr 0 0 0)), (3, (.v (.int .i64)))], [], [.one false .spec]⟩ (.seq (.seq (.region 0 [
    ⟨(some 4), .move (.tmp 3), none, 0, none⟩,
    ⟨(some 5), .fieldAddr 0 (.tmp 1), none, 0, none⟩,
    ⟨(some 6), .load false 1 (.tmp 5), none, 0, none⟩,
    ⟨(some 7), .len (.tmp 6), none, 0, none⟩,
    ⟨(some 8), .bin .lss (.tmp 4) (.tmp 7), none, 0, none⟩] []) (.cond (.tmp 8) (.skip) (.exit 0))) (.seq (.block 1 (.seq (.region 4 [
    ⟨(some 11), .fieldAddr 0 (.tmp 1), none, 0, none⟩,
    ⟨(some 12), .load false 1 (.tmp 11), none, 0, none⟩,
    ⟨(some 13), .move (.tmp 3), none, 0, none⟩,
    ⟨(some 14), .indexSl 4 (.tmp 12) (.tmp 13), none, 0, none⟩,
    ⟨(some 15), .load true 4 (.tmp 14), none, 0, none⟩,
    ⟨(some 16), .call (.func 19) [(false, (.tmp 15))] false 4, none, 0, none⟩,
    ⟨(some 17), .un .not (.tmp 16), none, 4, none⟩] []) (.cond (.tmp 17) (.seq (.region 0 [
    ⟨(some 2), .move (.const (.bool false)), none, 0, none⟩] []) (.ret)) (.skip)))) (.region 0 [
    ⟨(some 9), .move (.tmp 3), none, 0, none⟩,
    ⟨(some 10), .bin .add (.tmp 9) (.const (.int .i64 (1))), none, 0, none⟩,
    ⟨(some 3), .move (.tmp 10), none, 0, none⟩] [])))))) (.seq (.region 4 [
    ⟨(some 18), .fieldAddr 0 (.tmp 1), none, 0, none⟩,
    ⟨(some 19), .load false 1 (.tmp 18), none, 0, none⟩,
    ⟨(some 20), .len (.tmp 19), none, 0, none⟩,
    ⟨(some 21), .call (.func 128) [(false, (.tmp 20)), (false, (.const (.int .i64 (1)))), (false, (.const (.int .i64 (16))))] false 4, none, 0, none⟩,
    ⟨(some 2), .move (.tmp 21), none, 4, none⟩] []) (.ret))), [.tmp 2], true⟩
def s129 : Sig := ⟨(.cons (.v .spec) .nil), [], ((.v .bool), []), []⟩
def l129_0 (g19 : Res → Option Bool) (g128 : Int → Int → Int → Option Bool) (next : ((Unit × (Int × Unit)) × (Spec × Unit)) → Option Bool) (i2 : Int) (z3 : Spec) : Option Bool :=
  cond (decide (i2 < (List.length z3.nodes : Int)))
    (cond (decide (0 ≤ i2))
      (Option.bind (z3.nodes[Int.toNat i2]?) fun y4 =>
      Option.bind (g19 y4) fun r5 =>
      cond (!r5)
        (some false)
        (next (((), IntKind.wrap .i64 (i2 + 1), ()), (z3, ()))))
      (none))
    (Option.bind (g128 (List.length z3.nodes : Int) 1 16) fun r6 =>
    some r6)
def F129 (L : Lp) (g19 : Res → Option Bool) (g128 : Int → Int → Int → Option Bool) (as0 : Spec) : Option Bool :=
  L (fun (s1 : ((Unit × (Int × Unit)) × (Spec × Unit))) next => l129_0 g19 g128 next s1.1.2.1 s1.2.1) (((), 0, ()), (as0, ()))
theorem e129 (L : Lp) (g19 : Res → Option Bool) (g128 : Int → Int → Int → Option Bool) (x : s129.args.den) (h : denH s129.heap) : nrun [⟨19, s19, fun x h => g19 x.1⟩, ⟨128, s128, fun x h => g128 x.1 x.2.1 x.2.2.1⟩] L n129 s129 x h = F129 L g19 g128 x.1 := by kernel_rfl
def f129 : Spec → Option Bool := F129 (@LN LOOPS) f19 f128
@[reducible] def t129 : Ent := ⟨129, s129, fun x h => f129 x.1⟩
theorem k129 : chkNF Try.prog Try.f129 n129 = true := by kernel_rfl
theorem ok129 : NOk Try.prog t129 := NOk.body (T := [t19, t128]) mixed (nall_cons ok19 (nall_cons ok128 nall_nil)) (oneEach_of (by kernel_rfl)) Try.func129 k129 (by kernel_rfl) (fun x h => e129 _ _ _ x h)
/- drayage/drayageref07.Rising -/
def n161 : NFunc := ⟨41, .seq (.region 0 [
    ⟨(some 4), .move (.const (.bool false)), none, 0, none⟩] []) (.seq (.seq (.region 0 [
    ⟨(some 5), .move (.const (.int .i64 (0))), none, 0, none⟩] []) (.block 0 (.loop [0, 1, 5] ⟨[(5, (.v (.int .i64)))], [0, 1], []⟩ (.seq (.seq (.region 0 [
    ⟨(some 6), .move (.tmp 5), none, 0, none⟩,
    ⟨(some 7), .move (.tmp 0), none, 0, none⟩,
    ⟨(some 8), .len (.tmp 7), none, 0, none⟩,
    ⟨(some 9), .bin .lss (.tmp 6) (.tmp 8), none, 0, none⟩] []) (.cond (.tmp 9) (.skip) (.exit 0))) (.seq (.block 1 (.seq (.region 0 [
    ⟨(some 12), .move (.tmp 0), none, 0, (some ([], none))⟩,
    ⟨(some 13), .move (.tmp 5), none, 0, (some ([], none))⟩,
    ⟨(some 14), .indexSl 1 (.tmp 12) (.tmp 13), none, 0, (some ([], none))⟩,
    ⟨(some 15), .load false 1 (.tmp 14), none, 0, (some ([], none))⟩,
    ⟨(some 16), .bin .lss (.tmp 15) (.const (.int .i64 (0))), none, 0, (some ([], none))⟩,
    ⟨(some 17), .move (.tmp 16), none, 0, (some ([], none))⟩,
    ⟨(some 18), .move (.tmp 0), (some (17, false)), 0, (some ([], none))⟩,
    ⟨(some 19), .move (.tmp 5), (some (17, false)), 0, (some ([], none))⟩,
    ⟨(some 20), .indexSl 1 (.tmp 18) (.tmp 19), (some (17, false)), 0, (some ([], none))⟩,
    ⟨(some 21), .load false 1 (.tmp 20), (some (17, false)), 0, (some ([], none))⟩,
    ⟨(some 22), .move (.tmp 1), (some (17, false)), 0, (some ([], none))⟩,
    ⟨(some 23), .bin .geq (.tmp 21) (.tmp 22), (some (17, false)), 0, (some ([], none))⟩,
    ⟨(some 24), .pick (.tmp 17) (.const (.bool true)) (.tmp 23), none, 0, (some ([], none))⟩,
    ⟨(some 25), .move (.tmp 24), none, 0, (some ([], none))⟩,
    ⟨(some 26), .move (.tmp 5), (some (25, false)), 0, (some ([], none))⟩,
    ⟨(some 27), .bin .gtr (.tmp 26) (.const (.int .i64 (0))), (some (25, false)), 0, (some ([], none))⟩,
    ⟨(some 28), .move (.tmp 27), (some (25, false)), 0, (some ([], none))⟩,
    ⟨(some 29), .move (.tmp 0), (some (28, true)), 0, (some ([], none))⟩,
    ⟨(some 30), .move (.tmp 5), (some (28, true)), 0, (some ([], none))⟩,
    ⟨(some 31), .bin .sub (.tmp 30) (.const (.int .i64 (1))), (some (28, true)), 0, (some ([], none))⟩,
    ⟨(some 32), .indexSl 1 (.tmp 29) (.tmp 31), (some (28, true)), 0, (some ([], none))⟩,
    ⟨(some 33), .load false 1 (.tmp 32), (some (28, true)), 0, (some ([], none))⟩,
    ⟨(some 34), .move (.tmp 0), (some (28, true)), 0, (some ([], none))⟩,
    ⟨(some 35), .move (.tmp 5), (some (28, true)), 0, (some ([], none))⟩,
    ⟨(some 36), .indexSl 1 (.tmp 34) (.tmp 35), (some (28, true)), 0, (some ([], none))⟩,
    ⟨(some 37), .load false 1 (.tmp 36), (some (28, true)), 0, (some ([], none))⟩,
    ⟨(some 38), .bin .geq (.tmp 33) (.tmp 37), (some (28, true)), 0, (some ([], none))⟩,
    ⟨(some 39), .pick (.tmp 28) (.tmp 38) (.const (.bool false)), (some (25, false)), 0, (some ([], none))⟩,
    ⟨(some 40), .pick (.tmp 25) (.const (.bool true)) (.tmp 39), none, 0, (some ([], none))⟩] []) (.cond (.tmp 40) (.seq (.region 0 [
    ⟨(some 4), .move (.const (.bool false)), none, 0, none⟩] []) (.ret)) (.skip)))) (.region 0 [
    ⟨(some 10), .move (.tmp 5), none, 0, none⟩,
    ⟨(some 11), .bin .add (.tmp 10) (.const (.int .i64 (1))), none, 0, none⟩,
    ⟨(some 5), .move (.tmp 11), none, 0, none⟩] [])))))) (.seq (.region 0 [
    ⟨(some 4), .move (.const (.bool true)), none, 0, none⟩] []) (.ret))), [.tmp 4], true⟩
def s161 : Sig := ⟨(.cons (.v (.list (.int .i64))) (.cons (.v (.int .i64)) .nil)), [], ((.v .bool), []), []⟩
def l161_0 (al0 : (List Int)) (below1 : Int) (next : ((Int × Unit) × Unit) → Option Bool) (i3 : Int) : Option Bool :=
  cond (decide (i3 < (List.length al0 : Int)))
    (cond (decide (0 ≤ i3))
      (Option.bind (al0[Int.toNat i3]?) fun y4 =>
      cond (decide (y4 < 0))
        (some false)
        (cond (decide (0 ≤ i3))
          (Option.bind (al0[Int.toNat i3]?) fun y5 =>
          cond (decide (below1 ≤ y5))
            (some false)
            (cond (decide (0 < i3))
              (cond (decide (0 ≤ (IntKind.wrap .i64 (i3 - 1))))
                (Option.bind (al0[Int.toNat (IntKind.wrap .i64 (i3 - 1))]?) fun y6 =>
                cond (decide (0 ≤ i3))
                  (Option.bind (al0[Int.toNat i3]?) fun y7 =>
                  cond (decide (y7 ≤ y6))
                    (some false)
                    (next ((IntKind.wrap .i64 (i3 + 1), ()), ())))
                  (none))
                (none))
              (next ((IntKind.wrap .i64 (i3 + 1), ()), ()))))
          (none)))
      (none))
    (some true)
def F161 (L : Lp)  (al0 : (List Int)) (below1 : Int) : Option Bool :=
  L (fun (s2 : ((Int × Unit) × Unit)) next => l161_0 al0 below1 next s2.1.1) ((0, ()), ())
theorem e161 (L : Lp)  (x : s161.args.den) (h : denH s161.heap) : nrun [] L n161 s161 x h = F161 L  x.1 x.2.1 := by kernel_rfl
def f161 : (List Int) → Int → Option Bool := F161 (@LN LOOPS) 
@[reducible] def t161 : Ent := ⟨161, s161, fun x h => f161 x.1 x.2.1⟩
theorem k161 : chkNF Try.prog Try.f161 n161 = true := by kernel_rfl
theorem ok161 : NOk Try.prog t161 := NOk.body (T := []) mixed nall_nil (oneEach_of (by kernel_rfl)) Try.func161 k161 (by kernel_rfl) (fun x h => e161 _  x h)
/- drayage/drayageref07.parts -/
def n130 : NFunc := ⟨34, .seq (.region 1 [
    ⟨(some 1), .box 18 (.tmp 0), none, 0, none⟩,
    ⟨(some 2), .move (.const (.bool false)), none, 1, none⟩] []) (.seq (.seq (.region 0 [
    ⟨(some 3), .move (.const (.int .i64 (0))), none, 0, none⟩] []) (.block 0 (.loop [1, 3] ⟨[(1, (.ptr 0 0 0)), (3, (.v (.int .i64)))], [], [.one false .spec]⟩ (.seq (.seq (.region 0 [
    ⟨(some 4), .move (.tmp 3), none, 0, none⟩,
    ⟨(some 5), .fieldAddr 1 (.tmp 1), none, 0, none⟩,
    ⟨(some 6), .load false 1 (.tmp 5), none, 0, none⟩,
    ⟨(some 7), .len (.tmp 6), none, 0, none⟩,
    ⟨(some 8), .bin .lss (.tmp 4) (.tmp 7), none, 0, none⟩] []) (.cond (.tmp 8) (.skip) (.exit 0))) (.seq (.block 1 (.seq (.region 4 [
    ⟨(some 11), .fieldAddr 1 (.tmp 1), none, 0, (some ([], none))⟩,
    ⟨(some 12), .load false 1 (.tmp 11), none, 0, (some ([], none))⟩,
    ⟨(some 13), .move (.tmp 3), none, 0, (some ([], none))⟩,
    ⟨(some 14), .indexSl 1 (.tmp 12) (.tmp 13), none, 0, (some ([], none))⟩,
    ⟨(some 15), .load false 1 (.tmp 14), none, 0, (some ([], none))⟩,
    ⟨(some 16), .len (.tmp 15), none, 0, (some ([], none))⟩,
    ⟨(some 17), .bin .lss (.tmp 16) (.const (.int .i64 (1))), none, 0, (some ([], none))⟩,
    ⟨(some 18), .move (.tmp 17), none, 0, (some ([], none))⟩,
    ⟨(some 19), .fieldAddr 1 (.tmp 1), (some (18, false)), 0, (some ([], none))⟩,
    ⟨(some 20), .load false 1 (.tmp 19), (some (18, false)), 0, (some ([], none))⟩,
    ⟨(some 21), .move (.tmp 3), (some (18, false)), 0, (some ([], none))⟩,
    ⟨(some 22), .indexSl 1 (.tmp 20) (.tmp 21), (some (18, false)), 0, (some ([], none))⟩,
    ⟨(some 23), .load false 1 (.tmp 22), (some (18, false)), 0, (some ([], none))⟩,
    ⟨(some 24), .fieldAddr 0 (.tmp 1), (some (18, false)), 0, (some ([], none))⟩,
    ⟨(some 25), .load false 1 (.tmp 24), (some (18, false)), 0, (some ([], none))⟩,
    ⟨(some 26), .len (.tmp 25), (some (18, false)), 0, (some ([], none))⟩,
    ⟨(some 27), .call (.func 161) [(false, (.tmp 23)), (false, (.tmp 26))] false 4, (some (18, false)), 0, (some ([], none))⟩,
    ⟨(some 28), .un .not (.tmp 27), (some (18, false)), 4, (some ([0, 1, 2, 3], none))⟩,
    ⟨(some 29), .pick (.tmp 18) (.const (.bool true)) (.tmp 28), none, 4, (some ([0, 1, 2, 3], none))⟩] []) (.cond (.tmp 29) (.seq (.region 0 [
    ⟨(some 2), .move (.const (.bool false)), none, 0, none⟩] []) (.ret)) (.skip)))) (.region 0 [
    ⟨(some 9), .move (.tmp 3), none, 0, none⟩,
    ⟨(some 10), .bin .add (.tmp 9) (.const (.int .i64 (1))), none, 0, none⟩,
    ⟨(some 3), .move (.tmp 10), none, 0, none⟩] [])))))) (.seq (.region 4 [
    ⟨(some 30), .fieldAddr 1 (.tmp 1), none, 0, none⟩,
    ⟨(some 31), .load false 1 (.tmp 30), none, 0, none⟩,
    ⟨(some 32), .len (.tmp 31), none, 0, none⟩,
    ⟨(some 33), .call (.func 128) [(false, (.tmp 32)), (false, (.const (.int .i64 (1)))), (false, (.const (.int .i64 (8))))] false 4, none, 0, none⟩,
    ⟨(some 2), .move (.tmp 33), none, 4, none⟩] []) (.ret))), [.tmp 2], true⟩
def s130 : Sig := ⟨(.cons (.v .spec) .nil), [], ((.v .bool), []), []⟩
def l130_0 (g161 : (List Int) → Int → Option Bool) (g128 : Int → Int → Int → Option Bool) (next : ((Unit × (Int × Unit)) × (Spec × Unit)) → Option Bool) (i2 : Int) (z3 : Spec) : Option Bool :=
  cond (decide (i2 < (List.length z3.parts : Int)))
    (cond (decide (0 ≤ i2))
      (Option.bind (z3.parts[Int.toNat i2]?) fun y4 =>
      cond (decide ((List.length y4 : Int) < 1))
        (some false)
        (cond (decide (0 ≤ i2))
          (Option.bind (z3.parts[Int.toNat i2]?) fun y5 =>
          Option.bind (g161 y5 (List.length z3.nodes : Int)) fun r6 =>
          cond (!r6)
            (some false)
            (next (((), IntKind.wrap .i64 (i2 + 1), ()), (z3, ()))))
          (none)))
      (none))
    (Option.bind (g128 (List.length z3.parts : Int) 1 8) fun r7 =>
    some r7)
def F130 (L : Lp) (g161 : (List Int) → Int → Option Bool) (g128 : Int → Int → Int → Option Bool) (as0 : Spec) : Option Bool :=
  L (fun (s1 : ((Unit × (Int × Unit)) × (Spec × Unit))) next => l130_0 g161 g128 next s1.1.2.1 s1.2.1) (((), 0, ()), (as0, ()))
theorem e130 (L : Lp) (g161 : (List Int) → Int → Option Bool) (g128 : Int → Int → Int → Option Bool) (x : s130.args.den) (h : denH s130.heap) : nrun [⟨161, s161, fun x h => g161 x.1 x.2.1⟩, ⟨128, s128, fun x h => g128 x.1 x.2.1 x.2.2.1⟩] L n130 s130 x h = F130 L g161 g128 x.1 := by kernel_rfl
def f130 : Spec → Option Bool := F130 (@LN LOOPS) f161 f128
@[reducible] def t130 : Ent := ⟨130, s130, fun x h => f130 x.1⟩
theorem k130 : chkNF Try.prog Try.f130 n130 = true := by kernel_rfl
theorem ok130 : NOk Try.prog t130 := NOk.body (T := [t161, t128]) mixed (nall_cons ok161 (nall_cons ok128 nall_nil)) (oneEach_of (by kernel_rfl)) Try.func130 k130 (by kernel_rfl) (fun x h => e130 _ _ _ x h)
/- drayage/drayageref07.queues -/
def n131 : NFunc := ⟨64, .seq (.region 1 [
    ⟨(some 1), .box 18 (.tmp 0), none, 0, none⟩,
    ⟨(some 2), .move (.const (.bool false)), none, 1, none⟩] []) (.seq (.seq (.region 0 [
    ⟨(some 3), .move (.const (.int .i64 (0))), none, 0, none⟩] []) (.block 0 (.loop [1, 3] ⟨[(1, (.ptr 0 0 0)), (3, (.v (.int .i64)))], [], [.one false .spec]⟩ (.seq (.seq (.region 0 [
    ⟨(some 5), .move (.tmp 3), none, 0, none⟩,
    ⟨(some 6), .fieldAddr 2 (.tmp 1), none, 0, none⟩,
    ⟨(some 7), .load false 1 (.tmp 6), none, 0, none⟩,
    ⟨(some 8), .len (.tmp 7), none, 0, none⟩,
    ⟨(some 9), .bin .lss (.tmp 5) (.tmp 8), none, 0, none⟩] []) (.cond (.tmp 9) (.skip) (.exit 0))) (.seq (.block 1 (.seq (.region 1 [
    ⟨(some 12), .fieldAddr 2 (.tmp 1), none, 0, none⟩,
    ⟨(some 13), .load false 1 (.tmp 12), none, 0, none⟩,
    ⟨(some 14), .move (.tmp 3), none, 0, none⟩,
    ⟨(some 15), .indexSl 6 (.tmp 13) (.tmp 14), none, 0, none⟩,
    ⟨(some 16), .load true 6 (.tmp 15), none, 0, none⟩,
    ⟨(some 4), .alloc [.int .i64 (0), .zsl, .int .i64 (0), .int .i64 (0), .int .i64 (0), .int .i64 (0)], none, 0, none⟩,
    ⟨none, .store 6 (.tmp 4) (.tmp 16), none, 1, none⟩] []) (.seq (.region 20 [
    ⟨(some 17), .fieldAddr 0 (.tmp 4), none, 0, none⟩,
    ⟨(some 18), .load false 1 (.tmp 17), none, 0, none⟩,
    ⟨(some 19), .bin .lss (.tmp 18) (.const (.int .i64 (0))), none, 0, none⟩,
    ⟨(some 20), .move (.tmp 19), none, 0, none⟩,
    ⟨(some 21), .fieldAddr 0 (.tmp 4), (some (20, false)), 0, none⟩,
    ⟨(some 22), .load false 1 (.tmp 21), (some (20, false)), 0, none⟩,
    ⟨(some 23), .fieldAddr 1 (.tmp 1), (some (20, false)), 0, none⟩,
    ⟨(some 24), .load false 1 (.tmp 23), (some (20, false)), 0, none⟩,
    ⟨(some 25), .len (.tmp 24), (some (20, false)), 0, none⟩,
    ⟨(some 26), .bin .geq (.tmp 22) (.tmp 25), (some (20, false)), 0, none⟩,
    ⟨(some 27), .pick (.tmp 20) (.const (.bool true)) (.tmp 26), none, 0, none⟩,
    ⟨(some 28), .move (.tmp 27), none, 0, none⟩,
    ⟨(some 29), .fieldAddr 1 (.tmp 4), (some (28, false)), 0, none⟩,
    ⟨(some 30), .load false 1 (.tmp 29), (some (28, false)), 0, none⟩,
    ⟨(some 31), .fieldAddr 3 (.tmp 1), (some (28, false)), 0, none⟩,
    ⟨(some 32), .load false 1 (.tmp 31), (some (28, false)), 0, none⟩,
    ⟨(some 33), .call (.func 161) [(false, (.tmp 30)), (false, (.tmp 32))] false 4, (some (28, false)), 0, none⟩,
    ⟨(some 34), .un .not (.tmp 33), (some (28, false)), 4, none⟩,
    ⟨(some 35), .pick (.tmp 28) (.const (.bool true)) (.tmp 34), none, 4, none⟩,
    ⟨(some 36), .move (.tmp 35), none, 4, none⟩,
    ⟨(some 37), .fieldAddr 2 (.tmp 4), (some (36, false)), 4, none⟩,
    ⟨(some 38), .load false 1 (.tmp 37), (some (36, false)), 4, none⟩,
    ⟨(some 39), .call (.func 128) [(false, (.tmp 38)), (false, (.const (.int .i64 (1)))), (false, (.const (.int .i64 (256))))] false 4, (some (36, false)), 4, none⟩,
    ⟨(some 40), .un .not (.tmp 39), (some (36, false)), 8, none⟩,
    ⟨(some 41), .pick (.tmp 36) (.const (.bool true)) (.tmp 40), none, 8, none⟩,
    ⟨(some 42), .move (.tmp 41), none, 8, none⟩,
    ⟨(some 43), .fieldAddr 3 (.tmp 4), (some (42, false)), 8, none⟩,
    ⟨(some 44), .load false 1 (.tmp 43), (some (42, false)), 8, none⟩,
    ⟨(some 45), .call (.func 128) [(false, (.tmp 44)), (false, (.const (.int .i64 (1)))), (false, (.const (.int .i64 (256))))] false 4, (some (42, false)), 8, none⟩,
    ⟨(some 46), .un .not (.tmp 45), (some (42, false)), 12, none⟩,
    ⟨(some 47), .pick (.tmp 42) (.const (.bool true)) (.tmp 46), none, 12, none⟩,
    ⟨(some 48), .move (.tmp 47), none, 12, none⟩,
    ⟨(some 49), .fieldAddr 4 (.tmp 4), (some (48, false)), 12, none⟩,
    ⟨(some 50), .load false 1 (.tmp 49), (some (48, false)), 12, none⟩,
    ⟨(some 51), .call (.func 128) [(false, (.tmp 50)), (false, (.const (.int .i64 (1)))), (false, (.const (.int .i64 (256))))] false 4, (some (48, false)), 12, none⟩,
    ⟨(some 52), .un .not (.tmp 51), (some (48, false)), 16, none⟩,
    ⟨(some 53), .pick (.tmp 48) (.const (.bool true)) (.tmp 52), none, 16, none⟩,
    ⟨(some 54), .move (.tmp 53), none, 16, none⟩,
    ⟨(some 55), .fieldAddr 5 (.tmp 4), (some (54, false)), 16, none⟩,
    ⟨(some 56), .load false 1 (.tmp 55), (some (54, false)), 16, none⟩,
    ⟨(some 57), .call (.func 128) [(false, (.tmp 56)), (false, (.const (.int .i64 (0)))), (false, (.const (.int .i64 (100))))] false 4, (some (54, false)), 16, none⟩,
    ⟨(some 58), .un .not (.tmp 57), (some (54, false)), 20, none⟩,
    ⟨(some 59), .pick (.tmp 54) (.const (.bool true)) (.tmp 58), none, 20, none⟩] []) (.cond (.tmp 59) (.seq (.region 0 [
    ⟨(some 2), .move (.const (.bool false)), none, 0, none⟩] []) (.ret)) (.skip))))) (.region 0 [
    ⟨(some 10), .move (.tmp 3), none, 0, none⟩,
    ⟨(some 11), .bin .add (.tmp 10) (.const (.int .i64 (1))), none, 0, none⟩,
    ⟨(some 3), .move (.tmp 11), none, 0, none⟩] [])))))) (.seq (.region 4 [
    ⟨(some 60), .fieldAddr 2 (.tmp 1), none, 0, none⟩,
    ⟨(some 61), .load false 1 (.tmp 60), none, 0, none⟩,
    ⟨(some 62), .len (.tmp 61), none, 0, none⟩,
    ⟨(some 63), .call (.func 128) [(false, (.tmp 62)), (false, (.const (.int .i64 (1)))), (false, (.const (.int .i64 (8))))] false 4, none, 0, none⟩,
    ⟨(some 2), .move (.tmp 63), none, 4, none⟩] []) (.ret))), [.tmp 2], true⟩
def s131 : Sig := ⟨(.cons (.v .spec) .nil), [], ((.v .bool), []), []⟩
def l131_0 (g161 : (List Int) → Int → Option Bool) (g128 : Int → Int → Int → Option Bool) (next : ((Unit × (Int × Unit)) × (Spec × Unit)) → Option Bool) (i2 : Int) (z3 : Spec) : Option Bool :=
  cond (decide (i2 < (List.length z3.queues : Int)))
    (cond (decide (0 ≤ i2))
      (Option.bind (z3.queues[Int.toNat i2]?) fun y4 =>
      cond (decide (y4.part < 0))
        (some false)
        (cond (decide ((List.length z3.parts : Int) ≤ y4.part))
          (some false)
          (Option.bind (g161 y4.users z3.users) fun r5 =>
          cond (!r5)
            (some false)
            (Option.bind (g128 y4.maxJobs 1 256) fun r6 =>
            cond (!r6)
              (some false)
              (Option.bind (g128 y4.maxRun 1 256) fun r7 =>
              cond (!r7)
                (some false)
                (Option.bind (g128 y4.maxUser 1 256) fun r8 =>
                cond (!r8)
                  (some false)
                  (Option.bind (g128 y4.qos 0 100) fun r9 =>
                  cond (!r9)
                    (some false)
                    (next (((), IntKind.wrap .i64 (i2 + 1), ()), (z3, ()))))))))))
      (none))
    (Option.bind (g128 (List.length z3.queues : Int) 1 8) fun r10 =>
    some r10)
def F131 (L : Lp) (g161 : (List Int) → Int → Option Bool) (g128 : Int → Int → Int → Option Bool) (as0 : Spec) : Option Bool :=
  L (fun (s1 : ((Unit × (Int × Unit)) × (Spec × Unit))) next => l131_0 g161 g128 next s1.1.2.1 s1.2.1) (((), 0, ()), (as0, ()))
theorem e131 (L : Lp) (g161 : (List Int) → Int → Option Bool) (g128 : Int → Int → Int → Option Bool) (x : s131.args.den) (h : denH s131.heap) : nrun [⟨161, s161, fun x h => g161 x.1 x.2.1⟩, ⟨128, s128, fun x h => g128 x.1 x.2.1 x.2.2.1⟩] L n131 s131 x h = F131 L g161 g128 x.1 := by kernel_rfl
def f131 : Spec → Option Bool := F131 (@LN LOOPS) f161 f128
@[reducible] def t131 : Ent := ⟨131, s131, fun x h => f131 x.1⟩
theorem k131 : chkNF Try.prog Try.f131 n131 = true := by kernel_rfl
theorem ok131 : NOk Try.prog t131 := NOk.body (T := [t161, t128]) mixed (nall_cons ok161 (nall_cons ok128 nall_nil)) (oneEach_of (by kernel_rfl)) Try.func131 k131 (by kernel_rfl) (fun x h => e131 _ _ _ x h)
/- drayage/drayageref07.Flaw -/
def n79 : NFunc := ⟨83, .seq (.region 1 [
    ⟨(some 1), .box 18 (.tmp 0), none, 0, none⟩,
    ⟨(some 2), .move (.const (.str [])), none, 1, none⟩] []) (.seq (.region 1 [
    ⟨(some 8), .fieldAddr 4 (.tmp 1), none, 0, none⟩,
    ⟨(some 9), .load true 4 (.tmp 8), none, 0, none⟩,
    ⟨(some 3), .alloc [.int .i64 (0), .int .i64 (0), .int .i64 (0), .int .i64 (0)], none, 0, none⟩,
    ⟨none, .store 4 (.tmp 3) (.tmp 9), none, 1, none⟩] []) (.seq (.meet [1, 4] [] ⟨[(1, (.ptr 0 0 0)), (4, (.v .bool))], [], [.one false .spec]⟩ (.region 16 [
    ⟨(some 10), .fieldAddr 0 (.tmp 3), none, 0, none⟩,
    ⟨(some 11), .load false 1 (.tmp 10), none, 0, none⟩,
    ⟨(some 12), .call (.func 128) [(false, (.tmp 11)), (false, (.const (.int .i64 (0)))), (false, (.const (.int .i64 (1000))))] false 4, none, 0, none⟩,
    ⟨(some 13), .move (.tmp 12), none, 4, none⟩,
    ⟨(some 14), .fieldAddr 1 (.tmp 3), (some (13, true)), 4, none⟩,
    ⟨(some 15), .load false 1 (.tmp 14), (some (13, true)), 4, none⟩,
    ⟨(some 16), .call (.func 128) [(false, (.tmp 15)), (false, (.const (.int .i64 (0)))), (false, (.const (.int .i64 (1000))))] false 4, (some (13, true)), 4, none⟩,
    ⟨(some 17), .pick (.tmp 13) (.tmp 16) (.const (.bool false)), none, 8, none⟩,
    ⟨(some 18), .move (.tmp 17), none, 8, none⟩,
    ⟨(some 19), .fieldAddr 2 (.tmp 3), (some (18, true)), 8, none⟩,
    ⟨(some 20), .load false 1 (.tmp 19), (some (18, true)), 8, none⟩,
    ⟨(some 21), .call (.func 128) [(false, (.tmp 20)), (false, (.const (.int .i64 (0)))), (false, (.const (.int .i64 (1000))))] false 4, (some (18, true)), 8, none⟩,
    ⟨(some 22), .pick (.tmp 18) (.tmp 21) (.const (.bool false)), none, 12, none⟩,
    ⟨(some 23), .move (.tmp 22), none, 12, none⟩,
    ⟨(some 24), .fieldAddr 3 (.tmp 3), (some (23, true)), 12, none⟩,
    ⟨(some 25), .load false 1 (.tmp 24), (some (23, true)), 12, none⟩,
    ⟨(some 26), .call (.func 128) [(false, (.tmp 25)), (false, (.const (.int .i64 (0)))), (false, (.const (.int .i64 (1000))))] false 4, (some (23, true)), 12, none⟩,
    ⟨(some 27), .pick (.tmp 23) (.tmp 26) (.const (.bool false)), none, 16, none⟩,
    ⟨(some 4), .move (.tmp 27), none, 16, none⟩] [])) (.seq (.region 1 [
    ⟨(some 28), .buildSlice 1 15 true [.str []] [(0, (.const (.str [78, 111, 100, 101, 115]))), (1, (.const (.str [80, 97, 114, 116, 115]))), (2, (.const (.str [85, 115, 101, 114, 115]))), (3, (.const (.str [81, 117, 101, 117, 101, 115]))), (4, (.const (.str [87, 101, 105, 103, 104, 116, 115]))), (5, (.const (.str [68, 101, 99, 97, 121]))), (6, (.const (.str [77, 111, 100, 101]))), (7, (.const (.str [74, 111, 98, 115]))), (8, (.const (.str [73, 100, 115]))), (9, (.const (.str [86, 101, 114, 115, 105, 111, 110, 115]))), (10, (.const (.str [76, 105, 110, 103, 101, 114]))), (11, (.const (.str [75, 101, 101, 112]))), (12, (.const (.str [73, 110]))), (13, (.const (.str [79, 117, 116]))), (14, (.const (.str [67, 97, 99, 104, 101])))], none, 0, none⟩,
    ⟨(some 5), .move (.tmp 28), none, 1, none⟩] []) (.seq (.region 57 [
    ⟨(some 29), .load true 18 (.tmp 1), none, 0, (some ([], none))⟩,
    ⟨(some 30), .call (.func 129) [(false, (.tmp 29))] true 4, none, 0, (some ([], none))⟩,
    ⟨(some 31), .load true 18 (.tmp 1), none, 4, (some ([], none))⟩,
    ⟨(some 32), .call (.func 130) [(false, (.tmp 31))] true 4, none, 4, (some ([0, 1, 2, 3], none))⟩,
    ⟨(some 33), .fieldAddr 3 (.tmp 1), none, 8, (some ([], none))⟩,
    ⟨(some 34), .load false 1 (.tmp 33), none, 8, (some ([], none))⟩,
    ⟨(some 35), .call (.func 128) [(false, (.tmp 34)), (false, (.const (.int .i64 (1)))), (false, (.const (.int .i64 (8))))] true 4, none, 8, (some ([0, 1, 2, 3, 4, 5, 6, 7], none))⟩,
    ⟨(some 36), .load true 18 (.tmp 1), none, 12, (some ([], none))⟩,
    ⟨(some 37), .call (.func 131) [(false, (.tmp 36))] true 4, none, 12, (some ([0, 1, 2, 3, 4, 5, 6, 7, 8, 9, 10, 11], none))⟩,
    ⟨(some 38), .move (.tmp 4), none, 16, (some ([], none))⟩,
    ⟨(some 39), .fieldAddr 8 (.tmp 1), none, 16, (some ([], none))⟩,
    ⟨(some 40), .load false 1 (.tmp 39), none, 16, (some ([], none))⟩,
    ⟨(some 41), .call (.func 128) [(false, (.tmp 40)), (false, (.const (.int .i64 (1)))), (false, (.const (.int .i64 (16))))] true 4, none, 16, (some ([0, 1, 2, 3, 4, 5, 6, 7, 8, 9, 10, 11, 12, 13, 14, 15], none))⟩,
    ⟨(some 42), .fieldAddr 9 (.tmp 1), none, 20, (some ([], none))⟩,
    ⟨(some 43), .load false 1 (.tmp 42), none, 20, (some ([], none))⟩,
    ⟨(some 44), .call (.func 128) [(false, (.tmp 43)), (false, (.const (.int .i64 (1)))), (false, (.const (.int .i64 (2))))] true 4, none, 20, (some ([0, 1, 2, 3, 4, 5, 6, 7, 8, 9, 10, 11, 12, 13, 14, 15, 16, 17, 18, 19], none))⟩,
    ⟨(some 45), .fieldAddr 10 (.tmp 1), none, 24, (some ([], none))⟩,
    ⟨(some 46), .load false 1 (.tmp 45), none, 24, (some ([], none))⟩,
    ⟨(some 47), .call (.func 128) [(false, (.tmp 46)), (false, (.const (.int .i64 (1)))), (false, (.const (.int .i64 (256))))] true 4, none, 24, (some ([0, 1, 2, 3, 4, 5, 6, 7, 8, 9, 10, 11, 12, 13, 14, 15, 16, 17, 18, 19, 20, 21, 22, 23], none))⟩,
    ⟨(some 48), .fieldAddr 11 (.tmp 1), none, 28, (some ([], none))⟩,
    ⟨(some 49), .load false 1 (.tmp 48), none, 28, (some ([], none))⟩,
    ⟨(some 50), .call (.func 128) [(false, (.tmp 49)), (false, (.const (.int .i64 (1)))), (false, (.const (.int .i64 (1048576))))] true 4, none, 28, (some ([0, 1, 2, 3, 4, 5, 6, 7, 8, 9, 10, 11, 12, 13, 14, 15, 16, 17, 18, 19, 20, 21, 22, 23, 24, 25, 26, 27], none))⟩,
    ⟨(some 51), .fieldAddr 12 (.tmp 1), none, 32, (some ([], none))⟩,
    ⟨(some 52), .load false 1 (.tmp 51), none, 32, (some ([], none))⟩,
    ⟨(some 53), .call (.func 128) [(false, (.tmp 52)), (false, (.const (.int .i64 (1)))), (false, (.const (.int .i64 (65536))))] true 4, none, 32, (some ([0, 1, 2, 3, 4, 5, 6, 7, 8, 9, 10, 11, 12, 13, 14, 15, 16, 17, 18, 19, 20, 21, 22, 23, 24, 25, 26, 27, 28, 29, 30, 31], none))⟩,
    ⟨(some 54), .fieldAddr 13 (.tmp 1), none, 36, (some ([], none))⟩,
    ⟨(some 55), .load false 1 (.tmp 54), none, 36, (some ([], none))⟩,
    ⟨(some 56), .call (.func 128) [(false, (.tmp 55)), (false, (.const (.int .i64 (0)))), (false, (.const (.int .i64 (65536))))] true 4, none, 36, (some ([0, 1, 2, 3, 4, 5, 6, 7, 8, 9, 10, 11, 12, 13, 14, 15, 16, 17, 18, 19, 20, 21, 22, 23, 24, 25, 26, 27, 28, 29, 30, 31, 32, 33, 34, 35], none))⟩,
    ⟨(some 57), .fieldAddr 14 (.tmp 1), none, 40, (some ([], none))⟩,
    ⟨(some 58), .load false 1 (.tmp 57), none, 40, (some ([], none))⟩,
    ⟨(some 59), .call (.func 128) [(false, (.tmp 58)), (false, (.const (.int .i64 (1)))), (false, (.const (.int .i64 (16))))] true 4, none, 40, (some ([0, 1, 2, 3, 4, 5, 6, 7, 8, 9, 10, 11, 12, 13, 14, 15, 16, 17, 18, 19, 20, 21, 22, 23, 24, 25, 26, 27, 28, 29, 30, 31, 32, 33, 34, 35, 36, 37, 38, 39], none))⟩,
    ⟨(some 60), .fieldAddr 15 (.tmp 1), none, 44, (some ([], none))⟩,
    ⟨(some 61), .load false 1 (.tmp 60), none, 44, (some ([], none))⟩,
    ⟨(some 62), .call (.func 128) [(false, (.tmp 61)), (false, (.const (.int .i64 (1)))), (false, (.const (.int .i64 (8))))] true 4, none, 44, (some ([0, 1, 2, 3, 4, 5, 6, 7, 8, 9, 10, 11, 12, 13, 14, 15, 16, 17, 18, 19, 20, 21, 22, 23, 24, 25, 26, 27, 28, 29, 30, 31, 32, 33, 34, 35, 36, 37, 38, 39, 40, 41, 42, 43], none))⟩,
    ⟨(some 63), .fieldAddr 16 (.tmp 1), none, 48, (some ([], none))⟩,
    ⟨(some 64), .load false 1 (.tmp 63), none, 48, (some ([], none))⟩,
    ⟨(some 65), .call (.func 128) [(false, (.tmp 64)), (false, (.const (.int .i64 (1)))), (false, (.const (.int .i64 (16))))] true 4, none, 48, (some ([0, 1, 2, 3, 4, 5, 6, 7, 8, 9, 10, 11, 12, 13, 14, 15, 16, 17, 18, 19, 20, 21, 22, 23, 24, 25, 26, 27, 28, 29, 30, 31, 32, 33, 34, 35, 36, 37, 38, 39, 40, 41, 42, 43, 44, 45, 46, 47], none))⟩,
    ⟨(some 66), .fieldAddr 17 (.tmp 1), none, 52, (some ([], none))⟩,
    ⟨(some 67), .load false 1 (.tmp 66), none, 52, (some ([], none))⟩,
    ⟨(some 68), .call (.func 128) [(false, (.tmp 67)), (false, (.const (.int .i64 (0)))), (false, (.const (.int .i64 (16))))] false 4, none, 52, (some ([0, 1, 2, 3, 4, 5, 6, 7, 8, 9, 10, 11, 12, 13, 14, 15, 16, 17, 18, 19, 20, 21, 22, 23, 24, 25, 26, 27, 28, 29, 30, 31, 32, 33, 34, 35, 36, 37, 38, 39, 40, 41, 42, 43, 44, 45, 46, 47, 48, 49, 50, 51], none))⟩,
    ⟨(some 69), .buildSlice 1 15 true [.bool false] [(0, (.tmp 30)), (1, (.tmp 32)), (2, (.tmp 35)), (3, (.tmp 37)), (4, (.tmp 38)), (5, (.tmp 41)), (6, (.tmp 44)), (7, (.tmp 47)), (8, (.tmp 50)), (9, (.tmp 53)), (10, (.tmp 56)), (11, (.tmp 59)), (12, (.tmp 62)), (13, (.tmp 65)), (14, (.tmp 68))], none, 56, (some ([0, 1, 2, 3, 4, 5, 6, 7, 8, 9, 10, 11, 12, 13, 14, 15, 16, 17, 18, 19, 20, 21, 22, 23, 24, 25, 26, 27, 28, 29, 30, 31, 32, 33, 34, 35, 36, 37, 38, 39, 40, 41, 42, 43, 44, 45, 46, 47, 48, 49, 50, 51, 52, 53, 54, 55], none))⟩,
    ⟨(some 6), .move (.tmp 69), none, 57, (some ([0, 1, 2, 3, 4, 5, 6, 7, 8, 9, 10, 11, 12, 13, 14, 15, 16, 17, 18, 19, 20, 21, 22, 23, 24, 25, 26, 27, 28, 29, 30, 31, 32, 33, 34, 35, 36, 37, 38, 39, 40, 41, 42, 43, 44, 45, 46, 47, 48, 49, 50, 51, 52, 53, 54, 55, 56], none))⟩] []) (.seq (.seq (.region 0 [
    ⟨(some 7), .move (.const (.int .i64 (0))), none, 0, none⟩] []) (.block 0 (.loopU [5, 6, 7] 16 (.seq (.seq (.region 0 [
    ⟨(some 70), .move (.tmp 7), none, 0, none⟩,
    ⟨(some 71), .bin .lss (.tmp 70) (.const (.int .i64 (15))), none, 0, none⟩] []) (.cond (.tmp 71) (.skip) (.exit 0))) (.seq (.block 1 (.seq (.region 0 [
    ⟨(some 74), .move (.tmp 6), none, 0, none⟩,
    ⟨(some 75), .move (.tmp 7), none, 0, none⟩,
    ⟨(some 76), .indexSl 1 (.tmp 74) (.tmp 75), none, 0, none⟩,
    ⟨(some 77), .load false 1 (.tmp 76), none, 0, none⟩,
    ⟨(some 78), .un .not (.tmp 77), none, 0, none⟩] []) (.cond (.tmp 78) (.seq (.region 0 [
    ⟨(some 79), .move (.tmp 5), none, 0, none⟩,
    ⟨(some 80), .move (.tmp 7), none, 0, none⟩,
    ⟨(some 81), .indexSl 1 (.tmp 79) (.tmp 80), none, 0, none⟩,
    ⟨(some 82), .load false 1 (.tmp 81), none, 0, none⟩,
    ⟨(some 2), .move (.tmp 82), none, 0, none⟩] []) (.ret)) (.skip)))) (.region 0 [
    ⟨(some 72), .move (.tmp 7), none, 0, none⟩,
    ⟨(some 73), .bin .add (.tmp 72) (.const (.int .i64 (1))), none, 0, none⟩,
    ⟨(some 7), .move (.tmp 73), none, 0, none⟩] [])))))) (.seq (.region 0 [
    ⟨(some 2), .move (.const (.str [])), none, 0, none⟩] []) (.ret))))))), [.tmp 2], true⟩
def s79 : Sig := ⟨(.cons (.v .spec) .nil), [], ((.v .str), []), []⟩
def F79 (L : Lp) (g128 : Int → Int → Int → Option Bool) (g129 : Spec → Option Bool) (g130 : Spec → Option Bool) (g131 : Spec → Option Bool) (as0 : Spec) : Option (List UInt8) :=
  Option.bind (α := ((Unit × (Bool × Unit)) × (Spec × Unit)))
    (Option.bind (g128 as0.weights.age 0 1000) fun r1 =>
    cond r1
      (Option.bind (g128 as0.weights.size 0 1000) fun r2 =>
      cond r2
        (Option.bind (g128 as0.weights.qos 0 1000) fun r3 =>
        cond r3
          (Option.bind (g128 as0.weights.share 0 1000) fun r4 =>
          some (((), r4, ()), (as0, ())))
          (some (((), false, ()), (as0, ()))))
        (some (((), false, ()), (as0, ()))))
      (some (((), false, ()), (as0, ())))) fun x5 =>
  Option.bind (g129 x5.2.1) fun r6 =>
  Option.bind (g130 x5.2.1) fun r7 =>
  Option.bind (g128 x5.2.1.users 1 8) fun r8 =>
  Option.bind (g131 x5.2.1) fun r9 =>
  Option.bind (g128 x5.2.1.decay 1 16) fun r10 =>
  Option.bind (g128 x5.2.1.mode 1 2) fun r11 =>
  Option.bind (g128 x5.2.1.jobs 1 256) fun r12 =>
  Option.bind (g128 x5.2.1.ids 1 1048576) fun r13 =>
  Option.bind (g128 x5.2.1.versions 1 65536) fun r14 =>
  Option.bind (g128 x5.2.1.linger 0 65536) fun r15 =>
  Option.bind (g128 x5.2.1.keep 1 16) fun r16 =>
  Option.bind (g128 x5.2.1.inn 1 8) fun r17 =>
  Option.bind (g128 x5.2.1.out 1 16) fun r18 =>
  Option.bind (g128 x5.2.1.cache 0 16) fun r19 =>
  cond (!r6)
    (some ([78, 111, 100, 101, 115] : List UInt8))
    (cond (!r7)
      (some ([80, 97, 114, 116, 115] : List UInt8))
      (cond (!r8)
        (some ([85, 115, 101, 114, 115] : List UInt8))
        (cond (!r9)
          (some ([81, 117, 101, 117, 101, 115] : List UInt8))
          (cond (!x5.1.2.1)
            (some ([87, 101, 105, 103, 104, 116, 115] : List UInt8))
            (cond (!r10)
              (some ([68, 101, 99, 97, 121] : List UInt8))
              (cond (!r11)
                (some ([77, 111, 100, 101] : List UInt8))
                (cond (!r12)
                  (some ([74, 111, 98, 115] : List UInt8))
                  (cond (!r13)
                    (some ([73, 100, 115] : List UInt8))
                    (cond (!r14)
                      (some ([86, 101, 114, 115, 105, 111, 110, 115] : List UInt8))
                      (cond (!r15)
                        (some ([76, 105, 110, 103, 101, 114] : List UInt8))
                        (cond (!r16)
                          (some ([75, 101, 101, 112] : List UInt8))
                          (cond (!r17)
                            (some ([73, 110] : List UInt8))
                            (cond (!r18)
                              (some ([79, 117, 116] : List UInt8))
                              (cond (!r19)
                                (some ([67, 97, 99, 104, 101] : List UInt8))
                                (some ([] : List UInt8))))))))))))))))
theorem e79 (L : Lp) (g128 : Int → Int → Int → Option Bool) (g129 : Spec → Option Bool) (g130 : Spec → Option Bool) (g131 : Spec → Option Bool) (x : s79.args.den) (h : denH s79.heap) : nrun [⟨128, s128, fun x h => g128 x.1 x.2.1 x.2.2.1⟩, ⟨129, s129, fun x h => g129 x.1⟩, ⟨130, s130, fun x h => g130 x.1⟩, ⟨131, s131, fun x h => g131 x.1⟩] L n79 s79 x h = F79 L g128 g129 g130 g131 x.1 := by kernel_rfl
def f79 : Spec → Option (List UInt8) := F79 (@LN LOOPS) f128 f129 f130 f131
@[reducible] def t79 : Ent := ⟨79, s79, fun x h => f79 x.1⟩
theorem k79 : chkNF Try.prog Try.f79 n79 = true := by kernel_rfl
theorem ok79 : NOk Try.prog t79 := NOk.body (T := [t128, t129, t130, t131]) mixed (nall_cons ok128 (nall_cons ok129 (nall_cons ok130 (nall_cons ok131 nall_nil)))) (oneEach_of (by kernel_rfl)) Try.func79 k79 (by kernel_rfl) (fun x h => e79 _ _ _ _ _ x h)
/- drayage/drayageref07.Right -/
def n17 : NFunc := ⟨6, .seq (.region 1 [
    ⟨(some 1), .box 18 (.tmp 0), none, 0, none⟩,
    ⟨(some 2), .move (.const (.bool false)), none, 1, none⟩] []) (.seq (.region 4 [
    ⟨(some 3), .load true 18 (.tmp 1), none, 0, none⟩,
    ⟨(some 4), .call (.func 79) [(false, (.tmp 3))] false 4, none, 0, none⟩,
    ⟨(some 5), .bin .eql (.tmp 4) (.const (.str [])), none, 4, none⟩,
    ⟨(some 2), .move (.tmp 5), none, 4, none⟩] []) (.ret)), [.tmp 2], true⟩
def s17 : Sig := ⟨(.cons (.v .spec) .nil), [], ((.v .bool), []), []⟩
def F17 (L : Lp) (g79 : Spec → Option (List UInt8)) (as0 : Spec) : Option Bool :=
  Option.bind (g79 as0) fun r1 =>
  some (decide (r1 = ([] : List UInt8)))
theorem e17 (L : Lp) (g79 : Spec → Option (List UInt8)) (x : s17.args.den) (h : denH s17.heap) : nrun [⟨79, s79, fun x h => g79 x.1⟩] L n17 s17 x h = F17 L g79 x.1 := by kernel_rfl
def f17 : Spec → Option Bool := F17 (@LN LOOPS) f79
@[reducible] def t17 : Ent := ⟨17, s17, fun x h => f17 x.1⟩
theorem k17 : chkNF Try.prog Try.f17 n17 = true := by kernel_rfl
theorem ok17 : NOk Try.prog t17 := NOk.body (T := [t79]) mixed (nall_cons ok79 nall_nil) (oneEach_of (by kernel_rfl)) Try.func17 k17 (by kernel_rfl) (fun x h => e17 _ _ x h)
/- drayage/drayageref02.Fits -/
def n20 : NFunc := ⟨31, .seq (.region 2 [
    ⟨(some 2), .box 4 (.tmp 0), none, 0, none⟩,
    ⟨(some 3), .box 4 (.tmp 1), none, 1, none⟩,
    ⟨(some 4), .move (.const (.bool false)), none, 2, none⟩] []) (.seq (.region 0 [
    ⟨(some 5), .fieldAddr 0 (.tmp 2), none, 0, none⟩,
    ⟨(some 6), .load false 1 (.tmp 5), none, 0, none⟩,
    ⟨(some 7), .fieldAddr 0 (.tmp 3), none, 0, none⟩,
    ⟨(some 8), .load false 1 (.tmp 7), none, 0, none⟩,
    ⟨(some 9), .bin .leq (.tmp 6) (.tmp 8), none, 0, none⟩,
    ⟨(some 10), .move (.tmp 9), none, 0, none⟩,
    ⟨(some 11), .fieldAddr 1 (.tmp 2), (some (10, true)), 0, none⟩,
    ⟨(some 12), .load false 1 (.tmp 11), (some (10, true)), 0, none⟩,
    ⟨(some 13), .fieldAddr 1 (.tmp 3), (some (10, true)), 0, none⟩,
    ⟨(some 14), .load false 1 (.tmp 13), (some (10, true)), 0, none⟩,
    ⟨(some 15), .bin .leq (.tmp 12) (.tmp 14), (some (10, true)), 0, none⟩,
    ⟨(some 16), .pick (.tmp 10) (.tmp 15) (.const (.bool false)), none, 0, none⟩,
    ⟨(some 17), .move (.tmp 16), none, 0, none⟩,
    ⟨(some 18), .fieldAddr 2 (.tmp 2), (some (17, true)), 0, none⟩,
    ⟨(some 19), .load false 1 (.tmp 18), (some (17, true)), 0, none⟩,
    ⟨(some 20), .fieldAddr 2 (.tmp 3), (some (17, true)), 0, none⟩,
    ⟨(some 21), .load false 1 (.tmp 20), (some (17, true)), 0, none⟩,
    ⟨(some 22), .bin .leq (.tmp 19) (.tmp 21), (some (17, true)), 0, none⟩,
    ⟨(some 23), .pick (.tmp 17) (.tmp 22) (.const (.bool false)), none, 0, none⟩,
    ⟨(some 24), .move (.tmp 23), none, 0, none⟩,
    ⟨(some 25), .fieldAddr 3 (.tmp 2), (some (24, true)), 0, none⟩,
    ⟨(some 26), .load false 1 (.tmp 25), (some (24, true)), 0, none⟩,
    ⟨(some 27), .fieldAddr 3 (.tmp 3), (some (24, true)), 0, none⟩,
    ⟨(some 28), .load false 1 (.tmp 27), (some (24, true)), 0, none⟩,
    ⟨(some 29), .bin .leq (.tmp 26) (.tmp 28), (some (24, true)), 0, none⟩,
    ⟨(some 30), .pick (.tmp 24) (.tmp 29) (.const (.bool false)), none, 0, none⟩,
    ⟨(some 4), .move (.tmp 30), none, 0, none⟩] []) (.ret)), [.tmp 4], true⟩
def s20 : Sig := ⟨(.cons (.v .res) (.cons (.v .res) .nil)), [], ((.v .bool), []), []⟩
def F20 (L : Lp)  (a0 : Res) (b1 : Res) : Option Bool :=
  cond (decide (a0.cpu ≤ b1.cpu))
    (cond (decide (a0.mem ≤ b1.mem))
      (cond (decide (a0.gpu ≤ b1.gpu))
        (some (decide (a0.lic ≤ b1.lic)))
        (some false))
      (some false))
    (some false)
theorem e20 (L : Lp)  (x : s20.args.den) (h : denH s20.heap) : nrun [] L n20 s20 x h = F20 L  x.1 x.2.1 := by kernel_rfl
def f20 : Res → Res → Option Bool := F20 (@LN LOOPS) 
@[reducible] def t20 : Ent := ⟨20, s20, fun x h => f20 x.1 x.2.1⟩
theorem k20 : chkNF Try.prog Try.f20 n20 = true := by kernel_rfl
theorem ok20 : NOk Try.prog t20 := NOk.body (T := []) mixed nall_nil (oneEach_of (by kernel_rfl)) Try.func20 k20 (by kernel_rfl) (fun x h => e20 _  x h)
/- drayage/drayagelaw07.SpecMore -/
def n3 : NFunc := ⟨74, .seq (.region 3 [
    ⟨(some 3), .box 18 (.tmp 0), none, 0, none⟩,
    ⟨(some 4), .box 3 (.tmp 1), none, 1, none⟩,
    ⟨(some 5), .box 8 (.tmp 2), none, 2, none⟩,
    ⟨(some 6), .move (.const (.bool false)), none, 3, none⟩] []) (.seq (.seq (.region 4 [
    ⟨(some 12), .call (.func 15) [] false 4, none, 0, none⟩,
    ⟨(some 13), .un .not (.tmp 12), none, 4, none⟩] []) (.cond (.tmp 13) (.seq (.region 0 [
    ⟨(some 6), .move (.const (.bool false)), none, 0, none⟩] []) (.ret)) (.skip))) (.seq (.seq (.region 8 [
    ⟨(some 14), .load true 18 (.tmp 3), none, 0, none⟩,
    ⟨(some 15), .call (.func 16) [(false, (.tmp 14))] false 4, none, 0, none⟩,
    ⟨(some 16), .un .not (.tmp 15), none, 4, none⟩,
    ⟨(some 17), .move (.tmp 16), none, 4, none⟩,
    ⟨(some 18), .load true 18 (.tmp 3), (some (17, false)), 4, none⟩,
    ⟨(some 19), .call (.func 17) [(false, (.tmp 18))] false 4, (some (17, false)), 4, none⟩,
    ⟨(some 20), .un .not (.tmp 19), (some (17, false)), 8, none⟩,
    ⟨(some 21), .pick (.tmp 17) (.const (.bool true)) (.tmp 20), none, 8, none⟩] []) (.cond (.tmp 21) (.seq (.region 0 [
    ⟨(some 6), .move (.const (.bool true)), none, 0, none⟩] []) (.ret)) (.skip))) (.seq (.region 0 [
    ⟨(some 22), .indexArr 3 1 (.tmp 4) (.const (.int .i64 (0))), none, 0, (some ([], none))⟩,
    ⟨(some 23), .load false 1 (.tmp 22), none, 0, (some ([], none))⟩,
    ⟨(some 24), .indexArr 3 1 (.tmp 4) (.const (.int .i64 (1))), none, 0, (some ([], none))⟩,
    ⟨(some 25), .load false 1 (.tmp 24), none, 0, (some ([], none))⟩,
    ⟨(some 26), .indexArr 3 1 (.tmp 4) (.const (.int .i64 (2))), none, 0, (some ([], none))⟩,
    ⟨(some 27), .load false 1 (.tmp 26), none, 0, (some ([], none))⟩,
    ⟨(some 7), .move (.tmp 23), none, 0, (some ([], none))⟩,
    ⟨(some 8), .move (.tmp 25), none, 0, (some ([], none))⟩,
    ⟨(some 9), .move (.tmp 27), none, 0, (some ([], none))⟩] []) (.seq (.region 2 [
    ⟨(some 28), .indexArr 2 4 (.tmp 5) (.const (.int .i64 (0))), none, 0, (some ([], none))⟩,
    ⟨(some 29), .load true 4 (.tmp 28), none, 0, (some ([], some [2]))⟩,
    ⟨(some 30), .indexArr 2 4 (.tmp 5) (.const (.int .i64 (1))), none, 0, (some ([], none))⟩,
    ⟨(some 31), .load true 4 (.tmp 30), none, 0, (some ([], some [2]))⟩,
    ⟨(some 10), .alloc [.int .i64 (0), .int .i64 (0), .int .i64 (0), .int .i64 (0)], none, 0, (some ([], some []))⟩,
    ⟨(some 11), .alloc [.int .i64 (0), .int .i64 (0), .int .i64 (0), .int .i64 (0)], none, 1, (some ([], some []))⟩,
    ⟨none, .store 4 (.tmp 10) (.tmp 29), none, 2, (some ([0], some []))⟩,
    ⟨none, .store 4 (.tmp 11) (.tmp 31), none, 2, (some ([1], some []))⟩] []) (.seq (.seq (.region 4 [
    ⟨(some 32), .load true 18 (.tmp 3), none, 0, none⟩,
    ⟨(some 33), .move (.tmp 7), none, 0, none⟩,
    ⟨(some 34), .move (.tmp 8), none, 0, none⟩,
    ⟨(some 35), .load true 4 (.tmp 10), none, 0, none⟩,
    ⟨(some 36), .call (.func 18) [(false, (.tmp 32)), (false, (.tmp 33)), (false, (.tmp 34)), (false, (.tmp 35))] false 4, none, 0, none⟩,
    ⟨(some 37), .un .not (.tmp 36), none, 4, none⟩,
    ⟨(some 38), .move (.tmp 37), none, 4, none⟩,
    ⟨(some 39), .move (.tmp 9), (some (38, false)), 4, none⟩,
    ⟨(some 40), .bin .lss (.tmp 39) (.const (.int .i64 (1))), (some (38, false)), 4, none⟩,
    ⟨(some 41), .pick (.tmp 38) (.const (.bool true)) (.tmp 40), none, 4, none⟩,
    ⟨(some 42), .move (.tmp 41), none, 4, none⟩,
    ⟨(some 43), .move (.tmp 9), (some (42, false)), 4, none⟩,
    ⟨(some 44), .move (.tmp 8), (some (42, false)), 4, none⟩,
    ⟨(some 45), .bin .gtr (.tmp 43) (.tmp 44), (some (42, false)), 4, none⟩,
    ⟨(some 46), .pick (.tmp 42) (.const (.bool true)) (.tmp 45), none, 4, none⟩] []) (.cond (.tmp 46) (.seq (.region 0 [
    ⟨(some 6), .move (.const (.bool true)), none, 0, none⟩] []) (.ret)) (.skip))) (.seq (.seq (.region 4 [
    ⟨(some 47), .load true 18 (.tmp 3), none, 0, none⟩,
    ⟨(some 48), .move (.tmp 7), none, 0, none⟩,
    ⟨(some 49), .move (.tmp 9), none, 0, none⟩,
    ⟨(some 50), .load true 4 (.tmp 10), none, 0, none⟩,
    ⟨(some 51), .call (.func 18) [(false, (.tmp 47)), (false, (.tmp 48)), (false, (.tmp 49)), (false, (.tmp 50))] false 4, none, 0, none⟩,
    ⟨(some 52), .un .not (.tmp 51), none, 4, none⟩] []) (.cond (.tmp 52) (.seq (.region 0 [
    ⟨(some 6), .move (.const (.bool false)), none, 0, none⟩] []) (.ret)) (.skip))) (.seq (.region 12 [
    ⟨(some 53), .load true 4 (.tmp 11), none, 0, none⟩,
    ⟨(some 54), .call (.func 19) [(false, (.tmp 53))] false 4, none, 0, none⟩,
    ⟨(some 55), .un .not (.tmp 54), none, 4, none⟩,
    ⟨(some 56), .move (.tmp 55), none, 4, none⟩,
    ⟨(some 57), .load true 4 (.tmp 11), (some (56, false)), 4, none⟩,
    ⟨(some 58), .build [.int .i64 (0), .int .i64 (0), .int .i64 (0), .int .i64 (0)] [], (some (56, false)), 4, none⟩,
    ⟨(some 59), .eqAgg (false, [.int .i64, .int .i64, .int .i64, .int .i64]) (.tmp 57) (.tmp 58), (some (56, false)), 4, none⟩,
    ⟨(some 60), .pick (.tmp 56) (.const (.bool true)) (.tmp 59), none, 4, none⟩,
    ⟨(some 61), .move (.tmp 60), none, 4, none⟩,
    ⟨(some 62), .load true 4 (.tmp 11), (some (61, false)), 4, none⟩,
    ⟨(some 63), .load true 4 (.tmp 10), (some (61, false)), 4, none⟩,
    ⟨(some 64), .call (.func 20) [(false, (.tmp 62)), (false, (.tmp 63))] false 4, (some (61, false)), 4, none⟩,
    ⟨(some 65), .un .not (.tmp 64), (some (61, false)), 8, none⟩,
    ⟨(some 66), .pick (.tmp 61) (.const (.bool true)) (.tmp 65), none, 8, none⟩,
    ⟨(some 67), .move (.tmp 66), none, 8, none⟩,
    ⟨(some 68), .load true 18 (.tmp 3), (some (67, false)), 8, none⟩,
    ⟨(some 69), .move (.tmp 7), (some (67, false)), 8, none⟩,
    ⟨(some 70), .move (.tmp 8), (some (67, false)), 8, none⟩,
    ⟨(some 71), .load true 4 (.tmp 11), (some (67, false)), 8, none⟩,
    ⟨(some 72), .call (.func 18) [(false, (.tmp 68)), (false, (.tmp 69)), (false, (.tmp 70)), (false, (.tmp 71))] false 4, (some (67, false)), 8, none⟩,
    ⟨(some 73), .pick (.tmp 67) (.const (.bool true)) (.tmp 72), none, 12, none⟩,
    ⟨(some 6), .move (.tmp 73), none, 12, none⟩] []) (.ret)))))))), [.tmp 6], true⟩
def s3 : Sig := ⟨(.cons (.v .spec) (.cons (.v (.pair (.int .i64) (.pair (.int .i64) (.int .i64)))) (.cons (.v (.pair .res .res)) .nil))), [], ((.v .bool), []), []⟩
def F3 (L : Lp) (g15 : Option Bool) (g16 : Spec → Option Bool) (g17 : Spec → Option Bool) (g18 : Spec → Int → Int → Res → Option Bool) (g19 : Res → Option Bool) (g20 : Res → Res → Option Bool) (as0 : Spec) (ax1 : (Int × (Int × Int))) (al2 : (Res × Res)) : Option Bool :=
  Option.bind (g15) fun r3 =>
  cond (!r3)
    (some false)
    (Option.bind (g16 as0) fun r4 =>
    cond (!r4)
      (some true)
      (Option.bind (g17 as0) fun r5 =>
      cond (!r5)
        (some true)
        (Option.bind (g18 as0 ax1.1 ax1.2.1 al2.1) fun r6 =>
        cond (!r6)
          (some true)
          (cond (decide (ax1.2.2 < 1))
            (some true)
            (cond (decide (ax1.2.1 < ax1.2.2))
              (some true)
              (Option.bind (g18 as0 ax1.1 ax1.2.2 al2.1) fun r7 =>
              cond (!r7)
                (some false)
                (Option.bind (g19 al2.2) fun r8 =>
                cond (!r8)
                  (some true)
                  (cond ((decide (al2.2.cpu = 0)) && ((decide (al2.2.mem = 0)) && ((decide (al2.2.gpu = 0)) && ((decide (al2.2.lic = 0)) && true))))
                    (some true)
                    (Option.bind (g20 al2.2 al2.1) fun r9 =>
                    cond (!r9)
                      (some true)
                      (Option.bind (g18 as0 ax1.1 ax1.2.1 al2.2) fun r10 =>
                      some r10))))))))))
theorem e3 (L : Lp) (g15 : Option Bool) (g16 : Spec → Option Bool) (g17 : Spec → Option Bool) (g18 : Spec → Int → Int → Res → Option Bool) (g19 : Res → Option Bool) (g20 : Res → Res → Option Bool) (x : s3.args.den) (h : denH s3.heap) : nrun [⟨15, s15, fun x h => g15 ⟩, ⟨16, s16, fun x h => g16 x.1⟩, ⟨17, s17, fun x h => g17 x.1⟩, ⟨18, s18, fun x h => g18 x.1 x.2.1 x.2.2.1 x.2.2.2.1⟩, ⟨19, s19, fun x h => g19 x.1⟩, ⟨20, s20, fun x h => g20 x.1 x.2.1⟩] L n3 s3 x h = F3 L g15 g16 g17 g18 g19 g20 x.1 x.2.1 x.2.2.1 := by kernel_rfl
def f3 : Spec → (Int × (Int × Int)) → (Res × Res) → Option Bool := F3 (@LN LOOPS) f15 f16 f17 f18 f19 f20
@[reducible] def t3 : Ent := ⟨3, s3, fun x h => f3 x.1 x.2.1 x.2.2.1⟩
theorem k3 : chkNF Try.prog Try.f3 n3 = true := by kernel_rfl
theorem ok3 : NOk Try.prog t3 := NOk.body (T := [t15, t16, t17, t18, t19, t20]) mixed (nall_cons ok15 (nall_cons ok16 (nall_cons ok17 (nall_cons ok18 (nall_cons ok19 (nall_cons ok20 nall_nil)))))) (oneEach_of (by kernel_rfl)) Try.func3 k3 (by kernel_rfl) (fun x h => e3 _ _ _ _ _ _ _ x h)
end NM
end Go.Proofs.Ytgpehdiancphnaa
