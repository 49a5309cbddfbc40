/-
  The plain forms of the functions that the statement reaches, and that each is its function's body. (Written by program.)
-/
import Derived.Test.YtacaeonoogkkaaaNmX
import Derived.Test.YtacaeonoogkkaaaProg
import Derived.ProofKit
set_option linter.unusedVariables false
set_option maxRecDepth 100000
set_option maxHeartbeats 4000000
namespace Go.Proofs.Ytacaeonoogkkaaa
namespace NM
open AM Go.RowKit
theorem mixed : Try.prog.follows .mixedOrders = true := by kernel_rfl
/- drayage/drayageref07.Small -/
def n62 : NFunc := ⟨23, .seq (.region 1 [
    ⟨(some 0), .alloc [.zsl, .zsl, .zsl, .int .i64 (0), .int .i64 (0), .int .i64 (0), .int .i64 (0), .int .i64 (0), .int .i64 (0), .int .i64 (0), .int .i64 (0), .int .i64 (0), .int .i64 (0), .int .i64 (0), .int .i64 (0), .int .i64 (0), .int .i64 (0), .int .i64 (0)], none, 0, none⟩] []) (.seq (.region 1 [
    ⟨(some 4), .build [.zsl, .zsl, .zsl, .int .i64 (0), .int .i64 (0), .int .i64 (0), .int .i64 (0), .int .i64 (0), .int .i64 (0), .int .i64 (0), .int .i64 (0), .int .i64 (0), .int .i64 (0), .int .i64 (0), .int .i64 (0), .int .i64 (0), .int .i64 (0), .int .i64 (0)] [(3, 1, (.const (.int .i64 (3)))), (8, 1, (.const (.int .i64 (4)))), (9, 1, (.const (.int .i64 (1)))), (10, 1, (.const (.int .i64 (12)))), (11, 1, (.const (.int .i64 (100)))), (12, 1, (.const (.int .i64 (50)))), (13, 1, (.const (.int .i64 (5)))), (14, 1, (.const (.int .i64 (4)))), (15, 1, (.const (.int .i64 (3)))), (16, 1, (.const (.int .i64 (6)))), (17, 1, (.const (.int .i64 (4))))], none, 0, none⟩,
    ⟨(some 1), .alloc [.zsl, .zsl, .zsl, .int .i64 (0), .int .i64 (0), .int .i64 (0), .int .i64 (0), .int .i64 (0), .int .i64 (0), .int .i64 (0), .int .i64 (0), .int .i64 (0), .int .i64 (0), .int .i64 (0), .int .i64 (0), .int .i64 (0), .int .i64 (0), .int .i64 (0)], none, 0, none⟩,
    ⟨none, .store 18 (.tmp 1) (.tmp 4), none, 1, none⟩] []) (.seq (.region 1 [
    ⟨(some 5), .build [.int .i64 (0), .int .i64 (0), .int .i64 (0), .int .i64 (0)] [(0, 1, (.const (.int .i64 (4)))), (1, 1, (.const (.int .i64 (8)))), (3, 1, (.const (.int .i64 (1))))], none, 0, none⟩,
    ⟨(some 6), .build [.int .i64 (0), .int .i64 (0), .int .i64 (0), .int .i64 (0)] [(0, 1, (.const (.int .i64 (8)))), (1, 1, (.const (.int .i64 (8)))), (2, 1, (.const (.int .i64 (1))))], none, 0, none⟩,
    ⟨(some 7), .buildSlice 4 2 true [.int .i64 (0), .int .i64 (0), .int .i64 (0), .int .i64 (0)] [(0, (.tmp 5)), (1, (.tmp 6))], none, 0, none⟩,
    ⟨(some 8), .fieldAddr 0 (.tmp 1), none, 1, none⟩,
    ⟨none, .store 1 (.tmp 8) (.tmp 7), none, 1, none⟩] []) (.seq (.region 3 [
    ⟨(some 9), .buildSlice 1 2 true [.int .i64 (0)] [(0, (.const (.int .i64 (0)))), (1, (.const (.int .i64 (1))))], none, 0, none⟩,
    ⟨(some 10), .buildSlice 1 1 true [.int .i64 (0)] [(0, (.const (.int .i64 (1))))], none, 1, none⟩,
    ⟨(some 11), .buildSlice 1 2 true [.zsl] [(0, (.tmp 9)), (1, (.tmp 10))], none, 2, none⟩,
    ⟨(some 12), .fieldAddr 1 (.tmp 1), none, 3, none⟩,
    ⟨none, .store 1 (.tmp 12) (.tmp 11), none, 3, none⟩] []) (.seq (.region 1 [
    ⟨(some 13), .build [.int .i64 (0), .zsl, .int .i64 (0), .int .i64 (0), .int .i64 (0), .int .i64 (0)] [(2, 1, (.const (.int .i64 (8)))), (3, 1, (.const (.int .i64 (4)))), (4, 1, (.const (.int .i64 (3)))), (5, 1, (.const (.int .i64 (1))))], none, 0, none⟩,
    ⟨(some 2), .alloc [.int .i64 (0), .zsl, .int .i64 (0), .int .i64 (0), .int .i64 (0), .int .i64 (0)], none, 0, none⟩,
    ⟨none, .store 6 (.tmp 2) (.tmp 13), none, 1, none⟩] []) (.seq (.region 2 [
    ⟨(some 14), .buildSlice 1 2 true [.int .i64 (0)] [(0, (.const (.int .i64 (0)))), (1, (.const (.int .i64 (1))))], none, 0, none⟩,
    ⟨(some 15), .build [.int .i64 (0), .zsl, .int .i64 (0), .int .i64 (0), .int .i64 (0), .int .i64 (0)] [(0, 1, (.const (.int .i64 (1)))), (1, 1, (.tmp 14)), (2, 1, (.const (.int .i64 (4)))), (3, 1, (.const (.int .i64 (2)))), (4, 1, (.const (.int .i64 (2)))), (5, 1, (.const (.int .i64 (5))))], none, 1, none⟩,
    ⟨(some 3), .alloc [.int .i64 (0), .zsl, .int .i64 (0), .int .i64 (0), .int .i64 (0), .int .i64 (0)], none, 1, none⟩,
    ⟨none, .store 6 (.tmp 3) (.tmp 15), none, 2, none⟩] []) (.seq (.region 1 [
    ⟨(some 16), .load true 6 (.tmp 2), none, 0, none⟩,
    ⟨(some 17), .load true 6 (.tmp 3), none, 0, none⟩,
    ⟨(some 18), .buildSlice 6 2 true [.int .i64 (0), .zsl, .int .i64 (0), .int .i64 (0), .int .i64 (0), .int .i64 (0)] [(0, (.tmp 16)), (1, (.tmp 17))], none, 0, none⟩,
    ⟨(some 19), .fieldAddr 2 (.tmp 1), none, 1, none⟩,
    ⟨none, .store 1 (.tmp 19) (.tmp 18), none, 1, none⟩] []) (.seq (.region 0 [
    ⟨(some 20), .build [.int .i64 (0), .int .i64 (0), .int .i64 (0), .int .i64 (0)] [(0, 1, (.const (.int .i64 (1)))), (1, 1, (.const (.int .i64 (2)))), (2, 1, (.const (.int .i64 (10)))), (3, 1, (.const (.int .i64 (3))))], none, 0, none⟩,
    ⟨(some 21), .fieldAddr 4 (.tmp 1), none, 0, none⟩,
    ⟨none, .store 4 (.tmp 21) (.tmp 20), none, 0, none⟩] []) (.seq (.region 0 [
    ⟨(some 22), .load true 18 (.tmp 1), none, 0, none⟩,
    ⟨none, .store 18 (.tmp 0) (.tmp 22), none, 0, none⟩] []) (.ret))))))))), [.cell true 18 0], true⟩
def s62 : Sig := ⟨.nil, [], ((.v .spec), []), []⟩
def F62 (L : Lp)   : Option Spec :=
  some (Spec.mk [Res.mk 4 8 0 1, Res.mk 8 8 1 0] [[0, 1], [1]] [Queue.mk 0 [] 8 4 3 1, Queue.mk 1 [0, 1] 4 2 2 5] 3 (Weights.mk 1 2 10 3) 4 1 12 100 50 5 4 3 6 4)
theorem e62 (L : Lp)  (x : s62.args.den) (h : denH s62.heap) : nrun [] L n62 s62 x h = F62 L   := by kernel_rfl
def f62 : Option Spec := F62 (@LN LOOPS) 
@[reducible] def t62 : Ent := ⟨62, s62, fun x h => f62 ⟩
theorem k62 : chkNF Try.prog Try.f62 n62 = true := by kernel_rfl
theorem ok62 : NOk Try.prog t62 := NOk.body (T := []) mixed nall_nil (oneEach_of (by kernel_rfl)) Try.func62 k62 (by kernel_rfl) (fun x h => e62 _  x h)
/- drayage/spec.within -/
def n179 : NFunc := ⟨12, .seq (.region 4 [
    ⟨(some 5), .box 1 (.tmp 1), none, 0, none⟩,
    ⟨(some 6), .box 1 (.tmp 2), none, 1, none⟩,
    ⟨(some 7), .box 1 (.tmp 3), none, 2, none⟩,
    ⟨(some 8), .alloc [.str [], .nilfn], none, 3, none⟩] []) (.seq (.region 0 [
    ⟨(some 9), .move (.tmp 0), none, 0, none⟩,
    ⟨(some 10), .makeFunc 205 [(.tmp 6), (.tmp 5), (.tmp 7)], none, 0, none⟩,
    ⟨(some 11), .build [.str [], .nilfn] [(0, 1, (.tmp 9)), (1, 1, (.tmp 10))], none, 0, none⟩,
    ⟨none, .store 2 (.tmp 8) (.tmp 11), none, 0, none⟩] []) (.ret)), [.cell true 2 8], true⟩
def s179 : Sig := ⟨(.cons (.v .str) (.cons (.v (.int .i64)) (.cons (.v (.int .i64)) (.cons (.v (.int .i64)) .nil)))), [], ((.agg (.cons (.v .str) (.cons (.fn 205 (.cons (.iptr (.cons (.v (.int .i64)) .nil) 0) (.cons (.iptr (.cons (.v (.int .i64)) .nil) 0) (.cons (.iptr (.cons (.v (.int .i64)) .nil) 0) .nil)))) .nil))), []), []⟩
def F179 (L : Lp)  (word0 : (List UInt8)) (an1 : Int) (lo2 : Int) (hi3 : Int) : Option ((List UInt8) × (((Int × Unit) × ((Int × Unit) × ((Int × Unit) × Unit))) × Unit)) :=
  some (word0, ((lo2, ()), (an1, ()), (hi3, ()), ()), ())
theorem e179 (L : Lp)  (x : s179.args.den) (h : denH s179.heap) : nrun [] L n179 s179 x h = F179 L  x.1 x.2.1 x.2.2.1 x.2.2.2.1 := by kernel_rfl
def f179 : (List UInt8) → Int → Int → Int → Option ((List UInt8) × (((Int × Unit) × ((Int × Unit) × ((Int × Unit) × Unit))) × Unit)) := F179 (@LN LOOPS) 
@[reducible] def t179 : Ent := ⟨179, s179, fun x h => f179 x.1 x.2.1 x.2.2.1 x.2.2.2.1⟩
theorem k179 : chkNF Try.prog Try.f179 n179 = true := by kernel_rfl
theorem ok179 : NOk Try.prog t179 := NOk.body (T := []) mixed nall_nil (oneEach_of (by kernel_rfl)) Try.func179 k179 (by kernel_rfl) (fun x h => e179 _  x h)
/- drayage/spec.rules -/
def n158 : NFunc := ⟨44, .seq (.region 1 [
    ⟨(some 1), .box 18 (.tmp 0), none, 0, none⟩,
    ⟨(some 2), .move (.const (.zsl)), none, 1, none⟩] []) (.seq (.region 41 [
    ⟨(some 3), .makeFunc 175 [(.tmp 1)], none, 0, (some ([], none))⟩,
    ⟨(some 4), .build [.str [], .nilfn] [(0, 1, (.const (.str [78, 111, 100, 101, 115]))), (1, 1, (.tmp 3))], none, 0, (some ([], none))⟩,
    ⟨(some 5), .makeFunc 177 [(.tmp 1)], none, 0, (some ([], none))⟩,
    ⟨(some 6), .build [.str [], .nilfn] [(0, 1, (.const (.str [80, 97, 114, 116, 115]))), (1, 1, (.tmp 5))], none, 0, (some ([], none))⟩,
    ⟨(some 7), .fieldAddr 3 (.tmp 1), none, 0, (some ([], none))⟩,
    ⟨(some 8), .load false 1 (.tmp 7), none, 0, (some ([], none))⟩,
    ⟨(some 9), .call (.func 179) [(false, (.const (.str [85, 115, 101, 114, 115]))), (false, (.tmp 8)), (false, (.const (.int .i64 (1)))), (false, (.const (.int .i64 (8))))] true 4, none, 0, (some ([], none))⟩,
    ⟨(some 10), .makeFunc 180 [(.tmp 1)], none, 4, (some ([], none))⟩,
    ⟨(some 11), .build [.str [], .nilfn] [(0, 1, (.const (.str [81, 117, 101, 117, 101, 115]))), (1, 1, (.tmp 10))], none, 4, (some ([], none))⟩,
    ⟨(some 12), .makeFunc 182 [(.tmp 1)], none, 4, (some ([], none))⟩,
    ⟨(some 13), .build [.str [], .nilfn] [(0, 1, (.const (.str [87, 101, 105, 103, 104, 116, 115]))), (1, 1, (.tmp 12))], none, 4, (some ([], none))⟩,
    ⟨(some 14), .fieldAddr 8 (.tmp 1), none, 4, (some ([], none))⟩,
    ⟨(some 15), .load false 1 (.tmp 14), none, 4, (some ([], none))⟩,
    ⟨(some 16), .call (.func 179) [(false, (.const (.str [68, 101, 99, 97, 121]))), (false, (.tmp 15)), (false, (.const (.int .i64 (1)))), (false, (.const (.int .i64 (16))))] true 4, none, 4, (some ([0, 1, 2, 3], none))⟩,
    ⟨(some 17), .makeFunc 184 [(.tmp 1)], none, 8, (some ([], none))⟩,
    ⟨(some 18), .build [.str [], .nilfn] [(0, 1, (.const (.str [77, 111, 100, 101]))), (1, 1, (.tmp 17))], none, 8, (some ([], none))⟩,
    ⟨(some 19), .fieldAddr 10 (.tmp 1), none, 8, (some ([], none))⟩,
    ⟨(some 20), .load false 1 (.tmp 19), none, 8, (some ([], none))⟩,
    ⟨(some 21), .call (.func 179) [(false, (.const (.str [74, 111, 98, 115]))), (false, (.tmp 20)), (false, (.const (.int .i64 (1)))), (false, (.const (.int .i64 (256))))] true 4, none, 8, (some ([0, 1, 2, 3, 4, 5, 6, 7], none))⟩,
    ⟨(some 22), .fieldAddr 11 (.tmp 1), none, 12, (some ([], none))⟩,
    ⟨(some 23), .load false 1 (.tmp 22), none, 12, (some ([], none))⟩,
    ⟨(some 24), .call (.func 179) [(false, (.const (.str [73, 100, 115]))), (false, (.tmp 23)), (false, (.const (.int .i64 (1)))), (false, (.const (.int .i64 (1048576))))] true 4, none, 12, (some ([0, 1, 2, 3, 4, 5, 6, 7, 8, 9, 10, 11], none))⟩,
    ⟨(some 25), .fieldAddr 12 (.tmp 1), none, 16, (some ([], none))⟩,
    ⟨(some 26), .load false 1 (.tmp 25), none, 16, (some ([], none))⟩,
    ⟨(some 27), .call (.func 179) [(false, (.const (.str [86, 101, 114, 115, 105, 111, 110, 115]))), (false, (.tmp 26)), (false, (.const (.int .i64 (1)))), (false, (.const (.int .i64 (65536))))] true 4, none, 16, (some ([0, 1, 2, 3, 4, 5, 6, 7, 8, 9, 10, 11, 12, 13, 14, 15], none))⟩,
    ⟨(some 28), .fieldAddr 13 (.tmp 1), none, 20, (some ([], none))⟩,
    ⟨(some 29), .load false 1 (.tmp 28), none, 20, (some ([], none))⟩,
    ⟨(some 30), .call (.func 179) [(false, (.const (.str [76, 105, 110, 103, 101, 114]))), (false, (.tmp 29)), (false, (.const (.int .i64 (0)))), (false, (.const (.int .i64 (65536))))] true 4, none, 20, (some ([0, 1, 2, 3, 4, 5, 6, 7, 8, 9, 10, 11, 12, 13, 14, 15, 16, 17, 18, 19], none))⟩,
    ⟨(some 31), .fieldAddr 14 (.tmp 1), none, 24, (some ([], none))⟩,
    ⟨(some 32), .load false 1 (.tmp 31), none, 24, (some ([], none))⟩,
    ⟨(some 33), .call (.func 179) [(false, (.const (.str [75, 101, 101, 112]))), (false, (.tmp 32)), (false, (.const (.int .i64 (1)))), (false, (.const (.int .i64 (16))))] true 4, none, 24, (some ([0, 1, 2, 3, 4, 5, 6, 7, 8, 9, 10, 11, 12, 13, 14, 15, 16, 17, 18, 19, 20, 21, 22, 23], none))⟩,
    ⟨(some 34), .fieldAddr 15 (.tmp 1), none, 28, (some ([], none))⟩,
    ⟨(some 35), .load false 1 (.tmp 34), none, 28, (some ([], none))⟩,
    ⟨(some 36), .call (.func 179) [(false, (.const (.str [73, 110]))), (false, (.tmp 35)), (false, (.const (.int .i64 (1)))), (false, (.const (.int .i64 (8))))] true 4, none, 28, (some ([0, 1, 2, 3, 4, 5, 6, 7, 8, 9, 10, 11, 12, 13, 14, 15, 16, 17, 18, 19, 20, 21, 22, 23, 24, 25, 26, 27], none))⟩,
    ⟨(some 37), .fieldAddr 16 (.tmp 1), none, 32, (some ([], none))⟩,
    ⟨(some 38), .load false 1 (.tmp 37), none, 32, (some ([], none))⟩,
    ⟨(some 39), .call (.func 179) [(false, (.const (.str [79, 117, 116]))), (false, (.tmp 38)), (false, (.const (.int .i64 (1)))), (false, (.const (.int .i64 (16))))] true 4, none, 32, (some ([0, 1, 2, 3, 4, 5, 6, 7, 8, 9, 10, 11, 12, 13, 14, 15, 16, 17, 18, 19, 20, 21, 22, 23, 24, 25, 26, 27, 28, 29, 30, 31], none))⟩,
    ⟨(some 40), .fieldAddr 17 (.tmp 1), none, 36, (some ([], none))⟩,
    ⟨(some 41), .load false 1 (.tmp 40), none, 36, (some ([], none))⟩,
    ⟨(some 42), .call (.func 179) [(false, (.const (.str [67, 97, 99, 104, 101]))), (false, (.tmp 41)), (false, (.const (.int .i64 (0)))), (false, (.const (.int .i64 (16))))] false 4, none, 36, (some ([0, 1, 2, 3, 4, 5, 6, 7, 8, 9, 10, 11, 12, 13, 14, 15, 16, 17, 18, 19, 20, 21, 22, 23, 24, 25, 26, 27, 28, 29, 30, 31, 32, 33, 34, 35], none))⟩,
    ⟨(some 43), .buildSlice 2 15 true [.str [], .nilfn] [(0, (.tmp 4)), (1, (.tmp 6)), (2, (.tmp 9)), (3, (.tmp 11)), (4, (.tmp 13)), (5, (.tmp 16)), (6, (.tmp 18)), (7, (.tmp 21)), (8, (.tmp 24)), (9, (.tmp 27)), (10, (.tmp 30)), (11, (.tmp 33)), (12, (.tmp 36)), (13, (.tmp 39)), (14, (.tmp 42))], none, 40, (some ([0, 1, 2, 3, 4, 5, 6, 7, 8, 9, 10, 11, 12, 13, 14, 15, 16, 17, 18, 19, 20, 21, 22, 23, 24, 25, 26, 27, 28, 29, 30, 31, 32, 33, 34, 35, 36, 37, 38, 39], none))⟩,
    ⟨(some 2), .move (.tmp 43), none, 41, (some ([0, 1, 2, 3, 4, 5, 6, 7, 8, 9, 10, 11, 12, 13, 14, 15, 16, 17, 18, 19, 20, 21, 22, 23, 24, 25, 26, 27, 28, 29, 30, 31, 32, 33, 34, 35, 36, 37, 38, 39, 40], none))⟩] []) (.ret)), [.tmp 2], true⟩
def s158 : Sig := ⟨(.cons (.v .spec) .nil), [], ((.rows 2 (.cons (.cons (.v .str) (.cons (.fn 175 (.cons (.iptr (.cons (.v (.list .res)) (.cons (.v (.list (.list (.int .i64)))) (.cons (.v (.list .queue)) (.cons (.v (.int .i64)) (.cons (.v (.int .i64)) (.cons (.v (.int .i64)) (.cons (.v (.int .i64)) (.cons (.v (.int .i64)) (.cons (.v (.int .i64)) (.cons (.v (.int .i64)) (.cons (.v (.int .i64)) (.cons (.v (.int .i64)) (.cons (.v (.int .i64)) (.cons (.v (.int .i64)) (.cons (.v (.int .i64)) (.cons (.v (.int .i64)) (.cons (.v (.int .i64)) (.cons (.v (.int .i64)) .nil)))))))))))))))))) 0) .nil)) .nil)) (.cons (.cons (.v .str) (.cons (.fn 177 (.cons (.iptr (.cons (.v (.list .res)) (.cons (.v (.list (.list (.int .i64)))) (.cons (.v (.list .queue)) (.cons (.v (.int .i64)) (.cons (.v (.int .i64)) (.cons (.v (.int .i64)) (.cons (.v (.int .i64)) (.cons (.v (.int .i64)) (.cons (.v (.int .i64)) (.cons (.v (.int .i64)) (.cons (.v (.int .i64)) (.cons (.v (.int .i64)) (.cons (.v (.int .i64)) (.cons (.v (.int .i64)) (.cons (.v (.int .i64)) (.cons (.v (.int .i64)) (.cons (.v (.int .i64)) (.cons (.v (.int .i64)) .nil)))))))))))))))))) 0) .nil)) .nil)) (.cons (.cons (.v .str) (.cons (.fn 205 (.cons (.iptr (.cons (.v (.int .i64)) .nil) 0) (.cons (.iptr (.cons (.v (.int .i64)) .nil) 0) (.cons (.iptr (.cons (.v (.int .i64)) .nil) 0) .nil)))) .nil)) (.cons (.cons (.v .str) (.cons (.fn 180 (.cons (.iptr (.cons (.v (.list .res)) (.cons (.v (.list (.list (.int .i64)))) (.cons (.v (.list .queue)) (.cons (.v (.int .i64)) (.cons (.v (.int .i64)) (.cons (.v (.int .i64)) (.cons (.v (.int .i64)) (.cons (.v (.int .i64)) (.cons (.v (.int .i64)) (.cons (.v (.int .i64)) (.cons (.v (.int .i64)) (.cons (.v (.int .i64)) (.cons (.v (.int .i64)) (.cons (.v (.int .i64)) (.cons (.v (.int .i64)) (.cons (.v (.int .i64)) (.cons (.v (.int .i64)) (.cons (.v (.int .i64)) .nil)))))))))))))))))) 0) .nil)) .nil)) (.cons (.cons (.v .str) (.cons (.fn 182 (.cons (.iptr (.cons (.v (.list .res)) (.cons (.v (.list (.list (.int .i64)))) (.cons (.v (.list .queue)) (.cons (.v (.int .i64)) (.cons (.v (.int .i64)) (.cons (.v (.int .i64)) (.cons (.v (.int .i64)) (.cons (.v (.int .i64)) (.cons (.v (.int .i64)) (.cons (.v (.int .i64)) (.cons (.v (.int .i64)) (.cons (.v (.int .i64)) (.cons (.v (.int .i64)) (.cons (.v (.int .i64)) (.cons (.v (.int .i64)) (.cons (.v (.int .i64)) (.cons (.v (.int .i64)) (.cons (.v (.int .i64)) .nil)))))))))))))))))) 0) .nil)) .nil)) (.cons (.cons (.v .str) (.cons (.fn 205 (.cons (.iptr (.cons (.v (.int .i64)) .nil) 0) (.cons (.iptr (.cons (.v (.int .i64)) .nil) 0) (.cons (.iptr (.cons (.v (.int .i64)) .nil) 0) .nil)))) .nil)) (.cons (.cons (.v .str) (.cons (.fn 184 (.cons (.iptr (.cons (.v (.list .res)) (.cons (.v (.list (.list (.int .i64)))) (.cons (.v (.list .queue)) (.cons (.v (.int .i64)) (.cons (.v (.int .i64)) (.cons (.v (.int .i64)) (.cons (.v (.int .i64)) (.cons (.v (.int .i64)) (.cons (.v (.int .i64)) (.cons (.v (.int .i64)) (.cons (.v (.int .i64)) (.cons (.v (.int .i64)) (.cons (.v (.int .i64)) (.cons (.v (.int .i64)) (.cons (.v (.int .i64)) (.cons (.v (.int .i64)) (.cons (.v (.int .i64)) (.cons (.v (.int .i64)) .nil)))))))))))))))))) 0) .nil)) .nil)) (.cons (.cons (.v .str) (.cons (.fn 205 (.cons (.iptr (.cons (.v (.int .i64)) .nil) 0) (.cons (.iptr (.cons (.v (.int .i64)) .nil) 0) (.cons (.iptr (.cons (.v (.int .i64)) .nil) 0) .nil)))) .nil)) (.cons (.cons (.v .str) (.cons (.fn 205 (.cons (.iptr (.cons (.v (.int .i64)) .nil) 0) (.cons (.iptr (.cons (.v (.int .i64)) .nil) 0) (.cons (.iptr (.cons (.v (.int .i64)) .nil) 0) .nil)))) .nil)) (.cons (.cons (.v .str) (.cons (.fn 205 (.cons (.iptr (.cons (.v (.int .i64)) .nil) 0) (.cons (.iptr (.cons (.v (.int .i64)) .nil) 0) (.cons (.iptr (.cons (.v (.int .i64)) .nil) 0) .nil)))) .nil)) (.cons (.cons (.v .str) (.cons (.fn 205 (.cons (.iptr (.cons (.v (.int .i64)) .nil) 0) (.cons (.iptr (.cons (.v (.int .i64)) .nil) 0) (.cons (.iptr (.cons (.v (.int .i64)) .nil) 0) .nil)))) .nil)) (.cons (.cons (.v .str) (.cons (.fn 205 (.cons (.iptr (.cons (.v (.int .i64)) .nil) 0) (.cons (.iptr (.cons (.v (.int .i64)) .nil) 0) (.cons (.iptr (.cons (.v (.int .i64)) .nil) 0) .nil)))) .nil)) (.cons (.cons (.v .str) (.cons (.fn 205 (.cons (.iptr (.cons (.v (.int .i64)) .nil) 0) (.cons (.iptr (.cons (.v (.int .i64)) .nil) 0) (.cons (.iptr (.cons (.v (.int .i64)) .nil) 0) .nil)))) .nil)) (.cons (.cons (.v .str) (.cons (.fn 205 (.cons (.iptr (.cons (.v (.int .i64)) .nil) 0) (.cons (.iptr (.cons (.v (.int .i64)) .nil) 0) (.cons (.iptr (.cons (.v (.int .i64)) .nil) 0) .nil)))) .nil)) (.cons (.cons (.v .str) (.cons (.fn 205 (.cons (.iptr (.cons (.v (.int .i64)) .nil) 0) (.cons (.iptr (.cons (.v (.int .i64)) .nil) 0) (.cons (.iptr (.cons (.v (.int .i64)) .nil) 0) .nil)))) .nil)) .nil)))))))))))))))), []), []⟩
@[reducible] def y158 : Type := (((List UInt8) × ((((List Res) × ((List (List Int)) × ((List Queue) × (Int × (Int × (Int × (Int × (Int × (Int × (Int × (Int × (Int × (Int × (Int × (Int × (Int × (Int × (Int × Unit)))))))))))))))))) × Unit) × Unit)) × (((List UInt8) × ((((List Res) × ((List (List Int)) × ((List Queue) × (Int × (Int × (Int × (Int × (Int × (Int × (Int × (Int × (Int × (Int × (Int × (Int × (Int × (Int × (Int × Unit)))))))))))))))))) × Unit) × Unit)) × (((List UInt8) × (((Int × Unit) × ((Int × Unit) × ((Int × Unit) × Unit))) × Unit)) × (((List UInt8) × ((((List Res) × ((List (List Int)) × ((List Queue) × (Int × (Int × (Int × (Int × (Int × (Int × (Int × (Int × (Int × (Int × (Int × (Int × (Int × (Int × (Int × Unit)))))))))))))))))) × Unit) × Unit)) × (((List UInt8) × ((((List Res) × ((List (List Int)) × ((List Queue) × (Int × (Int × (Int × (Int × (Int × (Int × (Int × (Int × (Int × (Int × (Int × (Int × (Int × (Int × (Int × Unit)))))))))))))))))) × Unit) × Unit)) × (((List UInt8) × (((Int × Unit) × ((Int × Unit) × ((Int × Unit) × Unit))) × Unit)) × (((List UInt8) × ((((List Res) × ((List (List Int)) × ((List Queue) × (Int × (Int × (Int × (Int × (Int × (Int × (Int × (Int × (Int × (Int × (Int × (Int × (Int × (Int × (Int × Unit)))))))))))))))))) × Unit) × Unit)) × (((List UInt8) × (((Int × Unit) × ((Int × Unit) × ((Int × Unit) × Unit))) × Unit)) × (((List UInt8) × (((Int × Unit) × ((Int × Unit) × ((Int × Unit) × Unit))) × Unit)) × (((List UInt8) × (((Int × Unit) × ((Int × Unit) × ((Int × Unit) × Unit))) × Unit)) × (((List UInt8) × (((Int × Unit) × ((Int × Unit) × ((Int × Unit) × Unit))) × Unit)) × (((List UInt8) × (((Int × Unit) × ((Int × Unit) × ((Int × Unit) × Unit))) × Unit)) × (((List UInt8) × (((Int × Unit) × ((Int × Unit) × ((Int × Unit) × Unit))) × Unit)) × (((List UInt8) × (((Int × Unit) × ((Int × Unit) × ((Int × Unit) × Unit))) × Unit)) × (((List UInt8) × (((Int × Unit) × ((Int × Unit) × ((Int × Unit) × Unit))) × Unit)) × Unit)))))))))))))))
def F158 (L : Lp) (g179 : (List UInt8) → Int → Int → Int → Option ((List UInt8) × (((Int × Unit) × ((Int × Unit) × ((Int × Unit) × Unit))) × Unit))) (as0 : Spec) : Option y158 :=
  Option.bind (g179 ([85, 115, 101, 114, 115] : List UInt8) as0.users 1 8) fun r1 =>
  Option.bind (g179 ([68, 101, 99, 97, 121] : List UInt8) as0.decay 1 16) fun r2 =>
  Option.bind (g179 ([74, 111, 98, 115] : List UInt8) as0.jobs 1 256) fun r3 =>
  Option.bind (g179 ([73, 100, 115] : List UInt8) as0.ids 1 1048576) fun r4 =>
  Option.bind (g179 ([86, 101, 114, 115, 105, 111, 110, 115] : List UInt8) as0.versions 1 65536) fun r5 =>
  Option.bind (g179 ([76, 105, 110, 103, 101, 114] : List UInt8) as0.linger 0 65536) fun r6 =>
  Option.bind (g179 ([75, 101, 101, 112] : List UInt8) as0.keep 1 16) fun r7 =>
  Option.bind (g179 ([73, 110] : List UInt8) as0.inn 1 8) fun r8 =>
  Option.bind (g179 ([79, 117, 116] : List UInt8) as0.out 1 16) fun r9 =>
  Option.bind (g179 ([67, 97, 99, 104, 101] : List UInt8) as0.cache 0 16) fun r10 =>
  some ((([78, 111, 100, 101, 115] : List UInt8), ((as0.nodes, as0.parts, as0.queues, as0.users, as0.weights.age, as0.weights.size, as0.weights.qos, as0.weights.share, as0.decay, as0.mode, as0.jobs, as0.ids, as0.versions, as0.linger, as0.keep, as0.inn, as0.out, as0.cache, ()), ()), ()), ((([80, 97, 114, 116, 115] : List UInt8), ((as0.nodes, as0.parts, as0.queues, as0.users, as0.weights.age, as0.weights.size, as0.weights.qos, as0.weights.share, as0.decay, as0.mode, as0.jobs, as0.ids, as0.versions, as0.linger, as0.keep, as0.inn, as0.out, as0.cache, ()), ()), ()), ((r1.1, ((r1.2.1.1.1, ()), (r1.2.1.2.1.1, ()), (r1.2.1.2.2.1.1, ()), ()), ()), ((([81, 117, 101, 117, 101, 115] : List UInt8), ((as0.nodes, as0.parts, as0.queues, as0.users, as0.weights.age, as0.weights.size, as0.weights.qos, as0.weights.share, as0.decay, as0.mode, as0.jobs, as0.ids, as0.versions, as0.linger, as0.keep, as0.inn, as0.out, as0.cache, ()), ()), ()), ((([87, 101, 105, 103, 104, 116, 115] : List UInt8), ((as0.nodes, as0.parts, as0.queues, as0.users, as0.weights.age, as0.weights.size, as0.weights.qos, as0.weights.share, as0.decay, as0.mode, as0.jobs, as0.ids, as0.versions, as0.linger, as0.keep, as0.inn, as0.out, as0.cache, ()), ()), ()), ((r2.1, ((r2.2.1.1.1, ()), (r2.2.1.2.1.1, ()), (r2.2.1.2.2.1.1, ()), ()), ()), ((([77, 111, 100, 101] : List UInt8), ((as0.nodes, as0.parts, as0.queues, as0.users, as0.weights.age, as0.weights.size, as0.weights.qos, as0.weights.share, as0.decay, as0.mode, as0.jobs, as0.ids, as0.versions, as0.linger, as0.keep, as0.inn, as0.out, as0.cache, ()), ()), ()), ((r3.1, ((r3.2.1.1.1, ()), (r3.2.1.2.1.1, ()), (r3.2.1.2.2.1.1, ()), ()), ()), ((r4.1, ((r4.2.1.1.1, ()), (r4.2.1.2.1.1, ()), (r4.2.1.2.2.1.1, ()), ()), ()), ((r5.1, ((r5.2.1.1.1, ()), (r5.2.1.2.1.1, ()), (r5.2.1.2.2.1.1, ()), ()), ()), ((r6.1, ((r6.2.1.1.1, ()), (r6.2.1.2.1.1, ()), (r6.2.1.2.2.1.1, ()), ()), ()), ((r7.1, ((r7.2.1.1.1, ()), (r7.2.1.2.1.1, ()), (r7.2.1.2.2.1.1, ()), ()), ()), ((r8.1, ((r8.2.1.1.1, ()), (r8.2.1.2.1.1, ()), (r8.2.1.2.2.1.1, ()), ()), ()), ((r9.1, ((r9.2.1.1.1, ()), (r9.2.1.2.1.1, ()), (r9.2.1.2.2.1.1, ()), ()), ()), ((r10.1, ((r10.2.1.1.1, ()), (r10.2.1.2.1.1, ()), (r10.2.1.2.2.1.1, ()), ()), ()), ())))))))))))))))
theorem e158 (L : Lp) (g179 : (List UInt8) → Int → Int → Int → Option ((List UInt8) × (((Int × Unit) × ((Int × Unit) × ((Int × Unit) × Unit))) × Unit))) (x : s158.args.den) (h : denH s158.heap) : nrun [⟨179, s179, fun x h => g179 x.1 x.2.1 x.2.2.1 x.2.2.2.1⟩] L n158 s158 x h = F158 L g179 x.1 := by kernel_rfl
def f158 : Spec → Option y158 := F158 (@LN LOOPS) f179
@[reducible] def t158 : Ent := ⟨158, s158, fun x h => f158 x.1⟩
theorem k158 : chkNF Try.prog Try.f158 n158 = true := by kernel_rfl
theorem ok158 : NOk Try.prog t158 := NOk.body (T := [t179]) mixed (nall_cons ok179 nall_nil) (oneEach_of (by kernel_rfl)) Try.func158 k158 (by kernel_rfl) (fun x h => e158 _ _ x h)
/- drayage/vec.numbers -/
def n141 : NFunc := ⟨12, .seq (.region 2 [
    ⟨(some 1), .box 4 (.tmp 0), none, 0, none⟩,
    ⟨(some 2), .alloc [.int .i64 (0), .int .i64 (0), .int .i64 (0), .int .i64 (0)], none, 1, none⟩] []) (.seq (.region 0 [
    ⟨(some 3), .fieldAddr 0 (.tmp 1), none, 0, none⟩,
    ⟨(some 4), .load false 1 (.tmp 3), none, 0, none⟩,
    ⟨(some 5), .fieldAddr 1 (.tmp 1), none, 0, none⟩,
    ⟨(some 6), .load false 1 (.tmp 5), none, 0, none⟩,
    ⟨(some 7), .fieldAddr 2 (.tmp 1), none, 0, none⟩,
    ⟨(some 8), .load false 1 (.tmp 7), none, 0, none⟩,
    ⟨(some 9), .fieldAddr 3 (.tmp 1), none, 0, none⟩,
    ⟨(some 10), .load false 1 (.tmp 9), none, 0, none⟩,
    ⟨(some 11), .build [.int .i64 (0), .int .i64 (0), .int .i64 (0), .int .i64 (0)] [(0, 1, (.tmp 4)), (1, 1, (.tmp 6)), (2, 1, (.tmp 8)), (3, 1, (.tmp 10))], none, 0, none⟩,
    ⟨none, .store 4 (.tmp 2) (.tmp 11), none, 0, none⟩] []) (.ret)), [.cell true 4 2], true⟩
def s141 : Sig := ⟨(.cons (.v .res) .nil), [], ((.v (.pair (.int .i64) (.pair (.int .i64) (.pair (.int .i64) (.int .i64))))), []), []⟩
def F141 (L : Lp)  (a0 : Res) : Option (Int × (Int × (Int × Int))) :=
  some (a0.cpu, (a0.mem, (a0.gpu, a0.lic)))
theorem e141 (L : Lp)  (x : s141.args.den) (h : denH s141.heap) : nrun [] L n141 s141 x h = F141 L  x.1 := by kernel_rfl
def f141 : Res → Option (Int × (Int × (Int × Int))) := F141 (@LN LOOPS) 
@[reducible] def t141 : Ent := ⟨141, s141, fun x h => f141 x.1⟩
theorem k141 : chkNF Try.prog Try.f141 n141 = true := by kernel_rfl
theorem ok141 : NOk Try.prog t141 := NOk.body (T := []) mixed nall_nil (oneEach_of (by kernel_rfl)) Try.func141 k141 (by kernel_rfl) (fun x h => e141 _  x h)
/- drayage/vec.Right -/
def n93 : NFunc := ⟨17, .seq (.region 1 [
    ⟨(some 1), .box 4 (.tmp 0), none, 0, none⟩,
    ⟨(some 2), .move (.const (.bool false)), none, 1, none⟩] []) (.seq (.seq (.region 4 [
    ⟨(some 5), .load true 4 (.tmp 1), none, 0, none⟩,
    ⟨(some 6), .call (.func 141) [(false, (.tmp 5))] false 4, none, 0, none⟩,
    ⟨(some 7), .move (.const (.int .i64 (0))), none, 4, none⟩] []) (.block 0 (.loopU [6, 7] 5 (.seq (.region 0 [
    ⟨(some 8), .bin .lss (.tmp 7) (.const (.int .i64 (4))), none, 0, none⟩] []) (.seq (.cond (.tmp 8) (.skip) (.exit 0)) (.seq (.block 1 (.seq (.region 0 [
    ⟨(some 9), .indexVal false 4 1 (.tmp 6) (.tmp 7), none, 0, none⟩,
    ⟨(some 4), .move (.tmp 9), none, 0, none⟩] []) (.seq (.region 0 [
    ⟨(some 10), .move (.tmp 4), none, 0, none⟩,
    ⟨(some 11), .bin .lss (.tmp 10) (.const (.int .i64 (0))), none, 0, none⟩,
    ⟨(some 12), .move (.tmp 11), none, 0, none⟩,
    ⟨(some 13), .move (.tmp 4), (some (12, false)), 0, none⟩,
    ⟨(some 14), .bin .gtr (.tmp 13) (.const (.int .i64 (1048576))), (some (12, false)), 0, none⟩,
    ⟨(some 15), .pick (.tmp 12) (.const (.bool true)) (.tmp 14), none, 0, none⟩] []) (.cond (.tmp 15) (.seq (.region 0 [
    ⟨(some 2), .move (.const (.bool false)), none, 0, none⟩] []) (.ret)) (.skip))))) (.region 0 [
    ⟨(some 16), .bin .add (.tmp 7) (.const (.int .i64 (1))), none, 0, none⟩,
    ⟨(some 7), .move (.tmp 16), none, 0, none⟩] []))))))) (.seq (.region 0 [
    ⟨(some 2), .move (.const (.bool true)), none, 0, none⟩] []) (.ret))), [.tmp 2], true⟩
def s93 : Sig := ⟨(.cons (.v .res) .nil), [], ((.v .bool), []), []⟩
def F93 (L : Lp) (g141 : Res → Option (Int × (Int × (Int × Int)))) (a0 : Res) : Option Bool :=
  Option.bind (g141 a0) fun r1 =>
  cond (decide (r1.1 < 0))
  (some false)
  (cond (decide (1048576 < r1.1))
  (some false)
  (cond (decide (r1.2.1 < 0))
  (some false)
  (cond (decide (1048576 < r1.2.1))
  (some false)
  (cond (decide (r1.2.2.1 < 0))
  (some false)
  (cond (decide (1048576 < r1.2.2.1))
  (some false)
  (cond (decide (r1.2.2.2 < 0))
  (some false)
  (cond (decide (1048576 < r1.2.2.2))
  (some false)
  (some true))))))))
theorem e93 (L : Lp) (g141 : Res → Option (Int × (Int × (Int × Int)))) (x : s93.args.den) (h : denH s93.heap) : nrun [⟨141, s141, fun x h => g141 x.1⟩] L n93 s93 x h = F93 L g141 x.1 := by kernel_rfl
def f93 : Res → Option Bool := F93 (@LN LOOPS) f141
@[reducible] def t93 : Ent := ⟨93, s93, fun x h => f93 x.1⟩
theorem k93 : chkNF Try.prog Try.f93 n93 = true := by kernel_rfl
theorem ok93 : NOk Try.prog t93 := NOk.body (T := [t141]) mixed (nall_cons ok141 nall_nil) (oneEach_of (by kernel_rfl)) Try.func93 k93 (by kernel_rfl) (fun x h => e93 _ _ x h)
/- drayage/spec.nodesRight -/
def n176 : NFunc := ⟨26, .seq (.region 1 [
    ⟨(some 1), .box 18 (.tmp 0), none, 0, none⟩,
    ⟨(some 2), .move (.const (.bool false)), none, 1, none⟩] []) (.seq (.seq (.region 0 [
    ⟨(some 5), .fieldAddr 0 (.tmp 1), none, 0, none⟩,
    ⟨(some 6), .load false 1 (.tmp 5), none, 0, none⟩,
    ⟨(some 7), .len (.tmp 6), none, 0, none⟩,
    ⟨(some 8), .bin .lss (.tmp 7) (.const (.int .i64 (1))), none, 0, none⟩,
    ⟨(some 9), .move (.tmp 8), none, 0, none⟩,
    ⟨(some 10), .fieldAddr 0 (.tmp 1), (some (9, false)), 0, none⟩,
    ⟨(some 11), .load false 1 (.tmp 10), (some (9, false)), 0, none⟩,
    ⟨(some 12), .len (.tmp 11), (some (9, false)), 0, none⟩,
    ⟨(some 13), .bin .gtr (.tmp 12) (.const (.int .i64 (16))), (some (9, false)), 0, none⟩,
    ⟨(some 14), .pick (.tmp 9) (.const (.bool true)) (.tmp 13), none, 0, none⟩] []) (.cond (.tmp 14) (.seq (.region 0 [
    ⟨(some 2), .move (.const (.bool false)), none, 0, none⟩] []) (.ret)) (.skip))) (.seq (.seq (.region 0 [
    ⟨(some 15), .fieldAddr 0 (.tmp 1), none, 0, none⟩,
    ⟨(some 16), .load false 1 (.tmp 15), none, 0, none⟩,
    ⟨(some 17), .len (.tmp 16), none, 0, none⟩,
    ⟨(some 18), .move (.const (.int .i64 (0))), none, 0, none⟩] []) (.block 0 (.loop [16, 17, 18] ⟨[(18, (.v (.int .i64)))], [16, 17], []⟩ (.seq (.region 0 [
    ⟨(some 19), .bin .lss (.tmp 18) (.tmp 17), none, 0, none⟩] []) (.seq (.cond (.tmp 19) (.skip) (.exit 0)) (.seq (.block 1 (.seq (.region 1 [
    ⟨(some 20), .indexSl 4 (.tmp 16) (.tmp 18), none, 0, none⟩,
    ⟨(some 21), .load true 4 (.tmp 20), none, 0, none⟩,
    ⟨(some 4), .alloc [.int .i64 (0), .int .i64 (0), .int .i64 (0), .int .i64 (0)], none, 0, none⟩,
    ⟨none, .store 4 (.tmp 4) (.tmp 21), none, 1, none⟩] []) (.seq (.region 4 [
    ⟨(some 22), .load true 4 (.tmp 4), none, 0, none⟩,
    ⟨(some 23), .call (.func 93) [(false, (.tmp 22))] false 4, none, 0, none⟩,
    ⟨(some 24), .un .not (.tmp 23), none, 4, none⟩] []) (.cond (.tmp 24) (.seq (.region 0 [
    ⟨(some 2), .move (.const (.bool false)), none, 0, none⟩] []) (.ret)) (.skip))))) (.region 0 [
    ⟨(some 25), .bin .add (.tmp 18) (.const (.int .i64 (1))), none, 0, none⟩,
    ⟨(some 18), .move (.tmp 25), none, 0, none⟩] []))))))) (.seq (.region 0 [
    ⟨(some 2), .move (.const (.bool true)), none, 0, none⟩] []) (.ret)))), [.tmp 2], true⟩
def s176 : Sig := ⟨(.cons (.v .spec) .nil), [], ((.v .bool), []), []⟩
def l176_0 (g93 : Res → Option Bool) (as0 : Spec) (nx2 : ((Int × Unit) × Unit) → Option Bool) (z3 : Int) : Option Bool :=
  cond (decide (z3 < (List.length as0.nodes : Int)))
  (cond (decide (0 ≤ z3))
  (Option.bind (as0.nodes[Int.toNat z3]?) fun y4 =>
  Option.bind (g93 y4) fun r5 =>
  cond (!r5)
  (some false)
  (nx2 ((IntKind.wrap .i64 (z3 + 1), ()), ())))
  (none))
  (some true)
def F176 (L : Lp) (g93 : Res → Option Bool) (as0 : Spec) : Option Bool :=
  cond (decide ((List.length as0.nodes : Int) < 1))
  (some false)
  (cond (decide (16 < (List.length as0.nodes : Int)))
  (some false)
  (L (fun (s1 : ((Int × Unit) × Unit)) nx2 => l176_0 g93 as0 nx2 s1.1.1) ((0, ()), ())))
theorem e176 (L : Lp) (g93 : Res → Option Bool) (x : s176.args.den) (h : denH s176.heap) : nrun [⟨93, s93, fun x h => g93 x.1⟩] L n176 s176 x h = F176 L g93 x.1 := by kernel_rfl
def f176 : Spec → Option Bool := F176 (@LN LOOPS) f93
@[reducible] def t176 : Ent := ⟨176, s176, fun x h => f176 x.1⟩
theorem k176 : chkNF Try.prog Try.f176 n176 = true := by kernel_rfl
theorem ok176 : NOk Try.prog t176 := NOk.body (T := [t93]) mixed (nall_cons ok93 nall_nil) (oneEach_of (by kernel_rfl)) Try.func176 k176 (by kernel_rfl) (fun x h => e176 _ _ x h)
/- drayage/spec.rules$1 -/
def n175 : NFunc := ⟨4, .seq (.region 0 [
    ⟨(some 1), .move (.const (.bool false)), none, 0, none⟩] []) (.seq (.region 4 [
    ⟨(some 2), .load true 18 (.tmp 0), none, 0, none⟩,
    ⟨(some 3), .call (.func 176) [(false, (.tmp 2))] false 4, none, 0, none⟩,
    ⟨(some 1), .move (.tmp 3), none, 4, none⟩] []) (.ret)), [.tmp 1], true⟩
def s175 : Sig := ⟨(.cons (.iptr (.cons (.v (.list .res)) (.cons (.v (.list (.list (.int .i64)))) (.cons (.v (.list .queue)) (.cons (.v (.int .i64)) (.cons (.v (.int .i64)) (.cons (.v (.int .i64)) (.cons (.v (.int .i64)) (.cons (.v (.int .i64)) (.cons (.v (.int .i64)) (.cons (.v (.int .i64)) (.cons (.v (.int .i64)) (.cons (.v (.int .i64)) (.cons (.v (.int .i64)) (.cons (.v (.int .i64)) (.cons (.v (.int .i64)) (.cons (.v (.int .i64)) (.cons (.v (.int .i64)) (.cons (.v (.int .i64)) .nil)))))))))))))))))) 0) .nil), [], ((.v .bool), []), []⟩
def F175 (L : Lp) (g176 : Spec → Option Bool) (a0 : (List Res)) (a1 : (List (List Int))) (a2 : (List Queue)) (a3 : Int) (a4 : Int) (a5 : Int) (a6 : Int) (a7 : Int) (a8 : Int) (a9 : Int) (a10 : Int) (a11 : Int) (a12 : Int) (a13 : Int) (a14 : Int) (a15 : Int) (a16 : Int) (a17 : Int) : Option Bool :=
  Option.bind (g176 (Spec.mk a0 a1 a2 a3 (Weights.mk a4 a5 a6 a7) a8 a9 a10 a11 a12 a13 a14 a15 a16 a17)) fun r18 =>
  some r18
theorem e175 (L : Lp) (g176 : Spec → Option Bool) (x : s175.args.den) (h : denH s175.heap) : nrun [⟨176, s176, fun x h => g176 x.1⟩] L n175 s175 x h = F175 L g176 x.1.1 x.1.2.1 x.1.2.2.1 x.1.2.2.2.1 x.1.2.2.2.2.1 x.1.2.2.2.2.2.1 x.1.2.2.2.2.2.2.1 x.1.2.2.2.2.2.2.2.1 x.1.2.2.2.2.2.2.2.2.1 x.1.2.2.2.2.2.2.2.2.2.1 x.1.2.2.2.2.2.2.2.2.2.2.1 x.1.2.2.2.2.2.2.2.2.2.2.2.1 x.1.2.2.2.2.2.2.2.2.2.2.2.2.1 x.1.2.2.2.2.2.2.2.2.2.2.2.2.2.1 x.1.2.2.2.2.2.2.2.2.2.2.2.2.2.2.1 x.1.2.2.2.2.2.2.2.2.2.2.2.2.2.2.2.1 x.1.2.2.2.2.2.2.2.2.2.2.2.2.2.2.2.2.1 x.1.2.2.2.2.2.2.2.2.2.2.2.2.2.2.2.2.2.1 := by kernel_rfl
def f175 : (List Res) → (List (List Int)) → (List Queue) → Int → Int → Int → Int → Int → Int → Int → Int → Int → Int → Int → Int → Int → Int → Int → Option Bool := F175 (@LN LOOPS) f176
@[reducible] def t175 : Ent := ⟨175, s175, fun x h => f175 x.1.1 x.1.2.1 x.1.2.2.1 x.1.2.2.2.1 x.1.2.2.2.2.1 x.1.2.2.2.2.2.1 x.1.2.2.2.2.2.2.1 x.1.2.2.2.2.2.2.2.1 x.1.2.2.2.2.2.2.2.2.1 x.1.2.2.2.2.2.2.2.2.2.1 x.1.2.2.2.2.2.2.2.2.2.2.1 x.1.2.2.2.2.2.2.2.2.2.2.2.1 x.1.2.2.2.2.2.2.2.2.2.2.2.2.1 x.1.2.2.2.2.2.2.2.2.2.2.2.2.2.1 x.1.2.2.2.2.2.2.2.2.2.2.2.2.2.2.1 x.1.2.2.2.2.2.2.2.2.2.2.2.2.2.2.2.1 x.1.2.2.2.2.2.2.2.2.2.2.2.2.2.2.2.2.1 x.1.2.2.2.2.2.2.2.2.2.2.2.2.2.2.2.2.2.1⟩
theorem k175 : chkNF Try.prog Try.f175 n175 = true := by kernel_rfl
theorem ok175 : NOk Try.prog t175 := NOk.body (T := [t176]) mixed (nall_cons ok176 nall_nil) (oneEach_of (by kernel_rfl)) Try.func175 k175 (by kernel_rfl) (fun x h => e175 _ _ x h)
/- drayage/spec.ascending -/
def n204 : NFunc := ⟨24, .seq (.region 0 [
    ⟨(some 4), .move (.const (.bool false)), none, 0, none⟩] []) (.seq (.region 0 [
    ⟨(some 5), .move (.const (.int .i64 (-1))), none, 0, none⟩] []) (.seq (.seq (.region 0 [
    ⟨(some 8), .move (.tmp 0), none, 0, none⟩,
    ⟨(some 9), .len (.tmp 8), none, 0, none⟩,
    ⟨(some 10), .move (.const (.int .i64 (0))), none, 0, none⟩] []) (.block 0 (.loop [1, 5, 8, 9, 10] ⟨[(5, (.v (.int .i64))), (10, (.v (.int .i64)))], [1, 8, 9], []⟩ (.seq (.region 0 [
    ⟨(some 11), .bin .lss (.tmp 10) (.tmp 9), none, 0, none⟩] []) (.seq (.cond (.tmp 11) (.skip) (.exit 0)) (.seq (.block 1 (.seq (.region 0 [
    ⟨(some 12), .indexSl 1 (.tmp 8) (.tmp 10), none, 0, none⟩,
    ⟨(some 13), .load false 1 (.tmp 12), none, 0, none⟩,
    ⟨(some 7), .move (.tmp 13), none, 0, none⟩] []) (.seq (.seq (.region 0 [
    ⟨(some 14), .move (.tmp 7), none, 0, none⟩,
    ⟨(some 15), .move (.tmp 5), none, 0, none⟩,
    ⟨(some 16), .bin .leq (.tmp 14) (.tmp 15), none, 0, none⟩,
    ⟨(some 17), .move (.tmp 16), none, 0, none⟩,
    ⟨(some 18), .move (.tmp 7), (some (17, false)), 0, none⟩,
    ⟨(some 19), .move (.tmp 1), (some (17, false)), 0, none⟩,
    ⟨(some 20), .bin .geq (.tmp 18) (.tmp 19), (some (17, false)), 0, none⟩,
    ⟨(some 21), .pick (.tmp 17) (.const (.bool true)) (.tmp 20), none, 0, none⟩] []) (.cond (.tmp 21) (.seq (.region 0 [
    ⟨(some 4), .move (.const (.bool false)), none, 0, none⟩] []) (.ret)) (.skip))) (.region 0 [
    ⟨(some 22), .move (.tmp 7), none, 0, none⟩,
    ⟨(some 5), .move (.tmp 22), none, 0, none⟩] [])))) (.region 0 [
    ⟨(some 23), .bin .add (.tmp 10) (.const (.int .i64 (1))), none, 0, none⟩,
    ⟨(some 10), .move (.tmp 23), none, 0, none⟩] []))))))) (.seq (.region 0 [
    ⟨(some 4), .move (.const (.bool true)), none, 0, none⟩] []) (.ret)))), [.tmp 4], true⟩
def s204 : Sig := ⟨(.cons (.v (.list (.int .i64))) (.cons (.v (.int .i64)) .nil)), [], ((.v .bool), []), []⟩
def l204_0 (al0 : (List Int)) (end1 : Int) (nx3 : ((Int × (Int × Unit)) × Unit) → Option Bool) (last4 : Int) (z5 : Int) : Option Bool :=
  cond (decide (z5 < (List.length al0 : Int)))
  (cond (decide (0 ≤ z5))
  (Option.bind (al0[Int.toNat z5]?) fun y6 =>
  cond (decide (y6 ≤ last4))
  (some false)
  (cond (decide (end1 ≤ y6))
  (some false)
  (nx3 ((y6, IntKind.wrap .i64 (z5 + 1), ()), ()))))
  (none))
  (some true)
def F204 (L : Lp)  (al0 : (List Int)) (end1 : Int) : Option Bool :=
  L (fun (s2 : ((Int × (Int × Unit)) × Unit)) nx3 => l204_0 al0 end1 nx3 s2.1.1 s2.1.2.1) (((-1), 0, ()), ())
theorem e204 (L : Lp)  (x : s204.args.den) (h : denH s204.heap) : nrun [] L n204 s204 x h = F204 L  x.1 x.2.1 := by kernel_rfl
def f204 : (List Int) → Int → Option Bool := F204 (@LN LOOPS) 
@[reducible] def t204 : Ent := ⟨204, s204, fun x h => f204 x.1 x.2.1⟩
theorem k204 : chkNF Try.prog Try.f204 n204 = true := by kernel_rfl
theorem ok204 : NOk Try.prog t204 := NOk.body (T := []) mixed nall_nil (oneEach_of (by kernel_rfl)) Try.func204 k204 (by kernel_rfl) (fun x h => e204 _  x h)
/- drayage/spec.partsRight -/
def n178 : NFunc := ⟨34, .seq (.region 1 [
    ⟨(some 1), .box 18 (.tmp 0), none, 0, none⟩,
    ⟨(some 2), .move (.const (.bool false)), none, 1, none⟩] []) (.seq (.seq (.region 0 [
    ⟨(some 5), .fieldAddr 1 (.tmp 1), none, 0, none⟩,
    ⟨(some 6), .load false 1 (.tmp 5), none, 0, none⟩,
    ⟨(some 7), .len (.tmp 6), none, 0, none⟩,
    ⟨(some 8), .bin .lss (.tmp 7) (.const (.int .i64 (1))), none, 0, none⟩,
    ⟨(some 9), .move (.tmp 8), none, 0, none⟩,
    ⟨(some 10), .fieldAddr 1 (.tmp 1), (some (9, false)), 0, none⟩,
    ⟨(some 11), .load false 1 (.tmp 10), (some (9, false)), 0, none⟩,
    ⟨(some 12), .len (.tmp 11), (some (9, false)), 0, none⟩,
    ⟨(some 13), .bin .gtr (.tmp 12) (.const (.int .i64 (8))), (some (9, false)), 0, none⟩,
    ⟨(some 14), .pick (.tmp 9) (.const (.bool true)) (.tmp 13), none, 0, none⟩] []) (.cond (.tmp 14) (.seq (.region 0 [
    ⟨(some 2), .move (.const (.bool false)), none, 0, none⟩] []) (.ret)) (.skip))) (.seq (.seq (.region 0 [
    ⟨(some 15), .fieldAddr 1 (.tmp 1), none, 0, none⟩,
    ⟨(some 16), .load false 1 (.tmp 15), none, 0, none⟩,
    ⟨(some 17), .len (.tmp 16), none, 0, none⟩,
    ⟨(some 18), .move (.const (.int .i64 (0))), none, 0, none⟩] []) (.block 0 (.loop [1, 16, 17, 18] ⟨[(1, (.ptr 0 0 0)), (18, (.v (.int .i64)))], [16, 17], [.one false .spec]⟩ (.seq (.region 0 [
    ⟨(some 19), .bin .lss (.tmp 18) (.tmp 17), none, 0, none⟩] []) (.seq (.cond (.tmp 19) (.skip) (.exit 0)) (.seq (.block 1 (.seq (.region 0 [
    ⟨(some 20), .indexSl 1 (.tmp 16) (.tmp 18), none, 0, none⟩,
    ⟨(some 21), .load false 1 (.tmp 20), none, 0, none⟩,
    ⟨(some 4), .move (.tmp 21), none, 0, none⟩] []) (.seq (.region 4 [
    ⟨(some 22), .move (.tmp 4), none, 0, none⟩,
    ⟨(some 23), .len (.tmp 22), none, 0, none⟩,
    ⟨(some 24), .bin .lss (.tmp 23) (.const (.int .i64 (1))), none, 0, none⟩,
    ⟨(some 25), .move (.tmp 24), none, 0, none⟩,
    ⟨(some 26), .move (.tmp 4), (some (25, false)), 0, none⟩,
    ⟨(some 27), .fieldAddr 0 (.tmp 1), (some (25, false)), 0, none⟩,
    ⟨(some 28), .load false 1 (.tmp 27), (some (25, false)), 0, none⟩,
    ⟨(some 29), .len (.tmp 28), (some (25, false)), 0, none⟩,
    ⟨(some 30), .call (.func 204) [(false, (.tmp 26)), (false, (.tmp 29))] false 4, (some (25, false)), 0, none⟩,
    ⟨(some 31), .un .not (.tmp 30), (some (25, false)), 4, none⟩,
    ⟨(some 32), .pick (.tmp 25) (.const (.bool true)) (.tmp 31), none, 4, none⟩] []) (.cond (.tmp 32) (.seq (.region 0 [
    ⟨(some 2), .move (.const (.bool false)), none, 0, none⟩] []) (.ret)) (.skip))))) (.region 0 [
    ⟨(some 33), .bin .add (.tmp 18) (.const (.int .i64 (1))), none, 0, none⟩,
    ⟨(some 18), .move (.tmp 33), none, 0, none⟩] []))))))) (.seq (.region 0 [
    ⟨(some 2), .move (.const (.bool true)), none, 0, none⟩] []) (.ret)))), [.tmp 2], true⟩
def s178 : Sig := ⟨(.cons (.v .spec) .nil), [], ((.v .bool), []), []⟩
def l178_0 (g204 : (List Int) → Int → Option Bool) (as0 : Spec) (nx2 : ((Unit × (Int × Unit)) × (Spec × Unit)) → Option Bool) (z3 : Int) (z4 : Spec) : Option Bool :=
  cond (decide (z3 < (List.length as0.parts : Int)))
  (cond (decide (0 ≤ z3))
  (Option.bind (as0.parts[Int.toNat z3]?) fun y5 =>
  cond (decide ((List.length y5 : Int) < 1))
  (some false)
  (Option.bind (g204 y5 (List.length z4.nodes : Int)) fun r6 =>
  cond (!r6)
  (some false)
  (nx2 (((), IntKind.wrap .i64 (z3 + 1), ()), (z4, ())))))
  (none))
  (some true)
def F178 (L : Lp) (g204 : (List Int) → Int → Option Bool) (as0 : Spec) : Option Bool :=
  cond (decide ((List.length as0.parts : Int) < 1))
  (some false)
  (cond (decide (8 < (List.length as0.parts : Int)))
  (some false)
  (L (fun (s1 : ((Unit × (Int × Unit)) × (Spec × Unit))) nx2 => l178_0 g204 as0 nx2 s1.1.2.1 s1.2.1) (((), 0, ()), (as0, ()))))
theorem e178 (L : Lp) (g204 : (List Int) → Int → Option Bool) (x : s178.args.den) (h : denH s178.heap) : nrun [⟨204, s204, fun x h => g204 x.1 x.2.1⟩] L n178 s178 x h = F178 L g204 x.1 := by kernel_rfl
def f178 : Spec → Option Bool := F178 (@LN LOOPS) f204
@[reducible] def t178 : Ent := ⟨178, s178, fun x h => f178 x.1⟩
theorem k178 : chkNF Try.prog Try.f178 n178 = true := by kernel_rfl
theorem ok178 : NOk Try.prog t178 := NOk.body (T := [t204]) mixed (nall_cons ok204 nall_nil) (oneEach_of (by kernel_rfl)) Try.func178 k178 (by kernel_rfl) (fun x h => e178 _ _ x h)
/- drayage/spec.rules$2 -/
def n177 : NFunc := ⟨4, .seq (.region 0 [
    ⟨(some 1), .move (.const (.bool false)), none, 0, none⟩] []) (.seq (.region 4 [
    ⟨(some 2), .load true 18 (.tmp 0), none, 0, none⟩,
    ⟨(some 3), .call (.func 178) [(false, (.tmp 2))] false 4, none, 0, none⟩,
    ⟨(some 1), .move (.tmp 3), none, 4, none⟩] []) (.ret)), [.tmp 1], true⟩
def s177 : Sig := ⟨(.cons (.iptr (.cons (.v (.list .res)) (.cons (.v (.list (.list (.int .i64)))) (.cons (.v (.list .queue)) (.cons (.v (.int .i64)) (.cons (.v (.int .i64)) (.cons (.v (.int .i64)) (.cons (.v (.int .i64)) (.cons (.v (.int .i64)) (.cons (.v (.int .i64)) (.cons (.v (.int .i64)) (.cons (.v (.int .i64)) (.cons (.v (.int .i64)) (.cons (.v (.int .i64)) (.cons (.v (.int .i64)) (.cons (.v (.int .i64)) (.cons (.v (.int .i64)) (.cons (.v (.int .i64)) (.cons (.v (.int .i64)) .nil)))))))))))))))))) 0) .nil), [], ((.v .bool), []), []⟩
def F177 (L : Lp) (g178 : Spec → Option Bool) (a0 : (List Res)) (a1 : (List (List Int))) (a2 : (List Queue)) (a3 : Int) (a4 : Int) (a5 : Int) (a6 : Int) (a7 : Int) (a8 : Int) (a9 : Int) (a10 : Int) (a11 : Int) (a12 : Int) (a13 : Int) (a14 : Int) (a15 : Int) (a16 : Int) (a17 : Int) : Option Bool :=
  Option.bind (g178 (Spec.mk a0 a1 a2 a3 (Weights.mk a4 a5 a6 a7) a8 a9 a10 a11 a12 a13 a14 a15 a16 a17)) fun r18 =>
  some r18
theorem e177 (L : Lp) (g178 : Spec → Option Bool) (x : s177.args.den) (h : denH s177.heap) : nrun [⟨178, s178, fun x h => g178 x.1⟩] L n177 s177 x h = F177 L g178 x.1.1 x.1.2.1 x.1.2.2.1 x.1.2.2.2.1 x.1.2.2.2.2.1 x.1.2.2.2.2.2.1 x.1.2.2.2.2.2.2.1 x.1.2.2.2.2.2.2.2.1 x.1.2.2.2.2.2.2.2.2.1 x.1.2.2.2.2.2.2.2.2.2.1 x.1.2.2.2.2.2.2.2.2.2.2.1 x.1.2.2.2.2.2.2.2.2.2.2.2.1 x.1.2.2.2.2.2.2.2.2.2.2.2.2.1 x.1.2.2.2.2.2.2.2.2.2.2.2.2.2.1 x.1.2.2.2.2.2.2.2.2.2.2.2.2.2.2.1 x.1.2.2.2.2.2.2.2.2.2.2.2.2.2.2.2.1 x.1.2.2.2.2.2.2.2.2.2.2.2.2.2.2.2.2.1 x.1.2.2.2.2.2.2.2.2.2.2.2.2.2.2.2.2.2.1 := by kernel_rfl
def f177 : (List Res) → (List (List Int)) → (List Queue) → Int → Int → Int → Int → Int → Int → Int → Int → Int → Int → Int → Int → Int → Int → Int → Option Bool := F177 (@LN LOOPS) f178
@[reducible] def t177 : Ent := ⟨177, s177, fun x h => f177 x.1.1 x.1.2.1 x.1.2.2.1 x.1.2.2.2.1 x.1.2.2.2.2.1 x.1.2.2.2.2.2.1 x.1.2.2.2.2.2.2.1 x.1.2.2.2.2.2.2.2.1 x.1.2.2.2.2.2.2.2.2.1 x.1.2.2.2.2.2.2.2.2.2.1 x.1.2.2.2.2.2.2.2.2.2.2.1 x.1.2.2.2.2.2.2.2.2.2.2.2.1 x.1.2.2.2.2.2.2.2.2.2.2.2.2.1 x.1.2.2.2.2.2.2.2.2.2.2.2.2.2.1 x.1.2.2.2.2.2.2.2.2.2.2.2.2.2.2.1 x.1.2.2.2.2.2.2.2.2.2.2.2.2.2.2.2.1 x.1.2.2.2.2.2.2.2.2.2.2.2.2.2.2.2.2.1 x.1.2.2.2.2.2.2.2.2.2.2.2.2.2.2.2.2.2.1⟩
theorem k177 : chkNF Try.prog Try.f177 n177 = true := by kernel_rfl
theorem ok177 : NOk Try.prog t177 := NOk.body (T := [t178]) mixed (nall_cons ok178 nall_nil) (oneEach_of (by kernel_rfl)) Try.func177 k177 (by kernel_rfl) (fun x h => e177 _ _ x h)
/- drayage/spec.within$1 -/
def n205 : NFunc := ⟨12, .seq (.region 0 [
    ⟨(some 3), .move (.const (.bool false)), none, 0, none⟩] []) (.seq (.region 0 [
    ⟨(some 4), .load false 1 (.tmp 0), none, 0, none⟩,
    ⟨(some 5), .load false 1 (.tmp 1), none, 0, none⟩,
    ⟨(some 6), .bin .leq (.tmp 4) (.tmp 5), none, 0, none⟩,
    ⟨(some 7), .move (.tmp 6), none, 0, none⟩,
    ⟨(some 8), .load false 1 (.tmp 1), (some (7, true)), 0, none⟩,
    ⟨(some 9), .load false 1 (.tmp 2), (some (7, true)), 0, none⟩,
    ⟨(some 10), .bin .leq (.tmp 8) (.tmp 9), (some (7, true)), 0, none⟩,
    ⟨(some 11), .pick (.tmp 7) (.tmp 10) (.const (.bool false)), none, 0, none⟩,
    ⟨(some 3), .move (.tmp 11), none, 0, none⟩] []) (.ret)), [.tmp 3], true⟩
def s205 : Sig := ⟨(.cons (.iptr (.cons (.v (.int .i64)) .nil) 0) (.cons (.iptr (.cons (.v (.int .i64)) .nil) 0) (.cons (.iptr (.cons (.v (.int .i64)) .nil) 0) .nil))), [], ((.v .bool), []), []⟩
def F205 (L : Lp)  (a0 : Int) (a1 : Int) (a2 : Int) : Option Bool :=
  cond (decide (a0 ≤ a1))
  (some (decide (a1 ≤ a2)))
  (some false)
theorem e205 (L : Lp)  (x : s205.args.den) (h : denH s205.heap) : nrun [] L n205 s205 x h = F205 L  x.1.1 x.2.1.1 x.2.2.1.1 := by kernel_rfl
def f205 : Int → Int → Int → Option Bool := F205 (@LN LOOPS) 
@[reducible] def t205 : Ent := ⟨205, s205, fun x h => f205 x.1.1 x.2.1.1 x.2.2.1.1⟩
theorem k205 : chkNF Try.prog Try.f205 n205 = true := by kernel_rfl
theorem ok205 : NOk Try.prog t205 := NOk.body (T := []) mixed nall_nil (oneEach_of (by kernel_rfl)) Try.func205 k205 (by kernel_rfl) (fun x h => e205 _  x h)
/- drayage/spec.queuesRight -/
def n181 : NFunc := ⟨69, .seq (.region 1 [
    ⟨(some 1), .box 18 (.tmp 0), none, 0, none⟩,
    ⟨(some 2), .move (.const (.bool false)), none, 1, none⟩] []) (.seq (.seq (.region 0 [
    ⟨(some 7), .fieldAddr 2 (.tmp 1), none, 0, none⟩,
    ⟨(some 8), .load false 1 (.tmp 7), none, 0, none⟩,
    ⟨(some 9), .len (.tmp 8), none, 0, none⟩,
    ⟨(some 10), .bin .lss (.tmp 9) (.const (.int .i64 (1))), none, 0, none⟩,
    ⟨(some 11), .move (.tmp 10), none, 0, none⟩,
    ⟨(some 12), .fieldAddr 2 (.tmp 1), (some (11, false)), 0, none⟩,
    ⟨(some 13), .load false 1 (.tmp 12), (some (11, false)), 0, none⟩,
    ⟨(some 14), .len (.tmp 13), (some (11, false)), 0, none⟩,
    ⟨(some 15), .bin .gtr (.tmp 14) (.const (.int .i64 (8))), (some (11, false)), 0, none⟩,
    ⟨(some 16), .pick (.tmp 11) (.const (.bool true)) (.tmp 15), none, 0, none⟩] []) (.cond (.tmp 16) (.seq (.region 0 [
    ⟨(some 2), .move (.const (.bool false)), none, 0, none⟩] []) (.ret)) (.skip))) (.seq (.seq (.region 0 [
    ⟨(some 17), .fieldAddr 2 (.tmp 1), none, 0, none⟩,
    ⟨(some 18), .load false 1 (.tmp 17), none, 0, none⟩,
    ⟨(some 19), .len (.tmp 18), none, 0, none⟩,
    ⟨(some 20), .move (.const (.int .i64 (0))), none, 0, none⟩] []) (.block 0 (.loop [1, 18, 19, 20] ⟨[(1, (.ptr 0 0 0)), (20, (.v (.int .i64)))], [18, 19], [.one false .spec]⟩ (.seq (.region 0 [
    ⟨(some 21), .bin .lss (.tmp 20) (.tmp 19), none, 0, none⟩] []) (.seq (.cond (.tmp 21) (.skip) (.exit 0)) (.seq (.block 1 (.seq (.region 1 [
    ⟨(some 22), .indexSl 6 (.tmp 18) (.tmp 20), none, 0, none⟩,
    ⟨(some 23), .load true 6 (.tmp 22), none, 0, none⟩,
    ⟨(some 4), .alloc [.int .i64 (0), .zsl, .int .i64 (0), .int .i64 (0), .int .i64 (0), .int .i64 (0)], none, 0, none⟩,
    ⟨none, .store 6 (.tmp 4) (.tmp 23), none, 1, none⟩] []) (.seq (.seq (.region 4 [
    ⟨(some 24), .fieldAddr 0 (.tmp 4), none, 0, none⟩,
    ⟨(some 25), .load false 1 (.tmp 24), none, 0, none⟩,
    ⟨(some 26), .bin .lss (.tmp 25) (.const (.int .i64 (0))), none, 0, none⟩,
    ⟨(some 27), .move (.tmp 26), none, 0, none⟩,
    ⟨(some 28), .fieldAddr 0 (.tmp 4), (some (27, false)), 0, none⟩,
    ⟨(some 29), .load false 1 (.tmp 28), (some (27, false)), 0, none⟩,
    ⟨(some 30), .fieldAddr 1 (.tmp 1), (some (27, false)), 0, none⟩,
    ⟨(some 31), .load false 1 (.tmp 30), (some (27, false)), 0, none⟩,
    ⟨(some 32), .len (.tmp 31), (some (27, false)), 0, none⟩,
    ⟨(some 33), .bin .geq (.tmp 29) (.tmp 32), (some (27, false)), 0, none⟩,
    ⟨(some 34), .pick (.tmp 27) (.const (.bool true)) (.tmp 33), none, 0, none⟩,
    ⟨(some 35), .move (.tmp 34), none, 0, none⟩,
    ⟨(some 36), .fieldAddr 1 (.tmp 4), (some (35, false)), 0, none⟩,
    ⟨(some 37), .load false 1 (.tmp 36), (some (35, false)), 0, none⟩,
    ⟨(some 38), .fieldAddr 3 (.tmp 1), (some (35, false)), 0, none⟩,
    ⟨(some 39), .load false 1 (.tmp 38), (some (35, false)), 0, none⟩,
    ⟨(some 40), .call (.func 204) [(false, (.tmp 37)), (false, (.tmp 39))] false 4, (some (35, false)), 0, none⟩,
    ⟨(some 41), .un .not (.tmp 40), (some (35, false)), 4, none⟩,
    ⟨(some 42), .pick (.tmp 35) (.const (.bool true)) (.tmp 41), none, 4, none⟩] []) (.cond (.tmp 42) (.seq (.region 0 [
    ⟨(some 2), .move (.const (.bool false)), none, 0, none⟩] []) (.ret)) (.skip))) (.seq (.seq (.region 0 [
    ⟨(some 43), .fieldAddr 2 (.tmp 4), none, 0, none⟩,
    ⟨(some 44), .load false 1 (.tmp 43), none, 0, none⟩,
    ⟨(some 45), .fieldAddr 3 (.tmp 4), none, 0, none⟩,
    ⟨(some 46), .load false 1 (.tmp 45), none, 0, none⟩,
    ⟨(some 47), .fieldAddr 4 (.tmp 4), none, 0, none⟩,
    ⟨(some 48), .load false 1 (.tmp 47), none, 0, none⟩,
    ⟨(some 49), .build [.int .i64 (0), .int .i64 (0), .int .i64 (0)] [(0, 1, (.tmp 44)), (1, 1, (.tmp 46)), (2, 1, (.tmp 48))], none, 0, none⟩,
    ⟨(some 50), .move (.const (.int .i64 (0))), none, 0, none⟩] []) (.block 2 (.loopU [1, 4, 18, 19, 20, 49, 50] 4 (.seq (.region 0 [
    ⟨(some 51), .bin .lss (.tmp 50) (.const (.int .i64 (3))), none, 0, none⟩] []) (.seq (.cond (.tmp 51) (.skip) (.exit 2)) (.seq (.block 3 (.seq (.region 0 [
    ⟨(some 52), .indexVal false 3 1 (.tmp 49) (.tmp 50), none, 0, none⟩,
    ⟨(some 6), .move (.tmp 52), none, 0, none⟩] []) (.seq (.region 0 [
    ⟨(some 53), .move (.tmp 6), none, 0, none⟩,
    ⟨(some 54), .bin .lss (.tmp 53) (.const (.int .i64 (1))), none, 0, none⟩,
    ⟨(some 55), .move (.tmp 54), none, 0, none⟩,
    ⟨(some 56), .move (.tmp 6), (some (55, false)), 0, none⟩,
    ⟨(some 57), .bin .gtr (.tmp 56) (.const (.int .i64 (256))), (some (55, false)), 0, none⟩,
    ⟨(some 58), .pick (.tmp 55) (.const (.bool true)) (.tmp 57), none, 0, none⟩] []) (.cond (.tmp 58) (.seq (.region 0 [
    ⟨(some 2), .move (.const (.bool false)), none, 0, none⟩] []) (.ret)) (.skip))))) (.region 0 [
    ⟨(some 59), .bin .add (.tmp 50) (.const (.int .i64 (1))), none, 0, none⟩,
    ⟨(some 50), .move (.tmp 59), none, 0, none⟩] []))))))) (.seq (.region 0 [
    ⟨(some 60), .fieldAddr 5 (.tmp 4), none, 0, none⟩,
    ⟨(some 61), .load false 1 (.tmp 60), none, 0, none⟩,
    ⟨(some 62), .bin .lss (.tmp 61) (.const (.int .i64 (0))), none, 0, none⟩,
    ⟨(some 63), .move (.tmp 62), none, 0, none⟩,
    ⟨(some 64), .fieldAddr 5 (.tmp 4), (some (63, false)), 0, none⟩,
    ⟨(some 65), .load false 1 (.tmp 64), (some (63, false)), 0, none⟩,
    ⟨(some 66), .bin .gtr (.tmp 65) (.const (.int .i64 (100))), (some (63, false)), 0, none⟩,
    ⟨(some 67), .pick (.tmp 63) (.const (.bool true)) (.tmp 66), none, 0, none⟩] []) (.cond (.tmp 67) (.seq (.region 0 [
    ⟨(some 2), .move (.const (.bool false)), none, 0, none⟩] []) (.ret)) (.skip))))))) (.region 0 [
    ⟨(some 68), .bin .add (.tmp 20) (.const (.int .i64 (1))), none, 0, none⟩,
    ⟨(some 20), .move (.tmp 68), none, 0, none⟩] []))))))) (.seq (.region 0 [
    ⟨(some 2), .move (.const (.bool true)), none, 0, none⟩] []) (.ret)))), [.tmp 2], true⟩
def s181 : Sig := ⟨(.cons (.v .spec) .nil), [], ((.v .bool), []), []⟩
def l181_0 (g204 : (List Int) → Int → Option Bool) (as0 : Spec) (nx2 : ((Unit × (Int × Unit)) × (Spec × Unit)) → Option Bool) (z3 : Int) (z4 : Spec) : Option Bool :=
  cond (decide (z3 < (List.length as0.queues : Int)))
  (cond (decide (0 ≤ z3))
  (Option.bind (as0.queues[Int.toNat z3]?) fun y5 =>
  cond (decide (y5.part < 0))
  (some false)
  (cond (decide ((List.length z4.parts : Int) ≤ y5.part))
  (some false)
  (Option.bind (g204 y5.users z4.users) fun r6 =>
  cond (!r6)
  (some false)
  (cond (decide (y5.maxJobs < 1))
  (some false)
  (cond (decide (256 < y5.maxJobs))
  (some false)
  (cond (decide (y5.maxRun < 1))
  (some false)
  (cond (decide (256 < y5.maxRun))
  (some false)
  (cond (decide (y5.maxUser < 1))
  (some false)
  (cond (decide (256 < y5.maxUser))
  (some false)
  (cond (decide (y5.qos < 0))
  (some false)
  (cond (decide (100 < y5.qos))
  (some false)
  (nx2 (((), IntKind.wrap .i64 (z3 + 1), ()), (z4, ()))))))))))))))
  (none))
  (some true)
def F181 (L : Lp) (g204 : (List Int) → Int → Option Bool) (as0 : Spec) : Option Bool :=
  cond (decide ((List.length as0.queues : Int) < 1))
  (some false)
  (cond (decide (8 < (List.length as0.queues : Int)))
  (some false)
  (L (fun (s1 : ((Unit × (Int × Unit)) × (Spec × Unit))) nx2 => l181_0 g204 as0 nx2 s1.1.2.1 s1.2.1) (((), 0, ()), (as0, ()))))
theorem e181 (L : Lp) (g204 : (List Int) → Int → Option Bool) (x : s181.args.den) (h : denH s181.heap) : nrun [⟨204, s204, fun x h => g204 x.1 x.2.1⟩] L n181 s181 x h = F181 L g204 x.1 := by kernel_rfl
def f181 : Spec → Option Bool := F181 (@LN LOOPS) f204
@[reducible] def t181 : Ent := ⟨181, s181, fun x h => f181 x.1⟩
theorem k181 : chkNF Try.prog Try.f181 n181 = true := by kernel_rfl
theorem ok181 : NOk Try.prog t181 := NOk.body (T := [t204]) mixed (nall_cons ok204 nall_nil) (oneEach_of (by kernel_rfl)) Try.func181 k181 (by kernel_rfl) (fun x h => e181 _ _ x h)
/- drayage/spec.rules$3 -/
def n180 : NFunc := ⟨4, .seq (.region 0 [
    ⟨(some 1), .move (.const (.bool false)), none, 0, none⟩] []) (.seq (.region 4 [
    ⟨(some 2), .load true 18 (.tmp 0), none, 0, none⟩,
    ⟨(some 3), .call (.func 181) [(false, (.tmp 2))] false 4, none, 0, none⟩,
    ⟨(some 1), .move (.tmp 3), none, 4, none⟩] []) (.ret)), [.tmp 1], true⟩
def s180 : Sig := ⟨(.cons (.iptr (.cons (.v (.list .res)) (.cons (.v (.list (.list (.int .i64)))) (.cons (.v (.list .queue)) (.cons (.v (.int .i64)) (.cons (.v (.int .i64)) (.cons (.v (.int .i64)) (.cons (.v (.int .i64)) (.cons (.v (.int .i64)) (.cons (.v (.int .i64)) (.cons (.v (.int .i64)) (.cons (.v (.int .i64)) (.cons (.v (.int .i64)) (.cons (.v (.int .i64)) (.cons (.v (.int .i64)) (.cons (.v (.int .i64)) (.cons (.v (.int .i64)) (.cons (.v (.int .i64)) (.cons (.v (.int .i64)) .nil)))))))))))))))))) 0) .nil), [], ((.v .bool), []), []⟩
def F180 (L : Lp) (g181 : Spec → Option Bool) (a0 : (List Res)) (a1 : (List (List Int))) (a2 : (List Queue)) (a3 : Int) (a4 : Int) (a5 : Int) (a6 : Int) (a7 : Int) (a8 : Int) (a9 : Int) (a10 : Int) (a11 : Int) (a12 : Int) (a13 : Int) (a14 : Int) (a15 : Int) (a16 : Int) (a17 : Int) : Option Bool :=
  Option.bind (g181 (Spec.mk a0 a1 a2 a3 (Weights.mk a4 a5 a6 a7) a8 a9 a10 a11 a12 a13 a14 a15 a16 a17)) fun r18 =>
  some r18
theorem e180 (L : Lp) (g181 : Spec → Option Bool) (x : s180.args.den) (h : denH s180.heap) : nrun [⟨181, s181, fun x h => g181 x.1⟩] L n180 s180 x h = F180 L g181 x.1.1 x.1.2.1 x.1.2.2.1 x.1.2.2.2.1 x.1.2.2.2.2.1 x.1.2.2.2.2.2.1 x.1.2.2.2.2.2.2.1 x.1.2.2.2.2.2.2.2.1 x.1.2.2.2.2.2.2.2.2.1 x.1.2.2.2.2.2.2.2.2.2.1 x.1.2.2.2.2.2.2.2.2.2.2.1 x.1.2.2.2.2.2.2.2.2.2.2.2.1 x.1.2.2.2.2.2.2.2.2.2.2.2.2.1 x.1.2.2.2.2.2.2.2.2.2.2.2.2.2.1 x.1.2.2.2.2.2.2.2.2.2.2.2.2.2.2.1 x.1.2.2.2.2.2.2.2.2.2.2.2.2.2.2.2.1 x.1.2.2.2.2.2.2.2.2.2.2.2.2.2.2.2.2.1 x.1.2.2.2.2.2.2.2.2.2.2.2.2.2.2.2.2.2.1 := by kernel_rfl
def f180 : (List Res) → (List (List Int)) → (List Queue) → Int → Int → Int → Int → Int → Int → Int → Int → Int → Int → Int → Int → Int → Int → Int → Option Bool := F180 (@LN LOOPS) f181
@[reducible] def t180 : Ent := ⟨180, s180, fun x h => f180 x.1.1 x.1.2.1 x.1.2.2.1 x.1.2.2.2.1 x.1.2.2.2.2.1 x.1.2.2.2.2.2.1 x.1.2.2.2.2.2.2.1 x.1.2.2.2.2.2.2.2.1 x.1.2.2.2.2.2.2.2.2.1 x.1.2.2.2.2.2.2.2.2.2.1 x.1.2.2.2.2.2.2.2.2.2.2.1 x.1.2.2.2.2.2.2.2.2.2.2.2.1 x.1.2.2.2.2.2.2.2.2.2.2.2.2.1 x.1.2.2.2.2.2.2.2.2.2.2.2.2.2.1 x.1.2.2.2.2.2.2.2.2.2.2.2.2.2.2.1 x.1.2.2.2.2.2.2.2.2.2.2.2.2.2.2.2.1 x.1.2.2.2.2.2.2.2.2.2.2.2.2.2.2.2.2.1 x.1.2.2.2.2.2.2.2.2.2.2.2.2.2.2.2.2.2.1⟩
theorem k180 : chkNF Try.prog Try.f180 n180 = true := by kernel_rfl
theorem ok180 : NOk Try.prog t180 := NOk.body (T := [t181]) mixed (nall_cons ok181 nall_nil) (oneEach_of (by kernel_rfl)) Try.func180 k180 (by kernel_rfl) (fun x h => e180 _ _ x h)
/- drayage/spec.weightsRight -/
def n183 : NFunc := ⟨24, .seq (.region 1 [
    ⟨(some 1), .box 4 (.tmp 0), none, 0, none⟩,
    ⟨(some 2), .move (.const (.bool false)), none, 1, none⟩] []) (.seq (.seq (.region 0 [
    ⟨(some 5), .fieldAddr 0 (.tmp 1), none, 0, none⟩,
    ⟨(some 6), .load false 1 (.tmp 5), none, 0, none⟩,
    ⟨(some 7), .fieldAddr 1 (.tmp 1), none, 0, none⟩,
    ⟨(some 8), .load false 1 (.tmp 7), none, 0, none⟩,
    ⟨(some 9), .fieldAddr 2 (.tmp 1), none, 0, none⟩,
    ⟨(some 10), .load false 1 (.tmp 9), none, 0, none⟩,
    ⟨(some 11), .fieldAddr 3 (.tmp 1), none, 0, none⟩,
    ⟨(some 12), .load false 1 (.tmp 11), none, 0, none⟩,
    ⟨(some 13), .build [.int .i64 (0), .int .i64 (0), .int .i64 (0), .int .i64 (0)] [(0, 1, (.tmp 6)), (1, 1, (.tmp 8)), (2, 1, (.tmp 10)), (3, 1, (.tmp 12))], none, 0, none⟩,
    ⟨(some 14), .move (.const (.int .i64 (0))), none, 0, none⟩] []) (.block 0 (.loopU [13, 14] 5 (.seq (.region 0 [
    ⟨(some 15), .bin .lss (.tmp 14) (.const (.int .i64 (4))), none, 0, none⟩] []) (.seq (.cond (.tmp 15) (.skip) (.exit 0)) (.seq (.block 1 (.seq (.region 0 [
    ⟨(some 16), .indexVal false 4 1 (.tmp 13) (.tmp 14), none, 0, none⟩,
    ⟨(some 4), .move (.tmp 16), none, 0, none⟩] []) (.seq (.region 0 [
    ⟨(some 17), .move (.tmp 4), none, 0, none⟩,
    ⟨(some 18), .bin .lss (.tmp 17) (.const (.int .i64 (0))), none, 0, none⟩,
    ⟨(some 19), .move (.tmp 18), none, 0, none⟩,
    ⟨(some 20), .move (.tmp 4), (some (19, false)), 0, none⟩,
    ⟨(some 21), .bin .gtr (.tmp 20) (.const (.int .i64 (1000))), (some (19, false)), 0, none⟩,
    ⟨(some 22), .pick (.tmp 19) (.const (.bool true)) (.tmp 21), none, 0, none⟩] []) (.cond (.tmp 22) (.seq (.region 0 [
    ⟨(some 2), .move (.const (.bool false)), none, 0, none⟩] []) (.ret)) (.skip))))) (.region 0 [
    ⟨(some 23), .bin .add (.tmp 14) (.const (.int .i64 (1))), none, 0, none⟩,
    ⟨(some 14), .move (.tmp 23), none, 0, none⟩] []))))))) (.seq (.region 0 [
    ⟨(some 2), .move (.const (.bool true)), none, 0, none⟩] []) (.ret))), [.tmp 2], true⟩
def s183 : Sig := ⟨(.cons (.v .weights) .nil), [], ((.v .bool), []), []⟩
def F183 (L : Lp)  (w0 : Weights) : Option Bool :=
  cond (decide (w0.age < 0))
  (some false)
  (cond (decide (1000 < w0.age))
  (some false)
  (cond (decide (w0.size < 0))
  (some false)
  (cond (decide (1000 < w0.size))
  (some false)
  (cond (decide (w0.qos < 0))
  (some false)
  (cond (decide (1000 < w0.qos))
  (some false)
  (cond (decide (w0.share < 0))
  (some false)
  (cond (decide (1000 < w0.share))
  (some false)
  (some true))))))))
theorem e183 (L : Lp)  (x : s183.args.den) (h : denH s183.heap) : nrun [] L n183 s183 x h = F183 L  x.1 := by kernel_rfl
def f183 : Weights → Option Bool := F183 (@LN LOOPS) 
@[reducible] def t183 : Ent := ⟨183, s183, fun x h => f183 x.1⟩
theorem k183 : chkNF Try.prog Try.f183 n183 = true := by kernel_rfl
theorem ok183 : NOk Try.prog t183 := NOk.body (T := []) mixed nall_nil (oneEach_of (by kernel_rfl)) Try.func183 k183 (by kernel_rfl) (fun x h => e183 _  x h)
/- drayage/spec.rules$4 -/
def n182 : NFunc := ⟨5, .seq (.region 0 [
    ⟨(some 1), .move (.const (.bool false)), none, 0, none⟩] []) (.seq (.region 4 [
    ⟨(some 2), .fieldAddr 4 (.tmp 0), none, 0, none⟩,
    ⟨(some 3), .load true 4 (.tmp 2), none, 0, none⟩,
    ⟨(some 4), .call (.func 183) [(false, (.tmp 3))] false 4, none, 0, none⟩,
    ⟨(some 1), .move (.tmp 4), none, 4, none⟩] []) (.ret)), [.tmp 1], true⟩
def s182 : Sig := ⟨(.cons (.iptr (.cons (.v (.list .res)) (.cons (.v (.list (.list (.int .i64)))) (.cons (.v (.list .queue)) (.cons (.v (.int .i64)) (.cons (.v (.int .i64)) (.cons (.v (.int .i64)) (.cons (.v (.int .i64)) (.cons (.v (.int .i64)) (.cons (.v (.int .i64)) (.cons (.v (.int .i64)) (.cons (.v (.int .i64)) (.cons (.v (.int .i64)) (.cons (.v (.int .i64)) (.cons (.v (.int .i64)) (.cons (.v (.int .i64)) (.cons (.v (.int .i64)) (.cons (.v (.int .i64)) (.cons (.v (.int .i64)) .nil)))))))))))))))))) 0) .nil), [], ((.v .bool), []), []⟩
def F182 (L : Lp) (g183 : Weights → Option Bool) (a0 : (List Res)) (a1 : (List (List Int))) (a2 : (List Queue)) (a3 : Int) (a4 : Int) (a5 : Int) (a6 : Int) (a7 : Int) (a8 : Int) (a9 : Int) (a10 : Int) (a11 : Int) (a12 : Int) (a13 : Int) (a14 : Int) (a15 : Int) (a16 : Int) (a17 : Int) : Option Bool :=
  Option.bind (g183 (Weights.mk a4 a5 a6 a7)) fun r18 =>
  some r18
theorem e182 (L : Lp) (g183 : Weights → Option Bool) (x : s182.args.den) (h : denH s182.heap) : nrun [⟨183, s183, fun x h => g183 x.1⟩] L n182 s182 x h = F182 L g183 x.1.1 x.1.2.1 x.1.2.2.1 x.1.2.2.2.1 x.1.2.2.2.2.1 x.1.2.2.2.2.2.1 x.1.2.2.2.2.2.2.1 x.1.2.2.2.2.2.2.2.1 x.1.2.2.2.2.2.2.2.2.1 x.1.2.2.2.2.2.2.2.2.2.1 x.1.2.2.2.2.2.2.2.2.2.2.1 x.1.2.2.2.2.2.2.2.2.2.2.2.1 x.1.2.2.2.2.2.2.2.2.2.2.2.2.1 x.1.2.2.2.2.2.2.2.2.2.2.2.2.2.1 x.1.2.2.2.2.2.2.2.2.2.2.2.2.2.2.1 x.1.2.2.2.2.2.2.2.2.2.2.2.2.2.2.2.1 x.1.2.2.2.2.2.2.2.2.2.2.2.2.2.2.2.2.1 x.1.2.2.2.2.2.2.2.2.2.2.2.2.2.2.2.2.2.1 := by kernel_rfl
def f182 : (List Res) → (List (List Int)) → (List Queue) → Int → Int → Int → Int → Int → Int → Int → Int → Int → Int → Int → Int → Int → Int → Int → Option Bool := F182 (@LN LOOPS) f183
@[reducible] def t182 : Ent := ⟨182, s182, fun x h => f182 x.1.1 x.1.2.1 x.1.2.2.1 x.1.2.2.2.1 x.1.2.2.2.2.1 x.1.2.2.2.2.2.1 x.1.2.2.2.2.2.2.1 x.1.2.2.2.2.2.2.2.1 x.1.2.2.2.2.2.2.2.2.1 x.1.2.2.2.2.2.2.2.2.2.1 x.1.2.2.2.2.2.2.2.2.2.2.1 x.1.2.2.2.2.2.2.2.2.2.2.2.1 x.1.2.2.2.2.2.2.2.2.2.2.2.2.1 x.1.2.2.2.2.2.2.2.2.2.2.2.2.2.1 x.1.2.2.2.2.2.2.2.2.2.2.2.2.2.2.1 x.1.2.2.2.2.2.2.2.2.2.2.2.2.2.2.2.1 x.1.2.2.2.2.2.2.2.2.2.2.2.2.2.2.2.2.1 x.1.2.2.2.2.2.2.2.2.2.2.2.2.2.2.2.2.2.1⟩
theorem k182 : chkNF Try.prog Try.f182 n182 = true := by kernel_rfl
theorem ok182 : NOk Try.prog t182 := NOk.body (T := [t183]) mixed (nall_cons ok183 nall_nil) (oneEach_of (by kernel_rfl)) Try.func182 k182 (by kernel_rfl) (fun x h => e182 _ _ x h)
/- drayage/spec.rules$5 -/
def n184 : NFunc := ⟨10, .seq (.region 0 [
    ⟨(some 1), .move (.const (.bool false)), none, 0, none⟩] []) (.seq (.region 0 [
    ⟨(some 2), .fieldAddr 9 (.tmp 0), none, 0, none⟩,
    ⟨(some 3), .load false 1 (.tmp 2), none, 0, none⟩,
    ⟨(some 4), .bin .eql (.tmp 3) (.const (.int .i64 (1))), none, 0, none⟩,
    ⟨(some 5), .move (.tmp 4), none, 0, none⟩,
    ⟨(some 6), .fieldAddr 9 (.tmp 0), (some (5, false)), 0, none⟩,
    ⟨(some 7), .load false 1 (.tmp 6), (some (5, false)), 0, none⟩,
    ⟨(some 8), .bin .eql (.tmp 7) (.const (.int .i64 (2))), (some (5, false)), 0, none⟩,
    ⟨(some 9), .pick (.tmp 5) (.const (.bool true)) (.tmp 8), none, 0, none⟩,
    ⟨(some 1), .move (.tmp 9), none, 0, none⟩] []) (.ret)), [.tmp 1], true⟩
def s184 : Sig := ⟨(.cons (.iptr (.cons (.v (.list .res)) (.cons (.v (.list (.list (.int .i64)))) (.cons (.v (.list .queue)) (.cons (.v (.int .i64)) (.cons (.v (.int .i64)) (.cons (.v (.int .i64)) (.cons (.v (.int .i64)) (.cons (.v (.int .i64)) (.cons (.v (.int .i64)) (.cons (.v (.int .i64)) (.cons (.v (.int .i64)) (.cons (.v (.int .i64)) (.cons (.v (.int .i64)) (.cons (.v (.int .i64)) (.cons (.v (.int .i64)) (.cons (.v (.int .i64)) (.cons (.v (.int .i64)) (.cons (.v (.int .i64)) .nil)))))))))))))))))) 0) .nil), [], ((.v .bool), []), []⟩
def F184 (L : Lp)  (a0 : (List Res)) (a1 : (List (List Int))) (a2 : (List Queue)) (a3 : Int) (a4 : Int) (a5 : Int) (a6 : Int) (a7 : Int) (a8 : Int) (a9 : Int) (a10 : Int) (a11 : Int) (a12 : Int) (a13 : Int) (a14 : Int) (a15 : Int) (a16 : Int) (a17 : Int) : Option Bool :=
  cond (decide (a9 = 1))
  (some true)
  (some (decide (a9 = 2)))
theorem e184 (L : Lp)  (x : s184.args.den) (h : denH s184.heap) : nrun [] L n184 s184 x h = F184 L  x.1.1 x.1.2.1 x.1.2.2.1 x.1.2.2.2.1 x.1.2.2.2.2.1 x.1.2.2.2.2.2.1 x.1.2.2.2.2.2.2.1 x.1.2.2.2.2.2.2.2.1 x.1.2.2.2.2.2.2.2.2.1 x.1.2.2.2.2.2.2.2.2.2.1 x.1.2.2.2.2.2.2.2.2.2.2.1 x.1.2.2.2.2.2.2.2.2.2.2.2.1 x.1.2.2.2.2.2.2.2.2.2.2.2.2.1 x.1.2.2.2.2.2.2.2.2.2.2.2.2.2.1 x.1.2.2.2.2.2.2.2.2.2.2.2.2.2.2.1 x.1.2.2.2.2.2.2.2.2.2.2.2.2.2.2.2.1 x.1.2.2.2.2.2.2.2.2.2.2.2.2.2.2.2.2.1 x.1.2.2.2.2.2.2.2.2.2.2.2.2.2.2.2.2.2.1 := by kernel_rfl
def f184 : (List Res) → (List (List Int)) → (List Queue) → Int → Int → Int → Int → Int → Int → Int → Int → Int → Int → Int → Int → Int → Int → Int → Option Bool := F184 (@LN LOOPS) 
@[reducible] def t184 : Ent := ⟨184, s184, fun x h => f184 x.1.1 x.1.2.1 x.1.2.2.1 x.1.2.2.2.1 x.1.2.2.2.2.1 x.1.2.2.2.2.2.1 x.1.2.2.2.2.2.2.1 x.1.2.2.2.2.2.2.2.1 x.1.2.2.2.2.2.2.2.2.1 x.1.2.2.2.2.2.2.2.2.2.1 x.1.2.2.2.2.2.2.2.2.2.2.1 x.1.2.2.2.2.2.2.2.2.2.2.2.1 x.1.2.2.2.2.2.2.2.2.2.2.2.2.1 x.1.2.2.2.2.2.2.2.2.2.2.2.2.2.1 x.1.2.2.2.2.2.2.2.2.2.2.2.2.2.2.1 x.1.2.2.2.2.2.2.2.2.2.2.2.2.2.2.2.1 x.1.2.2.2.2.2.2.2.2.2.2.2.2.2.2.2.2.1 x.1.2.2.2.2.2.2.2.2.2.2.2.2.2.2.2.2.2.1⟩
theorem k184 : chkNF Try.prog Try.f184 n184 = true := by kernel_rfl
theorem ok184 : NOk Try.prog t184 := NOk.body (T := []) mixed nall_nil (oneEach_of (by kernel_rfl)) Try.func184 k184 (by kernel_rfl) (fun x h => e184 _  x h)
/- drayage/spec.Flaw -/
def n122 : NFunc := ⟨19, .seq (.region 1 [
    ⟨(some 1), .box 18 (.tmp 0), none, 0, none⟩,
    ⟨(some 2), .move (.const (.str [])), none, 1, none⟩] []) (.seq (.seq (.region 4 [
    ⟨(some 5), .load true 18 (.tmp 1), none, 0, none⟩,
    ⟨(some 6), .call (.func 158) [(false, (.tmp 5))] false 4, none, 0, none⟩,
    ⟨(some 7), .len (.tmp 6), none, 4, none⟩,
    ⟨(some 8), .move (.const (.int .i64 (0))), none, 4, none⟩] []) (.block 0 (.loopU [6, 7, 8] 16 (.seq (.region 0 [
    ⟨(some 9), .bin .lss (.tmp 8) (.tmp 7), none, 0, none⟩] []) (.seq (.cond (.tmp 9) (.skip) (.exit 0)) (.seq (.block 1 (.seq (.region 1 [
    ⟨(some 10), .indexSl 2 (.tmp 6) (.tmp 8), none, 0, none⟩,
    ⟨(some 11), .load true 2 (.tmp 10), none, 0, none⟩,
    ⟨(some 4), .alloc [.str [], .nilfn], none, 0, none⟩,
    ⟨none, .store 2 (.tmp 4) (.tmp 11), none, 1, none⟩] []) (.seq (.region 4 [
    ⟨(some 12), .fieldAddr 1 (.tmp 4), none, 0, none⟩,
    ⟨(some 13), .load false 1 (.tmp 12), none, 0, none⟩,
    ⟨(some 14), .call (.tmp 13) [] false 4, none, 0, none⟩,
    ⟨(some 15), .un .not (.tmp 14), none, 4, none⟩] []) (.cond (.tmp 15) (.seq (.region 0 [
    ⟨(some 16), .fieldAddr 0 (.tmp 4), none, 0, none⟩,
    ⟨(some 17), .load false 1 (.tmp 16), none, 0, none⟩,
    ⟨(some 2), .move (.tmp 17), none, 0, none⟩] []) (.ret)) (.skip))))) (.region 0 [
    ⟨(some 18), .bin .add (.tmp 8) (.const (.int .i64 (1))), none, 0, none⟩,
    ⟨(some 8), .move (.tmp 18), none, 0, none⟩] []))))))) (.seq (.region 0 [
    ⟨(some 2), .move (.const (.str [])), none, 0, none⟩] []) (.ret))), [.tmp 2], true⟩
def s122 : Sig := ⟨(.cons (.v .spec) .nil), [], ((.v .str), []), []⟩
def F122 (L : Lp) (g158 : Spec → Option y158) (g175 : (List Res) → (List (List Int)) → (List Queue) → Int → Int → Int → Int → Int → Int → Int → Int → Int → Int → Int → Int → Int → Int → Int → Option Bool) (g177 : (List Res) → (List (List Int)) → (List Queue) → Int → Int → Int → Int → Int → Int → Int → Int → Int → Int → Int → Int → Int → Int → Int → Option Bool) (g205 : Int → Int → Int → Option Bool) (g180 : (List Res) → (List (List Int)) → (List Queue) → Int → Int → Int → Int → Int → Int → Int → Int → Int → Int → Int → Int → Int → Int → Int → Option Bool) (g182 : (List Res) → (List (List Int)) → (List Queue) → Int → Int → Int → Int → Int → Int → Int → Int → Int → Int → Int → Int → Int → Int → Int → Option Bool) (g184 : (List Res) → (List (List Int)) → (List Queue) → Int → Int → Int → Int → Int → Int → Int → Int → Int → Int → Int → Int → Int → Int → Int → Option Bool) (as0 : Spec) : Option (List UInt8) :=
  Option.bind (g158 as0) fun r1 =>
  Option.bind (g175 r1.1.2.1.1.1 r1.1.2.1.1.2.1 r1.1.2.1.1.2.2.1 r1.1.2.1.1.2.2.2.1 r1.1.2.1.1.2.2.2.2.1 r1.1.2.1.1.2.2.2.2.2.1 r1.1.2.1.1.2.2.2.2.2.2.1 r1.1.2.1.1.2.2.2.2.2.2.2.1 r1.1.2.1.1.2.2.2.2.2.2.2.2.1 r1.1.2.1.1.2.2.2.2.2.2.2.2.2.1 r1.1.2.1.1.2.2.2.2.2.2.2.2.2.2.1 r1.1.2.1.1.2.2.2.2.2.2.2.2.2.2.2.1 r1.1.2.1.1.2.2.2.2.2.2.2.2.2.2.2.2.1 r1.1.2.1.1.2.2.2.2.2.2.2.2.2.2.2.2.2.1 r1.1.2.1.1.2.2.2.2.2.2.2.2.2.2.2.2.2.2.1 r1.1.2.1.1.2.2.2.2.2.2.2.2.2.2.2.2.2.2.2.1 r1.1.2.1.1.2.2.2.2.2.2.2.2.2.2.2.2.2.2.2.2.1 r1.1.2.1.1.2.2.2.2.2.2.2.2.2.2.2.2.2.2.2.2.2.1) fun r2 =>
  cond (!r2)
  (some r1.1.1)
  (Option.bind (g177 r1.2.1.2.1.1.1 r1.2.1.2.1.1.2.1 r1.2.1.2.1.1.2.2.1 r1.2.1.2.1.1.2.2.2.1 r1.2.1.2.1.1.2.2.2.2.1 r1.2.1.2.1.1.2.2.2.2.2.1 r1.2.1.2.1.1.2.2.2.2.2.2.1 r1.2.1.2.1.1.2.2.2.2.2.2.2.1 r1.2.1.2.1.1.2.2.2.2.2.2.2.2.1 r1.2.1.2.1.1.2.2.2.2.2.2.2.2.2.1 r1.2.1.2.1.1.2.2.2.2.2.2.2.2.2.2.1 r1.2.1.2.1.1.2.2.2.2.2.2.2.2.2.2.2.1 r1.2.1.2.1.1.2.2.2.2.2.2.2.2.2.2.2.2.1 r1.2.1.2.1.1.2.2.2.2.2.2.2.2.2.2.2.2.2.1 r1.2.1.2.1.1.2.2.2.2.2.2.2.2.2.2.2.2.2.2.1 r1.2.1.2.1.1.2.2.2.2.2.2.2.2.2.2.2.2.2.2.2.1 r1.2.1.2.1.1.2.2.2.2.2.2.2.2.2.2.2.2.2.2.2.2.1 r1.2.1.2.1.1.2.2.2.2.2.2.2.2.2.2.2.2.2.2.2.2.2.1) fun r3 =>
  cond (!r3)
  (some r1.2.1.1)
  (Option.bind (g205 r1.2.2.1.2.1.1.1 r1.2.2.1.2.1.2.1.1 r1.2.2.1.2.1.2.2.1.1) fun r4 =>
  cond (!r4)
  (some r1.2.2.1.1)
  (Option.bind (g180 r1.2.2.2.1.2.1.1.1 r1.2.2.2.1.2.1.1.2.1 r1.2.2.2.1.2.1.1.2.2.1 r1.2.2.2.1.2.1.1.2.2.2.1 r1.2.2.2.1.2.1.1.2.2.2.2.1 r1.2.2.2.1.2.1.1.2.2.2.2.2.1 r1.2.2.2.1.2.1.1.2.2.2.2.2.2.1 r1.2.2.2.1.2.1.1.2.2.2.2.2.2.2.1 r1.2.2.2.1.2.1.1.2.2.2.2.2.2.2.2.1 r1.2.2.2.1.2.1.1.2.2.2.2.2.2.2.2.2.1 r1.2.2.2.1.2.1.1.2.2.2.2.2.2.2.2.2.2.1 r1.2.2.2.1.2.1.1.2.2.2.2.2.2.2.2.2.2.2.1 r1.2.2.2.1.2.1.1.2.2.2.2.2.2.2.2.2.2.2.2.1 r1.2.2.2.1.2.1.1.2.2.2.2.2.2.2.2.2.2.2.2.2.1 r1.2.2.2.1.2.1.1.2.2.2.2.2.2.2.2.2.2.2.2.2.2.1 r1.2.2.2.1.2.1.1.2.2.2.2.2.2.2.2.2.2.2.2.2.2.2.1 r1.2.2.2.1.2.1.1.2.2.2.2.2.2.2.2.2.2.2.2.2.2.2.2.1 r1.2.2.2.1.2.1.1.2.2.2.2.2.2.2.2.2.2.2.2.2.2.2.2.2.1) fun r5 =>
  cond (!r5)
  (some r1.2.2.2.1.1)
  (Option.bind (g182 r1.2.2.2.2.1.2.1.1.1 r1.2.2.2.2.1.2.1.1.2.1 r1.2.2.2.2.1.2.1.1.2.2.1 r1.2.2.2.2.1.2.1.1.2.2.2.1 r1.2.2.2.2.1.2.1.1.2.2.2.2.1 r1.2.2.2.2.1.2.1.1.2.2.2.2.2.1 r1.2.2.2.2.1.2.1.1.2.2.2.2.2.2.1 r1.2.2.2.2.1.2.1.1.2.2.2.2.2.2.2.1 r1.2.2.2.2.1.2.1.1.2.2.2.2.2.2.2.2.1 r1.2.2.2.2.1.2.1.1.2.2.2.2.2.2.2.2.2.1 r1.2.2.2.2.1.2.1.1.2.2.2.2.2.2.2.2.2.2.1 r1.2.2.2.2.1.2.1.1.2.2.2.2.2.2.2.2.2.2.2.1 r1.2.2.2.2.1.2.1.1.2.2.2.2.2.2.2.2.2.2.2.2.1 r1.2.2.2.2.1.2.1.1.2.2.2.2.2.2.2.2.2.2.2.2.2.1 r1.2.2.2.2.1.2.1.1.2.2.2.2.2.2.2.2.2.2.2.2.2.2.1 r1.2.2.2.2.1.2.1.1.2.2.2.2.2.2.2.2.2.2.2.2.2.2.2.1 r1.2.2.2.2.1.2.1.1.2.2.2.2.2.2.2.2.2.2.2.2.2.2.2.2.1 r1.2.2.2.2.1.2.1.1.2.2.2.2.2.2.2.2.2.2.2.2.2.2.2.2.2.1) fun r6 =>
  cond (!r6)
  (some r1.2.2.2.2.1.1)
  (Option.bind (g205 r1.2.2.2.2.2.1.2.1.1.1 r1.2.2.2.2.2.1.2.1.2.1.1 r1.2.2.2.2.2.1.2.1.2.2.1.1) fun r7 =>
  cond (!r7)
  (some r1.2.2.2.2.2.1.1)
  (Option.bind (g184 r1.2.2.2.2.2.2.1.2.1.1.1 r1.2.2.2.2.2.2.1.2.1.1.2.1 r1.2.2.2.2.2.2.1.2.1.1.2.2.1 r1.2.2.2.2.2.2.1.2.1.1.2.2.2.1 r1.2.2.2.2.2.2.1.2.1.1.2.2.2.2.1 r1.2.2.2.2.2.2.1.2.1.1.2.2.2.2.2.1 r1.2.2.2.2.2.2.1.2.1.1.2.2.2.2.2.2.1 r1.2.2.2.2.2.2.1.2.1.1.2.2.2.2.2.2.2.1 r1.2.2.2.2.2.2.1.2.1.1.2.2.2.2.2.2.2.2.1 r1.2.2.2.2.2.2.1.2.1.1.2.2.2.2.2.2.2.2.2.1 r1.2.2.2.2.2.2.1.2.1.1.2.2.2.2.2.2.2.2.2.2.1 r1.2.2.2.2.2.2.1.2.1.1.2.2.2.2.2.2.2.2.2.2.2.1 r1.2.2.2.2.2.2.1.2.1.1.2.2.2.2.2.2.2.2.2.2.2.2.1 r1.2.2.2.2.2.2.1.2.1.1.2.2.2.2.2.2.2.2.2.2.2.2.2.1 r1.2.2.2.2.2.2.1.2.1.1.2.2.2.2.2.2.2.2.2.2.2.2.2.2.1 r1.2.2.2.2.2.2.1.2.1.1.2.2.2.2.2.2.2.2.2.2.2.2.2.2.2.1 r1.2.2.2.2.2.2.1.2.1.1.2.2.2.2.2.2.2.2.2.2.2.2.2.2.2.2.1 r1.2.2.2.2.2.2.1.2.1.1.2.2.2.2.2.2.2.2.2.2.2.2.2.2.2.2.2.1) fun r8 =>
  cond (!r8)
  (some r1.2.2.2.2.2.2.1.1)
  (Option.bind (g205 r1.2.2.2.2.2.2.2.1.2.1.1.1 r1.2.2.2.2.2.2.2.1.2.1.2.1.1 r1.2.2.2.2.2.2.2.1.2.1.2.2.1.1) fun r9 =>
  cond (!r9)
  (some r1.2.2.2.2.2.2.2.1.1)
  (Option.bind (g205 r1.2.2.2.2.2.2.2.2.1.2.1.1.1 r1.2.2.2.2.2.2.2.2.1.2.1.2.1.1 r1.2.2.2.2.2.2.2.2.1.2.1.2.2.1.1) fun r10 =>
  cond (!r10)
  (some r1.2.2.2.2.2.2.2.2.1.1)
  (Option.bind (g205 r1.2.2.2.2.2.2.2.2.2.1.2.1.1.1 r1.2.2.2.2.2.2.2.2.2.1.2.1.2.1.1 r1.2.2.2.2.2.2.2.2.2.1.2.1.2.2.1.1) fun r11 =>
  cond (!r11)
  (some r1.2.2.2.2.2.2.2.2.2.1.1)
  (Option.bind (g205 r1.2.2.2.2.2.2.2.2.2.2.1.2.1.1.1 r1.2.2.2.2.2.2.2.2.2.2.1.2.1.2.1.1 r1.2.2.2.2.2.2.2.2.2.2.1.2.1.2.2.1.1) fun r12 =>
  cond (!r12)
  (some r1.2.2.2.2.2.2.2.2.2.2.1.1)
  (Option.bind (g205 r1.2.2.2.2.2.2.2.2.2.2.2.1.2.1.1.1 r1.2.2.2.2.2.2.2.2.2.2.2.1.2.1.2.1.1 r1.2.2.2.2.2.2.2.2.2.2.2.1.2.1.2.2.1.1) fun r13 =>
  cond (!r13)
  (some r1.2.2.2.2.2.2.2.2.2.2.2.1.1)
  (Option.bind (g205 r1.2.2.2.2.2.2.2.2.2.2.2.2.1.2.1.1.1 r1.2.2.2.2.2.2.2.2.2.2.2.2.1.2.1.2.1.1 r1.2.2.2.2.2.2.2.2.2.2.2.2.1.2.1.2.2.1.1) fun r14 =>
  cond (!r14)
  (some r1.2.2.2.2.2.2.2.2.2.2.2.2.1.1)
  (Option.bind (g205 r1.2.2.2.2.2.2.2.2.2.2.2.2.2.1.2.1.1.1 r1.2.2.2.2.2.2.2.2.2.2.2.2.2.1.2.1.2.1.1 r1.2.2.2.2.2.2.2.2.2.2.2.2.2.1.2.1.2.2.1.1) fun r15 =>
  cond (!r15)
  (some r1.2.2.2.2.2.2.2.2.2.2.2.2.2.1.1)
  (Option.bind (g205 r1.2.2.2.2.2.2.2.2.2.2.2.2.2.2.1.2.1.1.1 r1.2.2.2.2.2.2.2.2.2.2.2.2.2.2.1.2.1.2.1.1 r1.2.2.2.2.2.2.2.2.2.2.2.2.2.2.1.2.1.2.2.1.1) fun r16 =>
  cond (!r16)
  (some r1.2.2.2.2.2.2.2.2.2.2.2.2.2.2.1.1)
  (some ([] : List UInt8))))))))))))))))
theorem e122 (L : Lp) (g158 : Spec → Option y158) (g175 : (List Res) → (List (List Int)) → (List Queue) → Int → Int → Int → Int → Int → Int → Int → Int → Int → Int → Int → Int → Int → Int → Int → Option Bool) (g177 : (List Res) → (List (List Int)) → (List Queue) → Int → Int → Int → Int → Int → Int → Int → Int → Int → Int → Int → Int → Int → Int → Int → Option Bool) (g205 : Int → Int → Int → Option Bool) (g180 : (List Res) → (List (List Int)) → (List Queue) → Int → Int → Int → Int → Int → Int → Int → Int → Int → Int → Int → Int → Int → Int → Int → Option Bool) (g182 : (List Res) → (List (List Int)) → (List Queue) → Int → Int → Int → Int → Int → Int → Int → Int → Int → Int → Int → Int → Int → Int → Int → Option Bool) (g184 : (List Res) → (List (List Int)) → (List Queue) → Int → Int → Int → Int → Int → Int → Int → Int → Int → Int → Int → Int → Int → Int → Int → Option Bool) (x : s122.args.den) (h : denH s122.heap) : nrun [⟨158, s158, fun x h => g158 x.1⟩, ⟨175, s175, fun x h => g175 x.1.1 x.1.2.1 x.1.2.2.1 x.1.2.2.2.1 x.1.2.2.2.2.1 x.1.2.2.2.2.2.1 x.1.2.2.2.2.2.2.1 x.1.2.2.2.2.2.2.2.1 x.1.2.2.2.2.2.2.2.2.1 x.1.2.2.2.2.2.2.2.2.2.1 x.1.2.2.2.2.2.2.2.2.2.2.1 x.1.2.2.2.2.2.2.2.2.2.2.2.1 x.1.2.2.2.2.2.2.2.2.2.2.2.2.1 x.1.2.2.2.2.2.2.2.2.2.2.2.2.2.1 x.1.2.2.2.2.2.2.2.2.2.2.2.2.2.2.1 x.1.2.2.2.2.2.2.2.2.2.2.2.2.2.2.2.1 x.1.2.2.2.2.2.2.2.2.2.2.2.2.2.2.2.2.1 x.1.2.2.2.2.2.2.2.2.2.2.2.2.2.2.2.2.2.1⟩, ⟨177, s177, fun x h => g177 x.1.1 x.1.2.1 x.1.2.2.1 x.1.2.2.2.1 x.1.2.2.2.2.1 x.1.2.2.2.2.2.1 x.1.2.2.2.2.2.2.1 x.1.2.2.2.2.2.2.2.1 x.1.2.2.2.2.2.2.2.2.1 x.1.2.2.2.2.2.2.2.2.2.1 x.1.2.2.2.2.2.2.2.2.2.2.1 x.1.2.2.2.2.2.2.2.2.2.2.2.1 x.1.2.2.2.2.2.2.2.2.2.2.2.2.1 x.1.2.2.2.2.2.2.2.2.2.2.2.2.2.1 x.1.2.2.2.2.2.2.2.2.2.2.2.2.2.2.1 x.1.2.2.2.2.2.2.2.2.2.2.2.2.2.2.2.1 x.1.2.2.2.2.2.2.2.2.2.2.2.2.2.2.2.2.1 x.1.2.2.2.2.2.2.2.2.2.2.2.2.2.2.2.2.2.1⟩, ⟨205, s205, fun x h => g205 x.1.1 x.2.1.1 x.2.2.1.1⟩, ⟨180, s180, fun x h => g180 x.1.1 x.1.2.1 x.1.2.2.1 x.1.2.2.2.1 x.1.2.2.2.2.1 x.1.2.2.2.2.2.1 x.1.2.2.2.2.2.2.1 x.1.2.2.2.2.2.2.2.1 x.1.2.2.2.2.2.2.2.2.1 x.1.2.2.2.2.2.2.2.2.2.1 x.1.2.2.2.2.2.2.2.2.2.2.1 x.1.2.2.2.2.2.2.2.2.2.2.2.1 x.1.2.2.2.2.2.2.2.2.2.2.2.2.1 x.1.2.2.2.2.2.2.2.2.2.2.2.2.2.1 x.1.2.2.2.2.2.2.2.2.2.2.2.2.2.2.1 x.1.2.2.2.2.2.2.2.2.2.2.2.2.2.2.2.1 x.1.2.2.2.2.2.2.2.2.2.2.2.2.2.2.2.2.1 x.1.2.2.2.2.2.2.2.2.2.2.2.2.2.2.2.2.2.1⟩, ⟨182, s182, fun x h => g182 x.1.1 x.1.2.1 x.1.2.2.1 x.1.2.2.2.1 x.1.2.2.2.2.1 x.1.2.2.2.2.2.1 x.1.2.2.2.2.2.2.1 x.1.2.2.2.2.2.2.2.1 x.1.2.2.2.2.2.2.2.2.1 x.1.2.2.2.2.2.2.2.2.2.1 x.1.2.2.2.2.2.2.2.2.2.2.1 x.1.2.2.2.2.2.2.2.2.2.2.2.1 x.1.2.2.2.2.2.2.2.2.2.2.2.2.1 x.1.2.2.2.2.2.2.2.2.2.2.2.2.2.1 x.1.2.2.2.2.2.2.2.2.2.2.2.2.2.2.1 x.1.2.2.2.2.2.2.2.2.2.2.2.2.2.2.2.1 x.1.2.2.2.2.2.2.2.2.2.2.2.2.2.2.2.2.1 x.1.2.2.2.2.2.2.2.2.2.2.2.2.2.2.2.2.2.1⟩, ⟨184, s184, fun x h => g184 x.1.1 x.1.2.1 x.1.2.2.1 x.1.2.2.2.1 x.1.2.2.2.2.1 x.1.2.2.2.2.2.1 x.1.2.2.2.2.2.2.1 x.1.2.2.2.2.2.2.2.1 x.1.2.2.2.2.2.2.2.2.1 x.1.2.2.2.2.2.2.2.2.2.1 x.1.2.2.2.2.2.2.2.2.2.2.1 x.1.2.2.2.2.2.2.2.2.2.2.2.1 x.1.2.2.2.2.2.2.2.2.2.2.2.2.1 x.1.2.2.2.2.2.2.2.2.2.2.2.2.2.1 x.1.2.2.2.2.2.2.2.2.2.2.2.2.2.2.1 x.1.2.2.2.2.2.2.2.2.2.2.2.2.2.2.2.1 x.1.2.2.2.2.2.2.2.2.2.2.2.2.2.2.2.2.1 x.1.2.2.2.2.2.2.2.2.2.2.2.2.2.2.2.2.2.1⟩] L n122 s122 x h = F122 L g158 g175 g177 g205 g180 g182 g184 x.1 := by kernel_rfl
def f122 : Spec → Option (List UInt8) := F122 (@LN LOOPS) f158 f175 f177 f205 f180 f182 f184
@[reducible] def t122 : Ent := ⟨122, s122, fun x h => f122 x.1⟩
theorem k122 : chkNF Try.prog Try.f122 n122 = true := by kernel_rfl
theorem ok122 : NOk Try.prog t122 := NOk.body (T := [t158, t175, t177, t205, t180, t182, t184]) mixed (nall_cons ok158 (nall_cons ok175 (nall_cons ok177 (nall_cons ok205 (nall_cons ok180 (nall_cons ok182 (nall_cons ok184 nall_nil))))))) (oneEach_of (by kernel_rfl)) Try.func122 k122 (by kernel_rfl) (fun x h => e122 _ _ _ _ _ _ _ _ x h)
/- drayage/spec.Right -/
def n64 : NFunc := ⟨6, .seq (.region 1 [
    ⟨(some 1), .box 18 (.tmp 0), none, 0, none⟩,
    ⟨(some 2), .move (.const (.bool false)), none, 1, none⟩] []) (.seq (.region 4 [
    ⟨(some 3), .load true 18 (.tmp 1), none, 0, none⟩,
    ⟨(some 4), .call (.func 122) [(false, (.tmp 3))] false 4, none, 0, none⟩,
    ⟨(some 5), .bin .eql (.tmp 4) (.const (.str [])), none, 4, none⟩,
    ⟨(some 2), .move (.tmp 5), none, 4, none⟩] []) (.ret)), [.tmp 2], true⟩
def s64 : Sig := ⟨(.cons (.v .spec) .nil), [], ((.v .bool), []), []⟩
def F64 (L : Lp) (g122 : Spec → Option (List UInt8)) (as0 : Spec) : Option Bool :=
  Option.bind (g122 as0) fun r1 =>
  some (decide (r1 = ([] : List UInt8)))
theorem e64 (L : Lp) (g122 : Spec → Option (List UInt8)) (x : s64.args.den) (h : denH s64.heap) : nrun [⟨122, s122, fun x h => g122 x.1⟩] L n64 s64 x h = F64 L g122 x.1 := by kernel_rfl
def f64 : Spec → Option Bool := F64 (@LN LOOPS) f122
@[reducible] def t64 : Ent := ⟨64, s64, fun x h => f64 x.1⟩
theorem k64 : chkNF Try.prog Try.f64 n64 = true := by kernel_rfl
theorem ok64 : NOk Try.prog t64 := NOk.body (T := [t122]) mixed (nall_cons ok122 nall_nil) (oneEach_of (by kernel_rfl)) Try.func64 k64 (by kernel_rfl) (fun x h => e64 _ _ x h)
/- drayage/nat.Hold[int] -/
def n187 : NFunc := ⟨16, .seq (.region 0 [
    ⟨(some 6), .move (.const (.int .i64 (0))), none, 0, none⟩] []) (.seq (.seq (.region 0 [
    ⟨(some 7), .move (.tmp 0), none, 0, none⟩,
    ⟨(some 8), .move (.tmp 1), none, 0, none⟩,
    ⟨(some 9), .bin .lss (.tmp 7) (.tmp 8), none, 0, none⟩] []) (.cond (.tmp 9) (.seq (.region 0 [
    ⟨(some 10), .move (.tmp 1), none, 0, none⟩,
    ⟨(some 6), .move (.tmp 10), none, 0, none⟩] []) (.ret)) (.skip))) (.seq (.seq (.region 0 [
    ⟨(some 11), .move (.tmp 0), none, 0, none⟩,
    ⟨(some 12), .move (.tmp 2), none, 0, none⟩,
    ⟨(some 13), .bin .gtr (.tmp 11) (.tmp 12), none, 0, none⟩] []) (.cond (.tmp 13) (.seq (.region 0 [
    ⟨(some 14), .move (.tmp 2), none, 0, none⟩,
    ⟨(some 6), .move (.tmp 14), none, 0, none⟩] []) (.ret)) (.skip))) (.seq (.region 0 [
    ⟨(some 15), .move (.tmp 0), none, 0, none⟩,
    ⟨(some 6), .move (.tmp 15), none, 0, none⟩] []) (.ret)))), [.tmp 6], true⟩
def s187 : Sig := ⟨(.cons (.v (.int .i64)) (.cons (.v (.int .i64)) (.cons (.v (.int .i64)) .nil))), [], ((.v (.int .i64)), []), []⟩
def F187 (L : Lp)  (an0 : Int) (lo1 : Int) (hi2 : Int) : Option Int :=
  cond (decide (an0 < lo1))
  (some lo1)
  (cond (decide (hi2 < an0))
  (some hi2)
  (some an0))
theorem e187 (L : Lp)  (x : s187.args.den) (h : denH s187.heap) : nrun [] L n187 s187 x h = F187 L  x.1 x.2.1 x.2.2.1 := by kernel_rfl
def f187 : Int → Int → Int → Option Int := F187 (@LN LOOPS) 
@[reducible] def t187 : Ent := ⟨187, s187, fun x h => f187 x.1 x.2.1 x.2.2.1⟩
theorem k187 : chkNF Try.prog Try.f187 n187 = true := by kernel_rfl
theorem ok187 : NOk Try.prog t187 := NOk.body (T := []) mixed nall_nil (oneEach_of (by kernel_rfl)) Try.func187 k187 (by kernel_rfl) (fun x h => e187 _  x h)
/- drayage/share.Factor -/
def n185 : NFunc := ⟨7, .seq (.region 0 [
    ⟨(some 2), .move (.const (.int .i64 (0))), none, 0, none⟩] []) (.seq (.region 4 [
    ⟨(some 3), .move (.tmp 0), none, 0, none⟩,
    ⟨(some 4), .call (.func 187) [(false, (.tmp 3)), (false, (.const (.int .i64 (0)))), (false, (.const (.int .i64 (1099511627776))))] false 4, none, 0, none⟩,
    ⟨(some 5), .bin .quo (.tmp 4) (.const (.int .i64 (16))), none, 4, none⟩,
    ⟨(some 6), .minmax false (.tmp 5) (.const (.int .i64 (4096))), none, 4, none⟩,
    ⟨(some 2), .move (.tmp 6), none, 4, none⟩] []) (.ret)), [.tmp 2], true⟩
def s185 : Sig := ⟨(.cons (.v (.int .i64)) .nil), [], ((.v (.int .i64)), []), []⟩
def F185 (L : Lp) (g187 : Int → Int → Int → Option Int) (an0 : Int) : Option Int :=
  Option.bind (g187 an0 0 1099511627776) fun r1 =>
  let v2 := if 4096 < (IntKind.wrap .i64 (Int.tdiv r1 16)) then 4096 else (IntKind.wrap .i64 (Int.tdiv r1 16))
  some v2
theorem e185 (L : Lp) (g187 : Int → Int → Int → Option Int) (x : s185.args.den) (h : denH s185.heap) : nrun [⟨187, s187, fun x h => g187 x.1 x.2.1 x.2.2.1⟩] L n185 s185 x h = F185 L g187 x.1 := by kernel_rfl
def f185 : Int → Option Int := F185 (@LN LOOPS) f187
@[reducible] def t185 : Ent := ⟨185, s185, fun x h => f185 x.1⟩
theorem k185 : chkNF Try.prog Try.f185 n185 = true := by kernel_rfl
theorem ok185 : NOk Try.prog t185 := NOk.body (T := [t187]) mixed (nall_cons ok187 nall_nil) (oneEach_of (by kernel_rfl)) Try.func185 k185 (by kernel_rfl) (fun x h => e185 _ _ x h)
/- drayage/prio.age -/
def n186 : NFunc := ⟨15, .seq (.region 0 [
    ⟨(some 4), .move (.const (.int .i64 (0))), none, 0, none⟩] []) (.seq (.seq (.region 0 [
    ⟨(some 5), .move (.tmp 0), none, 0, none⟩,
    ⟨(some 6), .move (.tmp 1), none, 0, none⟩,
    ⟨(some 7), .bin .leq (.tmp 5) (.tmp 6), none, 0, none⟩] []) (.cond (.tmp 7) (.seq (.region 0 [
    ⟨(some 4), .move (.const (.int .i64 (0))), none, 0, none⟩] []) (.ret)) (.skip))) (.seq (.region 0 [
    ⟨(some 8), .move (.tmp 0), none, 0, none⟩,
    ⟨(some 9), .conv .u64 (.tmp 8), none, 0, none⟩,
    ⟨(some 10), .move (.tmp 1), none, 0, none⟩,
    ⟨(some 11), .conv .u64 (.tmp 10), none, 0, none⟩,
    ⟨(some 12), .bin .sub (.tmp 9) (.tmp 11), none, 0, none⟩,
    ⟨(some 13), .minmax false (.tmp 12) (.const (.int .u64 (4096))), none, 0, none⟩,
    ⟨(some 14), .conv .i64 (.tmp 13), none, 0, none⟩,
    ⟨(some 4), .move (.tmp 14), none, 0, none⟩] []) (.ret))), [.tmp 4], true⟩
def s186 : Sig := ⟨(.cons (.v (.int .i64)) (.cons (.v (.int .i64)) .nil)), [], ((.v (.int .i64)), []), []⟩
def F186 (L : Lp)  (now0 : Int) (born1 : Int) : Option Int :=
  cond (decide (now0 ≤ born1))
  (some 0)
  (let v2 := if 4096 < (IntKind.wrap .u64 ((IntKind.wrap .u64 (now0)) - (IntKind.wrap .u64 (born1)))) then 4096 else (IntKind.wrap .u64 ((IntKind.wrap .u64 (now0)) - (IntKind.wrap .u64 (born1))))
  some (IntKind.wrap .i64 (v2)))
theorem e186 (L : Lp)  (x : s186.args.den) (h : denH s186.heap) : nrun [] L n186 s186 x h = F186 L  x.1 x.2.1 := by kernel_rfl
def f186 : Int → Int → Option Int := F186 (@LN LOOPS) 
@[reducible] def t186 : Ent := ⟨186, s186, fun x h => f186 x.1 x.2.1⟩
theorem k186 : chkNF Try.prog Try.f186 n186 = true := by kernel_rfl
theorem ok186 : NOk Try.prog t186 := NOk.body (T := []) mixed nall_nil (oneEach_of (by kernel_rfl)) Try.func186 k186 (by kernel_rfl) (fun x h => e186 _  x h)
/- drayage/prio.Parts -/
def n159 : NFunc := ⟨75, .seq (.region 3 [
    ⟨(some 4), .box 18 (.tmp 0), none, 0, none⟩,
    ⟨(some 5), .box 18 (.tmp 1), none, 1, none⟩,
    ⟨(some 8), .alloc [.int .i64 (0), .int .i64 (0), .int .i64 (0), .int .i64 (0)], none, 2, none⟩] []) (.seq (.seq (.region 4 [
    ⟨(some 11), .load true 18 (.tmp 4), none, 0, none⟩,
    ⟨(some 12), .call (.func 64) [(false, (.tmp 11))] false 4, none, 0, none⟩,
    ⟨(some 13), .un .not (.tmp 12), none, 4, none⟩] []) (.cond (.tmp 13) (.seq (.region 0 [
    ⟨(some 14), .build [.int .i64 (0), .int .i64 (0), .int .i64 (0), .int .i64 (0)] [], none, 0, none⟩,
    ⟨none, .store 4 (.tmp 8) (.tmp 14), none, 0, none⟩] []) (.ret)) (.skip))) (.seq (.region 0 [
    ⟨(some 9), .move (.const (.int .i64 (0))), none, 0, none⟩,
    ⟨(some 10), .move (.const (.int .i64 (0))), none, 0, none⟩] []) (.seq (.meet [8, 4, 9, 5, 2, 3, 10] [] ⟨[(4, (.ptr 0 0 0)), (5, (.ptr 1 0 0)), (8, (.ptr 2 0 0)), (9, (.v (.int .i64)))], [2, 3, 10], [.one false .spec, .one false .job, .one false (.pair (.int .i64) (.pair (.int .i64) (.pair (.int .i64) (.int .i64))))]⟩ (.seq (.region 0 [
    ⟨(some 15), .fieldAddr 2 (.tmp 5), none, 0, none⟩,
    ⟨(some 16), .load false 1 (.tmp 15), none, 0, none⟩,
    ⟨(some 17), .bin .geq (.tmp 16) (.const (.int .i64 (0))), none, 0, none⟩,
    ⟨(some 18), .move (.tmp 17), none, 0, none⟩,
    ⟨(some 19), .fieldAddr 2 (.tmp 5), (some (18, true)), 0, none⟩,
    ⟨(some 20), .load false 1 (.tmp 19), (some (18, true)), 0, none⟩,
    ⟨(some 21), .fieldAddr 2 (.tmp 4), (some (18, true)), 0, none⟩,
    ⟨(some 22), .load false 1 (.tmp 21), (some (18, true)), 0, none⟩,
    ⟨(some 23), .len (.tmp 22), (some (18, true)), 0, none⟩,
    ⟨(some 24), .bin .lss (.tmp 20) (.tmp 23), (some (18, true)), 0, none⟩,
    ⟨(some 25), .pick (.tmp 18) (.tmp 24) (.const (.bool false)), none, 0, none⟩] []) (.cond (.tmp 25) (.region 0 [
    ⟨(some 26), .fieldAddr 2 (.tmp 4), none, 0, none⟩,
    ⟨(some 27), .load false 1 (.tmp 26), none, 0, none⟩,
    ⟨(some 28), .fieldAddr 2 (.tmp 5), none, 0, none⟩,
    ⟨(some 29), .load false 1 (.tmp 28), none, 0, none⟩,
    ⟨(some 30), .indexSl 6 (.tmp 27) (.tmp 29), none, 0, none⟩,
    ⟨(some 31), .fieldAddr 5 (.tmp 30), none, 0, none⟩,
    ⟨(some 32), .load false 1 (.tmp 31), none, 0, none⟩,
    ⟨(some 9), .move (.tmp 32), none, 0, none⟩] []) (.skip)))) (.seq (.meet [8, 10, 4, 9, 5, 2] [] ⟨[(4, (.ptr 0 0 0)), (5, (.ptr 1 0 0)), (8, (.ptr 2 0 0)), (10, (.v (.int .i64)))], [2, 9], [.one false .spec, .one false .job, .one false (.pair (.int .i64) (.pair (.int .i64) (.pair (.int .i64) (.int .i64))))]⟩ (.seq (.region 0 [
    ⟨(some 33), .fieldAddr 1 (.tmp 5), none, 0, none⟩,
    ⟨(some 34), .load false 1 (.tmp 33), none, 0, none⟩,
    ⟨(some 35), .bin .geq (.tmp 34) (.const (.int .i64 (0))), none, 0, none⟩,
    ⟨(some 36), .move (.tmp 35), none, 0, none⟩,
    ⟨(some 37), .fieldAddr 1 (.tmp 5), (some (36, true)), 0, none⟩,
    ⟨(some 38), .load false 1 (.tmp 37), (some (36, true)), 0, none⟩,
    ⟨(some 39), .move (.tmp 3), (some (36, true)), 0, none⟩,
    ⟨(some 40), .len (.tmp 39), (some (36, true)), 0, none⟩,
    ⟨(some 41), .bin .lss (.tmp 38) (.tmp 40), (some (36, true)), 0, none⟩,
    ⟨(some 42), .pick (.tmp 36) (.tmp 41) (.const (.bool false)), none, 0, none⟩] []) (.cond (.tmp 42) (.region 4 [
    ⟨(some 43), .move (.tmp 3), none, 0, none⟩,
    ⟨(some 44), .fieldAddr 1 (.tmp 5), none, 0, none⟩,
    ⟨(some 45), .load false 1 (.tmp 44), none, 0, none⟩,
    ⟨(some 46), .indexSl 1 (.tmp 43) (.tmp 45), none, 0, none⟩,
    ⟨(some 47), .load false 1 (.tmp 46), none, 0, none⟩,
    ⟨(some 48), .call (.func 185) [(false, (.tmp 47))] false 4, none, 0, none⟩,
    ⟨(some 10), .move (.tmp 48), none, 4, none⟩] []) (.skip)))) (.seq (.region 8 [
    ⟨(some 49), .fieldAddr 4 (.tmp 4), none, 0, (some ([], none))⟩,
    ⟨(some 50), .fieldAddr 0 (.tmp 49), none, 0, (some ([], none))⟩,
    ⟨(some 51), .load false 1 (.tmp 50), none, 0, (some ([], none))⟩,
    ⟨(some 52), .move (.tmp 2), none, 0, (some ([], none))⟩,
    ⟨(some 53), .fieldAddr 14 (.tmp 5), none, 0, (some ([], none))⟩,
    ⟨(some 54), .load false 1 (.tmp 53), none, 0, (some ([], none))⟩,
    ⟨(some 55), .call (.func 186) [(false, (.tmp 52)), (false, (.tmp 54))] true 4, none, 0, (some ([], none))⟩,
    ⟨(some 56), .bin .mul (.tmp 51) (.tmp 55), none, 4, (some ([0, 1, 2, 3], none))⟩,
    ⟨(some 57), .fieldAddr 4 (.tmp 4), none, 4, (some ([], none))⟩,
    ⟨(some 58), .fieldAddr 1 (.tmp 57), none, 4, (some ([], none))⟩,
    ⟨(some 59), .load false 1 (.tmp 58), none, 4, (some ([], none))⟩,
    ⟨(some 60), .fieldAddr 3 (.tmp 5), none, 4, (some ([], none))⟩,
    ⟨(some 61), .load false 1 (.tmp 60), none, 4, (some ([], none))⟩,
    ⟨(some 62), .call (.func 187) [(false, (.tmp 61)), (false, (.const (.int .i64 (0)))), (false, (.const (.int .i64 (64))))] true 4, none, 4, (some ([0, 1, 2, 3], none))⟩,
    ⟨(some 63), .bin .mul (.tmp 59) (.tmp 62), none, 8, (some ([0, 1, 2, 3, 4, 5, 6, 7], none))⟩,
    ⟨(some 64), .fieldAddr 4 (.tmp 4), none, 8, (some ([], none))⟩,
    ⟨(some 65), .fieldAddr 2 (.tmp 64), none, 8, (some ([], none))⟩,
    ⟨(some 66), .load false 1 (.tmp 65), none, 8, (some ([], none))⟩,
    ⟨(some 67), .move (.tmp 9), none, 8, (some ([], none))⟩,
    ⟨(some 68), .bin .mul (.tmp 66) (.tmp 67), none, 8, (some ([], none))⟩,
    ⟨(some 69), .fieldAddr 4 (.tmp 4), none, 8, (some ([], none))⟩,
    ⟨(some 70), .fieldAddr 3 (.tmp 69), none, 8, (some ([], none))⟩,
    ⟨(some 71), .load false 1 (.tmp 70), none, 8, (some ([], none))⟩,
    ⟨(some 72), .move (.tmp 10), none, 8, (some ([], none))⟩,
    ⟨(some 73), .bin .mul (.tmp 71) (.tmp 72), none, 8, (some ([], none))⟩,
    ⟨(some 74), .build [.int .i64 (0), .int .i64 (0), .int .i64 (0), .int .i64 (0)] [(0, 1, (.tmp 56)), (1, 1, (.tmp 63)), (2, 1, (.tmp 68)), (3, 1, (.tmp 73))], none, 8, (some ([0, 1, 2, 3, 4, 5, 6, 7], none))⟩,
    ⟨none, .store 4 (.tmp 8) (.tmp 74), none, 8, (some ([0, 1, 2, 3, 4, 5, 6, 7], none))⟩] []) (.ret)))))), [.cell true 4 8], true⟩
def s159 : Sig := ⟨(.cons (.v .spec) (.cons (.v .job) (.cons (.v (.int .i64)) (.cons (.v (.list (.int .i64))) .nil)))), [], ((.v (.pair (.int .i64) (.pair (.int .i64) (.pair (.int .i64) (.int .i64))))), []), []⟩
def F159 (L : Lp) (g64 : Spec → Option Bool) (g185 : Int → Option Int) (g186 : Int → Int → Option Int) (g187 : Int → Int → Int → Option Int) (as0 : Spec) (j1 : Job) (now2 : Int) (use3 : (List Int)) : Option (Int × (Int × (Int × Int))) :=
  Option.bind (g64 as0) fun r4 =>
  cond (!r4)
  (some (0, (0, (0, 0))))
  (Option.bind (α := ((Unit × (Unit × (Unit × (Int × Unit)))) × (Spec × (Job × ((Int × (Int × (Int × Int))) × Unit)))))
  (cond (decide (0 ≤ j1.queue))
  (cond (decide (j1.queue < (List.length as0.queues : Int)))
  (cond (decide (0 ≤ j1.queue))
  (Option.bind (as0.queues[Int.toNat j1.queue]?) fun y5 =>
  some (((), (), (), y5.qos, ()), (as0, j1, (0, (0, (0, 0))), ())))
  (none))
  (some (((), (), (), 0, ()), (as0, j1, (0, (0, (0, 0))), ()))))
  (some (((), (), (), 0, ()), (as0, j1, (0, (0, (0, 0))), ())))) fun x6 =>
  Option.bind (α := ((Unit × (Unit × (Unit × (Int × Unit)))) × (Spec × (Job × ((Int × (Int × (Int × Int))) × Unit)))))
  (cond (decide (0 ≤ x6.2.2.1.user))
  (cond (decide (x6.2.2.1.user < (List.length use3 : Int)))
  (cond (decide (0 ≤ x6.2.2.1.user))
  (Option.bind (use3[Int.toNat x6.2.2.1.user]?) fun y7 =>
  Option.bind (g185 y7) fun r8 =>
  some (((), (), (), r8, ()), (x6.2.1, x6.2.2.1, x6.2.2.2.1, ())))
  (none))
  (some (((), (), (), 0, ()), (x6.2.1, x6.2.2.1, x6.2.2.2.1, ()))))
  (some (((), (), (), 0, ()), (x6.2.1, x6.2.2.1, x6.2.2.2.1, ())))) fun x9 =>
  Option.bind (g186 now2 x9.2.2.1.born) fun r10 =>
  Option.bind (g187 x9.2.2.1.many 0 64) fun r11 =>
  some (IntKind.wrap .i64 (x9.2.1.weights.age * r10), (IntKind.wrap .i64 (x9.2.1.weights.size * r11), (IntKind.wrap .i64 (x9.2.1.weights.qos * x6.1.2.2.2.1), IntKind.wrap .i64 (x9.2.1.weights.share * x9.1.2.2.2.1)))))
theorem e159 (L : Lp) (g64 : Spec → Option Bool) (g185 : Int → Option Int) (g186 : Int → Int → Option Int) (g187 : Int → Int → Int → Option Int) (x : s159.args.den) (h : denH s159.heap) : nrun [⟨64, s64, fun x h => g64 x.1⟩, ⟨185, s185, fun x h => g185 x.1⟩, ⟨186, s186, fun x h => g186 x.1 x.2.1⟩, ⟨187, s187, fun x h => g187 x.1 x.2.1 x.2.2.1⟩] L n159 s159 x h = F159 L g64 g185 g186 g187 x.1 x.2.1 x.2.2.1 x.2.2.2.1 := by kernel_rfl
def f159 : Spec → Job → Int → (List Int) → Option (Int × (Int × (Int × Int))) := F159 (@LN LOOPS) f64 f185 f186 f187
@[reducible] def t159 : Ent := ⟨159, s159, fun x h => f159 x.1 x.2.1 x.2.2.1 x.2.2.2.1⟩
theorem k159 : chkNF Try.prog Try.f159 n159 = true := by kernel_rfl
theorem ok159 : NOk Try.prog t159 := NOk.body (T := [t64, t185, t186, t187]) mixed (nall_cons ok64 (nall_cons ok185 (nall_cons ok186 (nall_cons ok187 nall_nil)))) (oneEach_of (by kernel_rfl)) Try.func159 k159 (by kernel_rfl) (fun x h => e159 _ _ _ _ _ x h)
/- drayage/prio.Of -/
def n123 : NFunc := ⟨26, .seq (.region 2 [
    ⟨(some 4), .box 18 (.tmp 0), none, 0, none⟩,
    ⟨(some 5), .box 18 (.tmp 1), none, 1, none⟩,
    ⟨(some 8), .move (.const (.int .i64 (0))), none, 2, none⟩] []) (.seq (.region 5 [
    ⟨(some 10), .load true 18 (.tmp 4), none, 0, none⟩,
    ⟨(some 11), .load true 18 (.tmp 5), none, 0, none⟩,
    ⟨(some 12), .move (.tmp 2), none, 0, none⟩,
    ⟨(some 13), .move (.tmp 3), none, 0, none⟩,
    ⟨(some 14), .call (.func 159) [(false, (.tmp 10)), (false, (.tmp 11)), (false, (.tmp 12)), (false, (.tmp 13))] false 4, none, 0, none⟩,
    ⟨(some 9), .alloc [.int .i64 (0), .int .i64 (0), .int .i64 (0), .int .i64 (0)], none, 4, none⟩,
    ⟨none, .store 4 (.tmp 9) (.tmp 14), none, 5, none⟩] []) (.seq (.region 0 [
    ⟨(some 15), .indexArr 4 1 (.tmp 9) (.const (.int .i64 (0))), none, 0, none⟩,
    ⟨(some 16), .load false 1 (.tmp 15), none, 0, none⟩,
    ⟨(some 17), .indexArr 4 1 (.tmp 9) (.const (.int .i64 (1))), none, 0, none⟩,
    ⟨(some 18), .load false 1 (.tmp 17), none, 0, none⟩,
    ⟨(some 19), .bin .add (.tmp 16) (.tmp 18), none, 0, none⟩,
    ⟨(some 20), .indexArr 4 1 (.tmp 9) (.const (.int .i64 (2))), none, 0, none⟩,
    ⟨(some 21), .load false 1 (.tmp 20), none, 0, none⟩,
    ⟨(some 22), .bin .add (.tmp 19) (.tmp 21), none, 0, none⟩,
    ⟨(some 23), .indexArr 4 1 (.tmp 9) (.const (.int .i64 (3))), none, 0, none⟩,
    ⟨(some 24), .load false 1 (.tmp 23), none, 0, none⟩,
    ⟨(some 25), .bin .sub (.tmp 22) (.tmp 24), none, 0, none⟩,
    ⟨(some 8), .move (.tmp 25), none, 0, none⟩] []) (.ret))), [.tmp 8], true⟩
def s123 : Sig := ⟨(.cons (.v .spec) (.cons (.v .job) (.cons (.v (.int .i64)) (.cons (.v (.list (.int .i64))) .nil)))), [], ((.v (.int .i64)), []), []⟩
def F123 (L : Lp) (g159 : Spec → Job → Int → (List Int) → Option (Int × (Int × (Int × Int)))) (as0 : Spec) (j1 : Job) (now2 : Int) (use3 : (List Int)) : Option Int :=
  Option.bind (g159 as0 j1 now2 use3) fun r4 =>
  let v5 := IntKind.wrap .i64 ((IntKind.wrap .i64 ((IntKind.wrap .i64 (r4.1 + r4.2.1)) + r4.2.2.1)) - r4.2.2.2)
  some v5
theorem e123 (L : Lp) (g159 : Spec → Job → Int → (List Int) → Option (Int × (Int × (Int × Int)))) (x : s123.args.den) (h : denH s123.heap) : nrun [⟨159, s159, fun x h => g159 x.1 x.2.1 x.2.2.1 x.2.2.2.1⟩] L n123 s123 x h = F123 L g159 x.1 x.2.1 x.2.2.1 x.2.2.2.1 := by kernel_rfl
def f123 : Spec → Job → Int → (List Int) → Option Int := F123 (@LN LOOPS) f159
@[reducible] def t123 : Ent := ⟨123, s123, fun x h => f123 x.1 x.2.1 x.2.2.1 x.2.2.2.1⟩
theorem k123 : chkNF Try.prog Try.f123 n123 = true := by kernel_rfl
theorem ok123 : NOk Try.prog t123 := NOk.body (T := [t159]) mixed (nall_cons ok159 nall_nil) (oneEach_of (by kernel_rfl)) Try.func123 k123 (by kernel_rfl) (fun x h => e123 _ _ x h)
/- drayage/rank.key -/
def n65 : NFunc := ⟨20, .seq (.region 4 [
    ⟨(some 3), .box 18 (.tmp 0), none, 0, none⟩,
    ⟨(some 4), .box 18 (.tmp 1), none, 1, none⟩,
    ⟨(some 5), .box 2 (.tmp 2), none, 2, none⟩,
    ⟨(some 6), .alloc [.int .i64 (0), .int .i64 (0), .int .i64 (0)], none, 3, none⟩] []) (.seq (.region 4 [
    ⟨(some 7), .load true 18 (.tmp 3), none, 0, (some ([], none))⟩,
    ⟨(some 8), .load true 18 (.tmp 4), none, 0, (some ([], none))⟩,
    ⟨(some 9), .fieldAddr 0 (.tmp 5), none, 0, (some ([], none))⟩,
    ⟨(some 10), .load false 1 (.tmp 9), none, 0, (some ([], none))⟩,
    ⟨(some 11), .fieldAddr 1 (.tmp 5), none, 0, (some ([], none))⟩,
    ⟨(some 12), .load false 1 (.tmp 11), none, 0, (some ([], none))⟩,
    ⟨(some 13), .call (.func 123) [(false, (.tmp 7)), (false, (.tmp 8)), (false, (.tmp 10)), (false, (.tmp 12))] true 4, none, 0, (some ([], none))⟩,
    ⟨(some 14), .un .neg (.tmp 13), none, 4, (some ([0, 1, 2, 3], none))⟩,
    ⟨(some 15), .fieldAddr 14 (.tmp 4), none, 4, (some ([], none))⟩,
    ⟨(some 16), .load false 1 (.tmp 15), none, 4, (some ([], none))⟩,
    ⟨(some 17), .fieldAddr 0 (.tmp 4), none, 4, (some ([], none))⟩,
    ⟨(some 18), .load false 1 (.tmp 17), none, 4, (some ([], none))⟩,
    ⟨(some 19), .build [.int .i64 (0), .int .i64 (0), .int .i64 (0)] [(0, 1, (.tmp 14)), (1, 1, (.tmp 16)), (2, 1, (.tmp 18))], none, 4, (some ([0, 1, 2, 3], none))⟩,
    ⟨none, .store 3 (.tmp 6) (.tmp 19), none, 4, (some ([0, 1, 2, 3], none))⟩] []) (.ret)), [.cell true 3 6], true⟩
def s65 : Sig := ⟨(.cons (.v .spec) (.cons (.v .job) (.cons (.v (.pair (.int .i64) (.list (.int .i64)))) .nil))), [], ((.v (.pair (.int .i64) (.pair (.int .i64) (.int .i64)))), []), []⟩
def F65 (L : Lp) (g123 : Spec → Job → Int → (List Int) → Option Int) (as0 : Spec) (j1 : Job) (ax2 : (Int × (List Int))) : Option (Int × (Int × Int)) :=
  Option.bind (g123 as0 j1 ax2.1 ax2.2) fun r3 =>
  some (IntKind.wrap .i64 (0 - r3), (j1.born, j1.id))
theorem e65 (L : Lp) (g123 : Spec → Job → Int → (List Int) → Option Int) (x : s65.args.den) (h : denH s65.heap) : nrun [⟨123, s123, fun x h => g123 x.1 x.2.1 x.2.2.1 x.2.2.2.1⟩] L n65 s65 x h = F65 L g123 x.1 x.2.1 x.2.2.1 := by kernel_rfl
def f65 : Spec → Job → (Int × (List Int)) → Option (Int × (Int × Int)) := F65 (@LN LOOPS) f123
@[reducible] def t65 : Ent := ⟨65, s65, fun x h => f65 x.1 x.2.1 x.2.2.1⟩
theorem k65 : chkNF Try.prog Try.f65 n65 = true := by kernel_rfl
theorem ok65 : NOk Try.prog t65 := NOk.body (T := [t123]) mixed (nall_cons ok123 nall_nil) (oneEach_of (by kernel_rfl)) Try.func65 k65 (by kernel_rfl) (fun x h => e65 _ _ x h)
/- cmp.isNaN[int] -/
def n161 : NFunc := ⟨6, .seq (.region 0 [
    ⟨(some 2), .move (.const (.bool false)), none, 0, none⟩] []) (.seq (.region 0 [
    ⟨(some 3), .move (.tmp 0), none, 0, none⟩,
    ⟨(some 4), .move (.tmp 0), none, 0, none⟩,
    ⟨(some 5), .bin .neq (.tmp 3) (.tmp 4), none, 0, none⟩,
    ⟨(some 2), .move (.tmp 5), none, 0, none⟩] []) (.ret)), [.tmp 2], true⟩
def s161 : Sig := ⟨(.cons (.v (.int .i64)) .nil), [], ((.v .bool), []), []⟩
def F161 (L : Lp)  (ax0 : Int) : Option Bool :=
  some (!decide (ax0 = ax0))
theorem e161 (L : Lp)  (x : s161.args.den) (h : denH s161.heap) : nrun [] L n161 s161 x h = F161 L  x.1 := by kernel_rfl
def f161 : Int → Option Bool := F161 (@LN LOOPS) 
@[reducible] def t161 : Ent := ⟨161, s161, fun x h => f161 x.1⟩
theorem k161 : chkNF Try.prog Try.f161 n161 = true := by kernel_rfl
theorem ok161 : NOk Try.prog t161 := NOk.body (T := []) mixed nall_nil (oneEach_of (by kernel_rfl)) Try.func161 k161 (by kernel_rfl) (fun x h => e161 _  x h)
/- cmp.Compare[int] -/
def n126 : NFunc := ⟨20, .seq (.region 0 [
    ⟨(some 4), .move (.const (.int .i64 (0))), none, 0, none⟩] []) (.seq (.region 4 [
    ⟨(some 7), .move (.tmp 0), none, 0, none⟩,
    ⟨(some 8), .call (.func 161) [(false, (.tmp 7))] false 4, none, 0, none⟩,
    ⟨(some 5), .move (.tmp 8), none, 4, none⟩] []) (.seq (.region 4 [
    ⟨(some 9), .move (.tmp 1), none, 0, none⟩,
    ⟨(some 10), .call (.func 161) [(false, (.tmp 9))] false 4, none, 0, none⟩,
    ⟨(some 6), .move (.tmp 10), none, 4, none⟩] []) (.seq (.seq (.region 0 [
    ⟨(some 11), .move (.tmp 5), none, 0, none⟩] []) (.cond (.tmp 11) (.seq (.seq (.region 0 [
    ⟨(some 12), .move (.tmp 6), none, 0, none⟩] []) (.cond (.tmp 12) (.seq (.region 0 [
    ⟨(some 4), .move (.const (.int .i64 (0))), none, 0, none⟩] []) (.ret)) (.skip))) (.seq (.region 0 [
    ⟨(some 4), .move (.const (.int .i64 (-1))), none, 0, none⟩] []) (.ret))) (.skip))) (.seq (.seq (.region 0 [
    ⟨(some 13), .move (.tmp 6), none, 0, none⟩] []) (.cond (.tmp 13) (.seq (.region 0 [
    ⟨(some 4), .move (.const (.int .i64 (1))), none, 0, none⟩] []) (.ret)) (.skip))) (.seq (.seq (.region 0 [
    ⟨(some 14), .move (.tmp 0), none, 0, none⟩,
    ⟨(some 15), .move (.tmp 1), none, 0, none⟩,
    ⟨(some 16), .bin .lss (.tmp 14) (.tmp 15), none, 0, none⟩] []) (.cond (.tmp 16) (.seq (.region 0 [
    ⟨(some 4), .move (.const (.int .i64 (-1))), none, 0, none⟩] []) (.ret)) (.skip))) (.seq (.seq (.region 0 [
    ⟨(some 17), .move (.tmp 0), none, 0, none⟩,
    ⟨(some 18), .move (.tmp 1), none, 0, none⟩,
    ⟨(some 19), .bin .gtr (.tmp 17) (.tmp 18), none, 0, none⟩] []) (.cond (.tmp 19) (.seq (.region 0 [
    ⟨(some 4), .move (.const (.int .i64 (1))), none, 0, none⟩] []) (.ret)) (.skip))) (.seq (.region 0 [
    ⟨(some 4), .move (.const (.int .i64 (0))), none, 0, none⟩] []) (.ret)))))))), [.tmp 4], true⟩
def s126 : Sig := ⟨(.cons (.v (.int .i64)) (.cons (.v (.int .i64)) .nil)), [], ((.v (.int .i64)), []), []⟩
def F126 (L : Lp) (g161 : Int → Option Bool) (ax0 : Int) (ay1 : Int) : Option Int :=
  Option.bind (g161 ax0) fun r2 =>
  Option.bind (g161 ay1) fun r3 =>
  cond r2
  (cond r3
  (some 0)
  (some (-1)))
  (cond r3
  (some 1)
  (cond (decide (ax0 < ay1))
  (some (-1))
  (cond (decide (ay1 < ax0))
  (some 1)
  (some 0))))
theorem e126 (L : Lp) (g161 : Int → Option Bool) (x : s126.args.den) (h : denH s126.heap) : nrun [⟨161, s161, fun x h => g161 x.1⟩] L n126 s126 x h = F126 L g161 x.1 x.2.1 := by kernel_rfl
def f126 : Int → Int → Option Int := F126 (@LN LOOPS) f161
@[reducible] def t126 : Ent := ⟨126, s126, fun x h => f126 x.1 x.2.1⟩
theorem k126 : chkNF Try.prog Try.f126 n126 = true := by kernel_rfl
theorem ok126 : NOk Try.prog t126 := NOk.body (T := [t161]) mixed (nall_cons ok161 nall_nil) (oneEach_of (by kernel_rfl)) Try.func126 k126 (by kernel_rfl) (fun x h => e126 _ _ x h)
/- slices.Compare[[]int,int] -/
def n69 : NFunc := ⟨36, .seq (.region 0 [
    ⟨(some 4), .move (.const (.int .i64 (0))), none, 0, none⟩] []) (.seq (.seq (.region 0 [
    ⟨(some 9), .move (.tmp 0), none, 0, none⟩,
    ⟨(some 10), .len (.tmp 9), none, 0, none⟩,
    ⟨(some 11), .move (.const (.int .i64 (0))), none, 0, none⟩] []) (.block 0 (.loop [0, 1, 9, 10, 11] ⟨[(11, (.v (.int .i64)))], [0, 1, 9, 10], []⟩ (.seq (.region 0 [
    ⟨(some 12), .bin .lss (.tmp 11) (.tmp 10), none, 0, none⟩] []) (.seq (.cond (.tmp 12) (.skip) (.exit 0)) (.seq (.block 1 (.seq (.region 0 [
    ⟨(some 13), .move (.tmp 11), none, 0, none⟩,
    ⟨(some 14), .indexSl 1 (.tmp 9) (.tmp 11), none, 0, none⟩,
    ⟨(some 15), .load false 1 (.tmp 14), none, 0, none⟩,
    ⟨(some 5), .move (.tmp 13), none, 0, none⟩,
    ⟨(some 6), .move (.tmp 15), none, 0, none⟩] []) (.seq (.seq (.region 0 [
    ⟨(some 16), .move (.tmp 5), none, 0, none⟩,
    ⟨(some 17), .move (.tmp 1), none, 0, none⟩,
    ⟨(some 18), .len (.tmp 17), none, 0, none⟩,
    ⟨(some 19), .bin .geq (.tmp 16) (.tmp 18), none, 0, none⟩] []) (.cond (.tmp 19) (.seq (.region 0 [
    ⟨(some 4), .move (.const (.int .i64 (1))), none, 0, none⟩] []) (.ret)) (.skip))) (.seq (.region 0 [
    ⟨(some 20), .move (.tmp 1), none, 0, none⟩,
    ⟨(some 21), .move (.tmp 5), none, 0, none⟩,
    ⟨(some 22), .indexSl 1 (.tmp 20) (.tmp 21), none, 0, none⟩,
    ⟨(some 23), .load false 1 (.tmp 22), none, 0, none⟩,
    ⟨(some 7), .move (.tmp 23), none, 0, none⟩] []) (.seq (.region 4 [
    ⟨(some 24), .move (.tmp 6), none, 0, none⟩,
    ⟨(some 25), .move (.tmp 7), none, 0, none⟩,
    ⟨(some 26), .call (.func 126) [(false, (.tmp 24)), (false, (.tmp 25))] false 4, none, 0, none⟩,
    ⟨(some 8), .move (.tmp 26), none, 4, none⟩] []) (.seq (.region 0 [
    ⟨(some 27), .move (.tmp 8), none, 0, none⟩,
    ⟨(some 28), .bin .neq (.tmp 27) (.const (.int .i64 (0))), none, 0, none⟩] []) (.cond (.tmp 28) (.seq (.region 0 [
    ⟨(some 29), .move (.tmp 8), none, 0, none⟩,
    ⟨(some 4), .move (.tmp 29), none, 0, none⟩] []) (.ret)) (.skip)))))))) (.region 0 [
    ⟨(some 30), .bin .add (.tmp 11) (.const (.int .i64 (1))), none, 0, none⟩,
    ⟨(some 11), .move (.tmp 30), none, 0, none⟩] []))))))) (.seq (.seq (.region 0 [
    ⟨(some 31), .move (.tmp 0), none, 0, none⟩,
    ⟨(some 32), .len (.tmp 31), none, 0, none⟩,
    ⟨(some 33), .move (.tmp 1), none, 0, none⟩,
    ⟨(some 34), .len (.tmp 33), none, 0, none⟩,
    ⟨(some 35), .bin .lss (.tmp 32) (.tmp 34), none, 0, none⟩] []) (.cond (.tmp 35) (.seq (.region 0 [
    ⟨(some 4), .move (.const (.int .i64 (-1))), none, 0, none⟩] []) (.ret)) (.skip))) (.seq (.region 0 [
    ⟨(some 4), .move (.const (.int .i64 (0))), none, 0, none⟩] []) (.ret)))), [.tmp 4], false⟩
def s69 : Sig := ⟨(.cons (.v (.list (.int .i64))) (.cons (.v (.list (.int .i64))) .nil)), [], ((.v (.int .i64)), []), []⟩
def l69_0 (g126 : Int → Int → Option Int) (as0 : (List Int)) (as1 : (List Int)) (nx3 : ((Int × Unit) × Unit) → Option Int) (z4 : Int) : Option Int :=
  cond (decide (z4 < (List.length as0 : Int)))
  (cond (decide (0 ≤ z4))
  (Option.bind (as0[Int.toNat z4]?) fun y5 =>
  cond (decide ((List.length as1 : Int) ≤ z4))
  (some 1)
  (cond (decide (0 ≤ z4))
  (Option.bind (as1[Int.toNat z4]?) fun y6 =>
  Option.bind (g126 y5 y6) fun r7 =>
  cond (!decide (r7 = 0))
  (some r7)
  (nx3 ((IntKind.wrap .i64 (z4 + 1), ()), ())))
  (none)))
  (none))
  (cond (decide ((List.length as0 : Int) < (List.length as1 : Int)))
  (some (-1))
  (some 0))
def F69 (L : Lp) (g126 : Int → Int → Option Int) (as0 : (List Int)) (as1 : (List Int)) : Option Int :=
  L (fun (s2 : ((Int × Unit) × Unit)) nx3 => l69_0 g126 as0 as1 nx3 s2.1.1) ((0, ()), ())
theorem e69 (L : Lp) (g126 : Int → Int → Option Int) (x : s69.args.den) (h : denH s69.heap) : nrun [⟨126, s126, fun x h => g126 x.1 x.2.1⟩] L n69 s69 x h = F69 L g126 x.1 x.2.1 := by kernel_rfl
def f69 : (List Int) → (List Int) → Option Int := F69 (@LN LOOPS) f126
@[reducible] def t69 : Ent := ⟨69, s69, fun x h => f69 x.1 x.2.1⟩
theorem k69 : chkNF Try.prog Try.f69 n69 = true := by kernel_rfl
theorem ok69 : NOk Try.prog t69 := NOk.body (T := [t126]) mixed (nall_cons ok126 nall_nil) (oneEach_of (by kernel_rfl)) Try.func69 k69 (by kernel_rfl) (fun x h => e69 _ _ x h)
/- drayage/rank.arrange[int]$1 -/
def n125 : NFunc := ⟨15, .seq (.region 0 [
    ⟨(some 5), .move (.const (.int .i64 (0))), none, 0, none⟩] []) (.seq (.region 4 [
    ⟨(some 6), .load false 1 (.tmp 2), none, 0, (some ([], some []))⟩,
    ⟨(some 7), .move (.tmp 0), none, 0, (some ([], none))⟩,
    ⟨(some 8), .indexSl 3 (.tmp 6) (.tmp 7), none, 0, (some ([], none))⟩,
    ⟨(some 9), .sliceArr 3 1 (.tmp 8), none, 0, (some ([], some []))⟩,
    ⟨(some 10), .load false 1 (.tmp 2), none, 0, (some ([], some []))⟩,
    ⟨(some 11), .move (.tmp 1), none, 0, (some ([], none))⟩,
    ⟨(some 12), .indexSl 3 (.tmp 10) (.tmp 11), none, 0, (some ([], none))⟩,
    ⟨(some 13), .sliceArr 3 1 (.tmp 12), none, 0, (some ([], some []))⟩,
    ⟨(some 14), .call (.func 69) [(false, (.tmp 9)), (false, (.tmp 13))] false 4, none, 0, (some ([], some []))⟩,
    ⟨(some 5), .move (.tmp 14), none, 4, (some ([0, 1, 2, 3], none))⟩] []) (.ret)), [.tmp 5], true⟩
def s125 : Sig := ⟨(.cons (.v (.int .i64)) (.cons (.v (.int .i64)) (.cons (.iptr (.cons (.v (.list (.pair (.int .i64) (.pair (.int .i64) (.int .i64))))) .nil) 0) .nil))), [], ((.v (.int .i64)), []), []⟩
def F125 (L : Lp) (g69 : (List Int) → (List Int) → Option Int) (a0 : Int) (b1 : Int) (a2 : (List (Int × (Int × Int)))) : Option Int :=
  cond (decide (0 ≤ a0))
  (Option.bind (a2[Int.toNat a0]?) fun y3 =>
  cond (decide (0 ≤ b1))
  (Option.bind (a2[Int.toNat b1]?) fun y4 =>
  Option.bind (g69 [y3.1, y3.2.1, y3.2.2] [y4.1, y4.2.1, y4.2.2]) fun r5 =>
  some r5)
  (none))
  (none)
theorem e125 (L : Lp) (g69 : (List Int) → (List Int) → Option Int) (x : s125.args.den) (h : denH s125.heap) : nrun [⟨69, s69, fun x h => g69 x.1 x.2.1⟩] L n125 s125 x h = F125 L g69 x.1 x.2.1 x.2.2.1.1 := by kernel_rfl
def f125 : Int → Int → (List (Int × (Int × Int))) → Option Int := F125 (@LN LOOPS) f69
@[reducible] def t125 : Ent := ⟨125, s125, fun x h => f125 x.1 x.2.1 x.2.2.1.1⟩
theorem k125 : chkNF Try.prog Try.f125 n125 = true := by kernel_rfl
theorem ok125 : NOk Try.prog t125 := NOk.body (T := [t69]) mixed (nall_cons ok69 nall_nil) (oneEach_of (by kernel_rfl)) Try.func125 k125 (by kernel_rfl) (fun x h => e125 _ _ x h)
/- slices.insertionSortCmpFunc[int] -/
def n188 : NFunc := ⟨53, .seq (.region 0 [
    ⟨(some 10), .move (.tmp 1), none, 0, none⟩,
    ⟨(some 11), .bin .add (.tmp 10) (.const (.int .i64 (1))), none, 0, none⟩,
    ⟨(some 8), .move (.tmp 11), none, 0, none⟩] []) (.block 0 (.loop [0, 1, 2, 3, 8] ⟨[(0, (.slw 0 1)), (8, (.v (.int .i64)))], [1, 2, 3], [.typed (.int .i64)]⟩ (.seq (.seq (.region 0 [
    ⟨(some 12), .move (.tmp 8), none, 0, none⟩,
    ⟨(some 13), .move (.tmp 2), none, 0, none⟩,
    ⟨(some 14), .bin .lss (.tmp 12) (.tmp 13), none, 0, none⟩] []) (.cond (.tmp 14) (.skip) (.exit 0))) (.seq (.block 1 (.seq (.region 0 [
    ⟨(some 17), .move (.tmp 8), none, 0, none⟩,
    ⟨(some 9), .move (.tmp 17), none, 0, none⟩] []) (.block 2 (.loop [0, 1, 2, 3, 8, 9] ⟨[(0, (.slw 0 1)), (9, (.v (.int .i64)))], [1, 2, 3, 8], [.typed (.int .i64)]⟩ (.seq (.seq (.region 4 [
    ⟨(some 18), .move (.tmp 9), none, 0, (some ([], none))⟩,
    ⟨(some 19), .move (.tmp 1), none, 0, (some ([], none))⟩,
    ⟨(some 20), .bin .gtr (.tmp 18) (.tmp 19), none, 0, (some ([], none))⟩,
    ⟨(some 21), .move (.tmp 20), none, 0, (some ([], none))⟩,
    ⟨(some 22), .move (.tmp 3), (some (21, true)), 0, (some ([], none))⟩,
    ⟨(some 23), .move (.tmp 0), (some (21, true)), 0, (some ([], none))⟩,
    ⟨(some 24), .move (.tmp 9), (some (21, true)), 0, (some ([], none))⟩,
    ⟨(some 25), .indexSl 1 (.tmp 23) (.tmp 24), (some (21, true)), 0, (some ([], none))⟩,
    ⟨(some 26), .load false 1 (.tmp 25), (some (21, true)), 0, (some ([], none))⟩,
    ⟨(some 27), .move (.tmp 0), (some (21, true)), 0, (some ([], none))⟩,
    ⟨(some 28), .move (.tmp 9), (some (21, true)), 0, (some ([], none))⟩,
    ⟨(some 29), .bin .sub (.tmp 28) (.const (.int .i64 (1))), (some (21, true)), 0, (some ([], none))⟩,
    ⟨(some 30), .indexSl 1 (.tmp 27) (.tmp 29), (some (21, true)), 0, (some ([], none))⟩,
    ⟨(some 31), .load false 1 (.tmp 30), (some (21, true)), 0, (some ([], none))⟩,
    ⟨(some 32), .call (.tmp 22) [(false, (.tmp 26)), (false, (.tmp 31))] false 4, (some (21, true)), 0, (some ([], none))⟩,
    ⟨(some 33), .bin .lss (.tmp 32) (.const (.int .i64 (0))), (some (21, true)), 4, (some ([0, 1, 2, 3], none))⟩,
    ⟨(some 34), .pick (.tmp 21) (.tmp 33) (.const (.bool false)), none, 4, (some ([0, 1, 2, 3], none))⟩] []) (.cond (.tmp 34) (.skip) (.exit 2))) (.seq (.block 3 (.region 0 [
    ⟨(some 37), .move (.tmp 0), none, 0, (some ([], none))⟩,
    ⟨(some 38), .move (.tmp 9), none, 0, (some ([], none))⟩,
    ⟨(some 39), .move (.tmp 0), none, 0, (some ([], none))⟩,
    ⟨(some 40), .move (.tmp 9), none, 0, (some ([], none))⟩,
    ⟨(some 41), .bin .sub (.tmp 40) (.const (.int .i64 (1))), none, 0, (some ([], none))⟩,
    ⟨(some 42), .move (.tmp 0), none, 0, (some ([], none))⟩,
    ⟨(some 43), .move (.tmp 9), none, 0, (some ([], none))⟩,
    ⟨(some 44), .bin .sub (.tmp 43) (.const (.int .i64 (1))), none, 0, (some ([], none))⟩,
    ⟨(some 45), .indexSl 1 (.tmp 42) (.tmp 44), none, 0, (some ([], none))⟩,
    ⟨(some 46), .load false 1 (.tmp 45), none, 0, (some ([], none))⟩,
    ⟨(some 47), .move (.tmp 0), none, 0, (some ([], none))⟩,
    ⟨(some 48), .move (.tmp 9), none, 0, (some ([], none))⟩,
    ⟨(some 49), .indexSl 1 (.tmp 47) (.tmp 48), none, 0, (some ([], none))⟩,
    ⟨(some 50), .load false 1 (.tmp 49), none, 0, (some ([], none))⟩,
    ⟨(some 51), .indexSl 1 (.tmp 37) (.tmp 38), none, 0, (some ([], none))⟩,
    ⟨none, .store 1 (.tmp 51) (.tmp 46), none, 0, (some ([], none))⟩,
    ⟨(some 52), .indexSl 1 (.tmp 39) (.tmp 41), none, 0, (some ([], none))⟩,
    ⟨none, .store 1 (.tmp 52) (.tmp 50), none, 0, (some ([], none))⟩] [])) (.region 0 [
    ⟨(some 35), .move (.tmp 9), none, 0, none⟩,
    ⟨(some 36), .bin .sub (.tmp 35) (.const (.int .i64 (1))), none, 0, none⟩,
    ⟨(some 9), .move (.tmp 36), none, 0, none⟩] []))))))) (.region 0 [
    ⟨(some 15), .move (.tmp 8), none, 0, none⟩,
    ⟨(some 16), .bin .add (.tmp 15) (.const (.int .i64 (1))), none, 0, none⟩,
    ⟨(some 8), .move (.tmp 16), none, 0, none⟩] []))))), [], false⟩
def s188 : Sig := ⟨(.cons (.slw 0 1) (.cons (.v (.int .i64)) (.cons (.v (.int .i64)) (.cons (.fn 125 (.cons (.iptr (.cons (.v (.list (.pair (.int .i64) (.pair (.int .i64) (.int .i64))))) .nil) 0) .nil)) .nil)))), [.typed (.int .i64)], ((.tup .nil), [.typed (.int .i64)]), []⟩
def l188_0 (g125 : Int → Int → (List (Int × (Int × Int))) → Option Int) (a0 : Int) (cmp2 : (List (Int × (Int × Int)))) (nx5 : (((Unit × (Int × Unit)) × ((List Int) × Unit)) → Option (Unit × ((List Int) × Unit)))) (i6 : Int) (nx9 : ((Unit × (Int × Unit)) × ((List Int) × Unit)) → Option (Unit × ((List Int) × Unit))) (j10 : Int) (z11 : (List Int)) : Option (Unit × ((List Int) × Unit)) :=
  cond (decide (a0 < j10))
  (cond (decide (0 ≤ j10))
  (cond (decide ((Int.toNat j10) < (List.length z11)))
  (Option.bind (z11[Int.toNat j10]?) fun y12 =>
  cond (decide (0 ≤ (IntKind.wrap .i64 (j10 - 1))))
  (cond (decide ((Int.toNat (IntKind.wrap .i64 (j10 - 1))) < (List.length z11)))
  (Option.bind (z11[Int.toNat (IntKind.wrap .i64 (j10 - 1))]?) fun y13 =>
  Option.bind (g125 y12 y13 cmp2) fun r14 =>
  cond (decide (r14 < 0))
  (cond (decide (0 ≤ (IntKind.wrap .i64 (j10 - 1))))
  (cond (decide ((Int.toNat (IntKind.wrap .i64 (j10 - 1))) < (List.length z11)))
  (Option.bind (z11[Int.toNat (IntKind.wrap .i64 (j10 - 1))]?) fun y15 =>
  cond (decide (0 ≤ j10))
  (cond (decide ((Int.toNat j10) < (List.length z11)))
  (Option.bind (z11[Int.toNat j10]?) fun y16 =>
  cond (decide (0 ≤ j10))
  (cond (decide ((Int.toNat j10) < (List.length z11)))
  (Option.bind (z11[Int.toNat j10]?) fun y17 =>
  cond (decide (0 ≤ (IntKind.wrap .i64 (j10 - 1))))
  (cond (decide ((Int.toNat (IntKind.wrap .i64 (j10 - 1))) < (List.length (List.set z11 (Int.toNat j10) y15))))
  (Option.bind ((List.set z11 (Int.toNat j10) y15)[Int.toNat (IntKind.wrap .i64 (j10 - 1))]?) fun y18 =>
  nx9 (((), IntKind.wrap .i64 (j10 - 1), ()), (List.set (List.set z11 (Int.toNat j10) y15) (Int.toNat (IntKind.wrap .i64 (j10 - 1))) y16, ())))
  (none))
  (none))
  (none))
  (none))
  (none))
  (none))
  (none))
  (none))
  (nx5 (((), IntKind.wrap .i64 (i6 + 1), ()), (z11, ()))))
  (none))
  (none))
  (none))
  (none))
  (nx5 (((), IntKind.wrap .i64 (i6 + 1), ()), (z11, ())))
def l188_1 (L : Lp) (g125 : Int → Int → (List (Int × (Int × Int))) → Option Int) (a0 : Int) (b1 : Int) (cmp2 : (List (Int × (Int × Int)))) (nx5 : ((Unit × (Int × Unit)) × ((List Int) × Unit)) → Option (Unit × ((List Int) × Unit))) (i6 : Int) (z7 : (List Int)) : Option (Unit × ((List Int) × Unit)) :=
  cond (decide (i6 < b1))
  (L (fun (s8 : ((Unit × (Int × Unit)) × ((List Int) × Unit))) nx9 => l188_0 g125 a0 cmp2 nx5 i6 nx9 s8.1.2.1 s8.2.1) (((), i6, ()), (z7, ())))
  (some ((), (z7, ())))
def F188 (L : Lp) (g125 : Int → Int → (List (Int × (Int × Int))) → Option Int) (a0 : Int) (b1 : Int) (cmp2 : (List (Int × (Int × Int)))) (a3 : (List Int)) : Option (Unit × ((List Int) × Unit)) :=
  L (fun (s4 : ((Unit × (Int × Unit)) × ((List Int) × Unit))) nx5 => l188_1 L g125 a0 b1 cmp2 nx5 s4.1.2.1 s4.2.1) (((), IntKind.wrap .i64 (a0 + 1), ()), (a3, ()))
theorem e188 (L : Lp) (g125 : Int → Int → (List (Int × (Int × Int))) → Option Int) (x : s188.args.den) (h : denH s188.heap) : nrun [⟨125, s125, fun x h => g125 x.1 x.2.1 x.2.2.1.1⟩] L n188 s188 x h = F188 L g125 x.2.1 x.2.2.1 x.2.2.2.1.1.1 h.1 := by kernel_rfl
def f188 : Int → Int → (List (Int × (Int × Int))) → (List Int) → Option (Unit × ((List Int) × Unit)) := F188 (@LN LOOPS) f125
@[reducible] def t188 : Ent := ⟨188, s188, fun x h => f188 x.2.1 x.2.2.1 x.2.2.2.1.1.1 h.1⟩
theorem k188 : chkNF Try.prog Try.f188 n188 = true := by kernel_rfl
theorem ok188 : NOk Try.prog t188 := NOk.body (T := [t125]) mixed (nall_cons ok125 nall_nil) (oneEach_of (by kernel_rfl)) Try.func188 k188 (by kernel_rfl) (fun x h => e188 _ _ x h)
/- slices.swapRangeCmpFunc[int] -/
def n214 : NFunc := ⟨38, .seq (.region 0 [
    ⟨(some 10), .move (.const (.int .i64 (0))), none, 0, none⟩] []) (.block 0 (.loop [0, 1, 2, 3, 10] ⟨[(0, (.slw 0 1)), (10, (.v (.int .i64)))], [1, 2, 3], [.typed (.int .i64)]⟩ (.seq (.seq (.region 0 [
    ⟨(some 11), .move (.tmp 10), none, 0, none⟩,
    ⟨(some 12), .move (.tmp 3), none, 0, none⟩,
    ⟨(some 13), .bin .lss (.tmp 11) (.tmp 12), none, 0, none⟩] []) (.cond (.tmp 13) (.skip) (.exit 0))) (.seq (.block 1 (.region 0 [
    ⟨(some 16), .move (.tmp 0), none, 0, (some ([], none))⟩,
    ⟨(some 17), .move (.tmp 1), none, 0, (some ([], none))⟩,
    ⟨(some 18), .move (.tmp 10), none, 0, (some ([], none))⟩,
    ⟨(some 19), .bin .add (.tmp 17) (.tmp 18), none, 0, (some ([], none))⟩,
    ⟨(some 20), .move (.tmp 0), none, 0, (some ([], none))⟩,
    ⟨(some 21), .move (.tmp 2), none, 0, (some ([], none))⟩,
    ⟨(some 22), .move (.tmp 10), none, 0, (some ([], none))⟩,
    ⟨(some 23), .bin .add (.tmp 21) (.tmp 22), none, 0, (some ([], none))⟩,
    ⟨(some 24), .move (.tmp 0), none, 0, (some ([], none))⟩,
    ⟨(some 25), .move (.tmp 2), none, 0, (some ([], none))⟩,
    ⟨(some 26), .move (.tmp 10), none, 0, (some ([], none))⟩,
    ⟨(some 27), .bin .add (.tmp 25) (.tmp 26), none, 0, (some ([], none))⟩,
    ⟨(some 28), .indexSl 1 (.tmp 24) (.tmp 27), none, 0, (some ([], none))⟩,
    ⟨(some 29), .load false 1 (.tmp 28), none, 0, (some ([], none))⟩,
    ⟨(some 30), .move (.tmp 0), none, 0, (some ([], none))⟩,
    ⟨(some 31), .move (.tmp 1), none, 0, (some ([], none))⟩,
    ⟨(some 32), .move (.tmp 10), none, 0, (some ([], none))⟩,
    ⟨(some 33), .bin .add (.tmp 31) (.tmp 32), none, 0, (some ([], none))⟩,
    ⟨(some 34), .indexSl 1 (.tmp 30) (.tmp 33), none, 0, (some ([], none))⟩,
    ⟨(some 35), .load false 1 (.tmp 34), none, 0, (some ([], none))⟩,
    ⟨(some 36), .indexSl 1 (.tmp 16) (.tmp 19), none, 0, (some ([], none))⟩,
    ⟨none, .store 1 (.tmp 36) (.tmp 29), none, 0, (some ([], none))⟩,
    ⟨(some 37), .indexSl 1 (.tmp 20) (.tmp 23), none, 0, (some ([], none))⟩,
    ⟨none, .store 1 (.tmp 37) (.tmp 35), none, 0, (some ([], none))⟩] [])) (.region 0 [
    ⟨(some 14), .move (.tmp 10), none, 0, none⟩,
    ⟨(some 15), .bin .add (.tmp 14) (.const (.int .i64 (1))), none, 0, none⟩,
    ⟨(some 10), .move (.tmp 15), none, 0, none⟩] []))))), [], false⟩
def s214 : Sig := ⟨(.cons (.slw 0 1) (.cons (.v (.int .i64)) (.cons (.v (.int .i64)) (.cons (.v (.int .i64)) (.cons (.fn 125 (.cons (.iptr (.cons (.v (.list (.pair (.int .i64) (.pair (.int .i64) (.int .i64))))) .nil) 0) .nil)) .nil))))), [.typed (.int .i64)], ((.tup .nil), [.typed (.int .i64)]), []⟩
def l214_0 (a0 : Int) (b1 : Int) (an2 : Int) (nx6 : ((Unit × (Int × Unit)) × ((List Int) × Unit)) → Option (Unit × ((List Int) × Unit))) (i7 : Int) (z8 : (List Int)) : Option (Unit × ((List Int) × Unit)) :=
  cond (decide (i7 < an2))
  (cond (decide (0 ≤ (IntKind.wrap .i64 (b1 + i7))))
  (cond (decide ((Int.toNat (IntKind.wrap .i64 (b1 + i7))) < (List.length z8)))
  (Option.bind (z8[Int.toNat (IntKind.wrap .i64 (b1 + i7))]?) fun y9 =>
  cond (decide (0 ≤ (IntKind.wrap .i64 (a0 + i7))))
  (cond (decide ((Int.toNat (IntKind.wrap .i64 (a0 + i7))) < (List.length z8)))
  (Option.bind (z8[Int.toNat (IntKind.wrap .i64 (a0 + i7))]?) fun y10 =>
  cond (decide (0 ≤ (IntKind.wrap .i64 (a0 + i7))))
  (cond (decide ((Int.toNat (IntKind.wrap .i64 (a0 + i7))) < (List.length z8)))
  (Option.bind (z8[Int.toNat (IntKind.wrap .i64 (a0 + i7))]?) fun y11 =>
  cond (decide (0 ≤ (IntKind.wrap .i64 (b1 + i7))))
  (cond (decide ((Int.toNat (IntKind.wrap .i64 (b1 + i7))) < (List.length (List.set z8 (Int.toNat (IntKind.wrap .i64 (a0 + i7))) y9))))
  (Option.bind ((List.set z8 (Int.toNat (IntKind.wrap .i64 (a0 + i7))) y9)[Int.toNat (IntKind.wrap .i64 (b1 + i7))]?) fun y12 =>
  nx6 (((), IntKind.wrap .i64 (i7 + 1), ()), (List.set (List.set z8 (Int.toNat (IntKind.wrap .i64 (a0 + i7))) y9) (Int.toNat (IntKind.wrap .i64 (b1 + i7))) y10, ())))
  (none))
  (none))
  (none))
  (none))
  (none))
  (none))
  (none))
  (none))
  (some ((), (z8, ())))
def F214 (L : Lp)  (a0 : Int) (b1 : Int) (an2 : Int) (cmp3 : (List (Int × (Int × Int)))) (a4 : (List Int)) : Option (Unit × ((List Int) × Unit)) :=
  L (fun (s5 : ((Unit × (Int × Unit)) × ((List Int) × Unit))) nx6 => l214_0 a0 b1 an2 nx6 s5.1.2.1 s5.2.1) (((), 0, ()), (a4, ()))
theorem e214 (L : Lp)  (x : s214.args.den) (h : denH s214.heap) : nrun [] L n214 s214 x h = F214 L  x.2.1 x.2.2.1 x.2.2.2.1 x.2.2.2.2.1.1.1 h.1 := by kernel_rfl
def f214 : Int → Int → Int → (List (Int × (Int × Int))) → (List Int) → Option (Unit × ((List Int) × Unit)) := F214 (@LN LOOPS) 
@[reducible] def t214 : Ent := ⟨214, s214, fun x h => f214 x.2.1 x.2.2.1 x.2.2.2.1 x.2.2.2.2.1.1.1 h.1⟩
theorem k214 : chkNF Try.prog Try.f214 n214 = true := by kernel_rfl
theorem ok214 : NOk Try.prog t214 := NOk.body (T := []) mixed nall_nil (oneEach_of (by kernel_rfl)) Try.func214 k214 (by kernel_rfl) (fun x h => e214 _  x h)
/- slices.rotateCmpFunc[int] -/
def n206 : NFunc := ⟨58, .seq (.region 0 [
    ⟨(some 12), .move (.tmp 2), none, 0, none⟩,
    ⟨(some 13), .move (.tmp 1), none, 0, none⟩,
    ⟨(some 14), .bin .sub (.tmp 12) (.tmp 13), none, 0, none⟩,
    ⟨(some 10), .move (.tmp 14), none, 0, none⟩] []) (.seq (.region 0 [
    ⟨(some 15), .move (.tmp 3), none, 0, none⟩,
    ⟨(some 16), .move (.tmp 2), none, 0, none⟩,
    ⟨(some 17), .bin .sub (.tmp 15) (.tmp 16), none, 0, none⟩,
    ⟨(some 11), .move (.tmp 17), none, 0, none⟩] []) (.seq (.block 0 (.loop [0, 2, 4, 10, 11] ⟨[(0, (.slw 0 1)), (10, (.v (.int .i64))), (11, (.v (.int .i64)))], [2, 4], [.typed (.int .i64)]⟩ (.seq (.seq (.region 0 [
    ⟨(some 18), .move (.tmp 10), none, 0, none⟩,
    ⟨(some 19), .move (.tmp 11), none, 0, none⟩,
    ⟨(some 20), .bin .neq (.tmp 18) (.tmp 19), none, 0, none⟩] []) (.cond (.tmp 20) (.skip) (.exit 0))) (.block 1 (.seq (.region 0 [
    ⟨(some 21), .move (.tmp 10), none, 0, none⟩,
    ⟨(some 22), .move (.tmp 11), none, 0, none⟩,
    ⟨(some 23), .bin .gtr (.tmp 21) (.tmp 22), none, 0, none⟩] []) (.cond (.tmp 23) (.seq (.region 4 [
    ⟨(some 24), .move (.tmp 0), none, 0, none⟩,
    ⟨(some 25), .move (.tmp 2), none, 0, none⟩,
    ⟨(some 26), .move (.tmp 10), none, 0, none⟩,
    ⟨(some 27), .bin .sub (.tmp 25) (.tmp 26), none, 0, none⟩,
    ⟨(some 28), .move (.tmp 2), none, 0, none⟩,
    ⟨(some 29), .move (.tmp 11), none, 0, none⟩,
    ⟨(some 30), .move (.tmp 4), none, 0, none⟩,
    ⟨(some 31), .call (.func 214) [(true, (.tmp 24)), (false, (.tmp 27)), (false, (.tmp 28)), (false, (.tmp 29)), (false, (.tmp 30))] false 4, none, 0, none⟩] []) (.region 0 [
    ⟨(some 32), .move (.tmp 10), none, 0, none⟩,
    ⟨(some 33), .move (.tmp 11), none, 0, none⟩,
    ⟨(some 34), .bin .sub (.tmp 32) (.tmp 33), none, 0, none⟩,
    ⟨(some 10), .move (.tmp 34), none, 0, none⟩] [])) (.seq (.region 4 [
    ⟨(some 35), .move (.tmp 0), none, 0, none⟩,
    ⟨(some 36), .move (.tmp 2), none, 0, none⟩,
    ⟨(some 37), .move (.tmp 10), none, 0, none⟩,
    ⟨(some 38), .bin .sub (.tmp 36) (.tmp 37), none, 0, none⟩,
    ⟨(some 39), .move (.tmp 2), none, 0, none⟩,
    ⟨(some 40), .move (.tmp 11), none, 0, none⟩,
    ⟨(some 41), .bin .add (.tmp 39) (.tmp 40), none, 0, none⟩,
    ⟨(some 42), .move (.tmp 10), none, 0, none⟩,
    ⟨(some 43), .bin .sub (.tmp 41) (.tmp 42), none, 0, none⟩,
    ⟨(some 44), .move (.tmp 10), none, 0, none⟩,
    ⟨(some 45), .move (.tmp 4), none, 0, none⟩,
    ⟨(some 46), .call (.func 214) [(true, (.tmp 35)), (false, (.tmp 38)), (false, (.tmp 43)), (false, (.tmp 44)), (false, (.tmp 45))] false 4, none, 0, none⟩] []) (.region 0 [
    ⟨(some 47), .move (.tmp 11), none, 0, none⟩,
    ⟨(some 48), .move (.tmp 10), none, 0, none⟩,
    ⟨(some 49), .bin .sub (.tmp 47) (.tmp 48), none, 0, none⟩,
    ⟨(some 11), .move (.tmp 49), none, 0, none⟩] [])))))))) (.region 4 [
    ⟨(some 50), .move (.tmp 0), none, 0, none⟩,
    ⟨(some 51), .move (.tmp 2), none, 0, none⟩,
    ⟨(some 52), .move (.tmp 10), none, 0, none⟩,
    ⟨(some 53), .bin .sub (.tmp 51) (.tmp 52), none, 0, none⟩,
    ⟨(some 54), .move (.tmp 2), none, 0, none⟩,
    ⟨(some 55), .move (.tmp 10), none, 0, none⟩,
    ⟨(some 56), .move (.tmp 4), none, 0, none⟩,
    ⟨(some 57), .call (.func 214) [(true, (.tmp 50)), (false, (.tmp 53)), (false, (.tmp 54)), (false, (.tmp 55)), (false, (.tmp 56))] false 4, none, 0, none⟩] []))), [], false⟩
def s206 : Sig := ⟨(.cons (.slw 0 1) (.cons (.v (.int .i64)) (.cons (.v (.int .i64)) (.cons (.v (.int .i64)) (.cons (.fn 125 (.cons (.iptr (.cons (.v (.list (.pair (.int .i64) (.pair (.int .i64) (.int .i64))))) .nil) 0) .nil)) .nil))))), [.typed (.int .i64)], ((.tup .nil), [.typed (.int .i64)]), []⟩
def l206_0 (g214 : Int → Int → Int → (List (Int × (Int × Int))) → (List Int) → Option (Unit × ((List Int) × Unit))) (m1 : Int) (cmp3 : (List (Int × (Int × Int)))) (nx6 : ((Unit × (Int × (Int × Unit))) × ((List Int) × Unit)) → Option (Unit × ((List Int) × Unit))) (i7 : Int) (j8 : Int) (z9 : (List Int)) : Option (Unit × ((List Int) × Unit)) :=
  cond (!decide (i7 = j8))
  (cond (decide (j8 < i7))
  (Option.bind (g214 (IntKind.wrap .i64 (m1 - i7)) m1 j8 cmp3 z9) fun r10 =>
  cond ((decide ((List.length r10.2.1) = (List.length z9))) && true)
  (nx6 (((), IntKind.wrap .i64 (i7 - j8), j8, ()), (r10.2.1, ())))
  (none))
  (Option.bind (g214 (IntKind.wrap .i64 (m1 - i7)) (IntKind.wrap .i64 ((IntKind.wrap .i64 (m1 + j8)) - i7)) i7 cmp3 z9) fun r11 =>
  cond ((decide ((List.length r11.2.1) = (List.length z9))) && true)
  (nx6 (((), i7, IntKind.wrap .i64 (j8 - i7), ()), (r11.2.1, ())))
  (none)))
  (Option.bind (g214 (IntKind.wrap .i64 (m1 - i7)) m1 i7 cmp3 z9) fun r12 =>
  cond ((decide ((List.length r12.2.1) = (List.length z9))) && true)
  (some ((), (r12.2.1, ())))
  (none))
def F206 (L : Lp) (g214 : Int → Int → Int → (List (Int × (Int × Int))) → (List Int) → Option (Unit × ((List Int) × Unit))) (a0 : Int) (m1 : Int) (b2 : Int) (cmp3 : (List (Int × (Int × Int)))) (a4 : (List Int)) : Option (Unit × ((List Int) × Unit)) :=
  L (fun (s5 : ((Unit × (Int × (Int × Unit))) × ((List Int) × Unit))) nx6 => l206_0 g214 m1 cmp3 nx6 s5.1.2.1 s5.1.2.2.1 s5.2.1) (((), IntKind.wrap .i64 (m1 - a0), IntKind.wrap .i64 (b2 - m1), ()), (a4, ()))
theorem e206 (L : Lp) (g214 : Int → Int → Int → (List (Int × (Int × Int))) → (List Int) → Option (Unit × ((List Int) × Unit))) (x : s206.args.den) (h : denH s206.heap) : nrun [⟨214, s214, fun x h => g214 x.2.1 x.2.2.1 x.2.2.2.1 x.2.2.2.2.1.1.1 h.1⟩] L n206 s206 x h = F206 L g214 x.2.1 x.2.2.1 x.2.2.2.1 x.2.2.2.2.1.1.1 h.1 := by kernel_rfl
def f206 : Int → Int → Int → (List (Int × (Int × Int))) → (List Int) → Option (Unit × ((List Int) × Unit)) := F206 (@LN LOOPS) f214
@[reducible] def t206 : Ent := ⟨206, s206, fun x h => f206 x.2.1 x.2.2.1 x.2.2.2.1 x.2.2.2.2.1.1.1 h.1⟩
theorem k206 : chkNF Try.prog Try.f206 n206 = true := by kernel_rfl
theorem ok206 : NOk Try.prog t206 := NOk.body (T := [t214]) mixed (nall_cons ok214 nall_nil) (oneEach_of (by kernel_rfl)) Try.func206 k206 (by kernel_rfl) (fun x h => e206 _ _ x h)
/- slices.symMergeCmpFunc[int] -/
def n189 : NFunc := ⟨220, .seq (.join [0, 2, 4, 1, 3] [] ⟨[(0, (.slw 0 1)), (1, (.v (.int .i64))), (2, (.v (.int .i64))), (3, (.v (.int .i64))), (4, (.fn 125 (.cons (.iptr (.cons (.v (.list (.pair (.int .i64) (.pair (.int .i64) (.int .i64))))) .nil) 0) .nil)))], [], [.typed (.int .i64)]⟩ (.seq (.region 0 [
    ⟨(some 25), .move (.tmp 2), none, 0, none⟩,
    ⟨(some 26), .move (.tmp 1), none, 0, none⟩,
    ⟨(some 27), .bin .sub (.tmp 25) (.tmp 26), none, 0, none⟩,
    ⟨(some 28), .bin .eql (.tmp 27) (.const (.int .i64 (1))), none, 0, none⟩] []) (.cond (.tmp 28) (.seq (.region 0 [
    ⟨(some 29), .move (.tmp 2), none, 0, none⟩,
    ⟨(some 10), .move (.tmp 29), none, 0, none⟩] []) (.seq (.region 0 [
    ⟨(some 30), .move (.tmp 3), none, 0, none⟩,
    ⟨(some 11), .move (.tmp 30), none, 0, none⟩] []) (.seq (.block 0 (.loop [0, 1, 4, 10, 11] ⟨[(0, (.slw 0 1)), (10, (.v (.int .i64))), (11, (.v (.int .i64)))], [1, 4], [.typed (.int .i64)]⟩ (.seq (.seq (.region 0 [
    ⟨(some 31), .move (.tmp 10), none, 0, none⟩,
    ⟨(some 32), .move (.tmp 11), none, 0, none⟩,
    ⟨(some 33), .bin .lss (.tmp 31) (.tmp 32), none, 0, none⟩] []) (.cond (.tmp 33) (.skip) (.exit 0))) (.block 1 (.seq (.region 0 [
    ⟨(some 34), .move (.tmp 10), none, 0, none⟩,
    ⟨(some 35), .move (.tmp 11), none, 0, none⟩,
    ⟨(some 36), .bin .add (.tmp 34) (.tmp 35), none, 0, none⟩,
    ⟨(some 37), .conv .u64 (.tmp 36), none, 0, none⟩,
    ⟨(some 38), .bin .shr (.tmp 37) (.const (.int .u64 (1))), none, 0, none⟩,
    ⟨(some 39), .conv .i64 (.tmp 38), none, 0, none⟩,
    ⟨(some 12), .move (.tmp 39), none, 0, none⟩] []) (.seq (.region 4 [
    ⟨(some 40), .move (.tmp 4), none, 0, (some ([], none))⟩,
    ⟨(some 41), .move (.tmp 0), none, 0, (some ([], none))⟩,
    ⟨(some 42), .move (.tmp 12), none, 0, (some ([], none))⟩,
    ⟨(some 43), .indexSl 1 (.tmp 41) (.tmp 42), none, 0, (some ([], none))⟩,
    ⟨(some 44), .load false 1 (.tmp 43), none, 0, (some ([], none))⟩,
    ⟨(some 45), .move (.tmp 0), none, 0, (some ([], none))⟩,
    ⟨(some 46), .move (.tmp 1), none, 0, (some ([], none))⟩,
    ⟨(some 47), .indexSl 1 (.tmp 45) (.tmp 46), none, 0, (some ([], none))⟩,
    ⟨(some 48), .load false 1 (.tmp 47), none, 0, (some ([], none))⟩,
    ⟨(some 49), .call (.tmp 40) [(false, (.tmp 44)), (false, (.tmp 48))] false 4, none, 0, (some ([], none))⟩,
    ⟨(some 50), .bin .lss (.tmp 49) (.const (.int .i64 (0))), none, 4, (some ([0, 1, 2, 3], none))⟩] []) (.cond (.tmp 50) (.region 0 [
    ⟨(some 51), .move (.tmp 12), none, 0, none⟩,
    ⟨(some 52), .bin .add (.tmp 51) (.const (.int .i64 (1))), none, 0, none⟩,
    ⟨(some 10), .move (.tmp 52), none, 0, none⟩] []) (.region 0 [
    ⟨(some 53), .move (.tmp 12), none, 0, none⟩,
    ⟨(some 11), .move (.tmp 53), none, 0, none⟩] [])))))))) (.seq (.seq (.region 0 [
    ⟨(some 54), .move (.tmp 1), none, 0, none⟩,
    ⟨(some 13), .move (.tmp 54), none, 0, none⟩] []) (.block 2 (.loop [0, 10, 13] ⟨[(0, (.slw 0 1)), (13, (.v (.int .i64)))], [10], [.typed (.int .i64)]⟩ (.seq (.seq (.region 0 [
    ⟨(some 55), .move (.tmp 13), none, 0, none⟩,
    ⟨(some 56), .move (.tmp 10), none, 0, none⟩,
    ⟨(some 57), .bin .sub (.tmp 56) (.const (.int .i64 (1))), none, 0, none⟩,
    ⟨(some 58), .bin .lss (.tmp 55) (.tmp 57), none, 0, none⟩] []) (.cond (.tmp 58) (.skip) (.exit 2))) (.seq (.block 3 (.region 0 [
    ⟨(some 61), .move (.tmp 0), none, 0, (some ([], none))⟩,
    ⟨(some 62), .move (.tmp 13), none, 0, (some ([], none))⟩,
    ⟨(some 63), .move (.tmp 0), none, 0, (some ([], none))⟩,
    ⟨(some 64), .move (.tmp 13), none, 0, (some ([], none))⟩,
    ⟨(some 65), .bin .add (.tmp 64) (.const (.int .i64 (1))), none, 0, (some ([], none))⟩,
    ⟨(some 66), .move (.tmp 0), none, 0, (some ([], none))⟩,
    ⟨(some 67), .move (.tmp 13), none, 0, (some ([], none))⟩,
    ⟨(some 68), .bin .add (.tmp 67) (.const (.int .i64 (1))), none, 0, (some ([], none))⟩,
    ⟨(some 69), .indexSl 1 (.tmp 66) (.tmp 68), none, 0, (some ([], none))⟩,
    ⟨(some 70), .load false 1 (.tmp 69), none, 0, (some ([], none))⟩,
    ⟨(some 71), .move (.tmp 0), none, 0, (some ([], none))⟩,
    ⟨(some 72), .move (.tmp 13), none, 0, (some ([], none))⟩,
    ⟨(some 73), .indexSl 1 (.tmp 71) (.tmp 72), none, 0, (some ([], none))⟩,
    ⟨(some 74), .load false 1 (.tmp 73), none, 0, (some ([], none))⟩,
    ⟨(some 75), .indexSl 1 (.tmp 61) (.tmp 62), none, 0, (some ([], none))⟩,
    ⟨none, .store 1 (.tmp 75) (.tmp 70), none, 0, (some ([], none))⟩,
    ⟨(some 76), .indexSl 1 (.tmp 63) (.tmp 65), none, 0, (some ([], none))⟩,
    ⟨none, .store 1 (.tmp 76) (.tmp 74), none, 0, (some ([], none))⟩] [])) (.region 0 [
    ⟨(some 59), .move (.tmp 13), none, 0, none⟩,
    ⟨(some 60), .bin .add (.tmp 59) (.const (.int .i64 (1))), none, 0, none⟩,
    ⟨(some 13), .move (.tmp 60), none, 0, none⟩] [])))))) (.ret))))) (.skip)))) (.seq (.join [0, 1, 2, 3, 4] [] ⟨[(0, (.slw 0 1)), (1, (.v (.int .i64))), (2, (.v (.int .i64))), (3, (.v (.int .i64))), (4, (.fn 125 (.cons (.iptr (.cons (.v (.list (.pair (.int .i64) (.pair (.int .i64) (.int .i64))))) .nil) 0) .nil)))], [], [.typed (.int .i64)]⟩ (.seq (.region 0 [
    ⟨(some 77), .move (.tmp 3), none, 0, none⟩,
    ⟨(some 78), .move (.tmp 2), none, 0, none⟩,
    ⟨(some 79), .bin .sub (.tmp 77) (.tmp 78), none, 0, none⟩,
    ⟨(some 80), .bin .eql (.tmp 79) (.const (.int .i64 (1))), none, 0, none⟩] []) (.cond (.tmp 80) (.seq (.region 0 [
    ⟨(some 81), .move (.tmp 1), none, 0, none⟩,
    ⟨(some 14), .move (.tmp 81), none, 0, none⟩] []) (.seq (.region 0 [
    ⟨(some 82), .move (.tmp 2), none, 0, none⟩,
    ⟨(some 15), .move (.tmp 82), none, 0, none⟩] []) (.seq (.block 4 (.loop [0, 2, 4, 14, 15] ⟨[(0, (.slw 0 1)), (14, (.v (.int .i64))), (15, (.v (.int .i64)))], [2, 4], [.typed (.int .i64)]⟩ (.seq (.seq (.region 0 [
    ⟨(some 83), .move (.tmp 14), none, 0, none⟩,
    ⟨(some 84), .move (.tmp 15), none, 0, none⟩,
    ⟨(some 85), .bin .lss (.tmp 83) (.tmp 84), none, 0, none⟩] []) (.cond (.tmp 85) (.skip) (.exit 4))) (.block 5 (.seq (.region 0 [
    ⟨(some 86), .move (.tmp 14), none, 0, none⟩,
    ⟨(some 87), .move (.tmp 15), none, 0, none⟩,
    ⟨(some 88), .bin .add (.tmp 86) (.tmp 87), none, 0, none⟩,
    ⟨(some 89), .conv .u64 (.tmp 88), none, 0, none⟩,
    ⟨(some 90), .bin .shr (.tmp 89) (.const (.int .u64 (1))), none, 0, none⟩,
    ⟨(some 91), .conv .i64 (.tmp 90), none, 0, none⟩,
    ⟨(some 16), .move (.tmp 91), none, 0, none⟩] []) (.seq (.region 4 [
    ⟨(some 92), .move (.tmp 4), none, 0, (some ([], none))⟩,
    ⟨(some 93), .move (.tmp 0), none, 0, (some ([], none))⟩,
    ⟨(some 94), .move (.tmp 2), none, 0, (some ([], none))⟩,
    ⟨(some 95), .indexSl 1 (.tmp 93) (.tmp 94), none, 0, (some ([], none))⟩,
    ⟨(some 96), .load false 1 (.tmp 95), none, 0, (some ([], none))⟩,
    ⟨(some 97), .move (.tmp 0), none, 0, (some ([], none))⟩,
    ⟨(some 98), .move (.tmp 16), none, 0, (some ([], none))⟩,
    ⟨(some 99), .indexSl 1 (.tmp 97) (.tmp 98), none, 0, (some ([], none))⟩,
    ⟨(some 100), .load false 1 (.tmp 99), none, 0, (some ([], none))⟩,
    ⟨(some 101), .call (.tmp 92) [(false, (.tmp 96)), (false, (.tmp 100))] false 4, none, 0, (some ([], none))⟩,
    ⟨(some 102), .bin .lss (.tmp 101) (.const (.int .i64 (0))), none, 4, (some ([0, 1, 2, 3], none))⟩,
    ⟨(some 103), .un .not (.tmp 102), none, 4, (some ([0, 1, 2, 3], none))⟩] []) (.cond (.tmp 103) (.region 0 [
    ⟨(some 104), .move (.tmp 16), none, 0, none⟩,
    ⟨(some 105), .bin .add (.tmp 104) (.const (.int .i64 (1))), none, 0, none⟩,
    ⟨(some 14), .move (.tmp 105), none, 0, none⟩] []) (.region 0 [
    ⟨(some 106), .move (.tmp 16), none, 0, none⟩,
    ⟨(some 15), .move (.tmp 106), none, 0, none⟩] [])))))))) (.seq (.seq (.region 0 [
    ⟨(some 107), .move (.tmp 2), none, 0, none⟩,
    ⟨(some 17), .move (.tmp 107), none, 0, none⟩] []) (.block 6 (.loop [0, 14, 17] ⟨[(0, (.slw 0 1)), (17, (.v (.int .i64)))], [14], [.typed (.int .i64)]⟩ (.seq (.seq (.region 0 [
    ⟨(some 108), .move (.tmp 17), none, 0, none⟩,
    ⟨(some 109), .move (.tmp 14), none, 0, none⟩,
    ⟨(some 110), .bin .gtr (.tmp 108) (.tmp 109), none, 0, none⟩] []) (.cond (.tmp 110) (.skip) (.exit 6))) (.seq (.block 7 (.region 0 [
    ⟨(some 113), .move (.tmp 0), none, 0, (some ([], none))⟩,
    ⟨(some 114), .move (.tmp 17), none, 0, (some ([], none))⟩,
    ⟨(some 115), .move (.tmp 0), none, 0, (some ([], none))⟩,
    ⟨(some 116), .move (.tmp 17), none, 0, (some ([], none))⟩,
    ⟨(some 117), .bin .sub (.tmp 116) (.const (.int .i64 (1))), none, 0, (some ([], none))⟩,
    ⟨(some 118), .move (.tmp 0), none, 0, (some ([], none))⟩,
    ⟨(some 119), .move (.tmp 17), none, 0, (some ([], none))⟩,
    ⟨(some 120), .bin .sub (.tmp 119) (.const (.int .i64 (1))), none, 0, (some ([], none))⟩,
    ⟨(some 121), .indexSl 1 (.tmp 118) (.tmp 120), none, 0, (some ([], none))⟩,
    ⟨(some 122), .load false 1 (.tmp 121), none, 0, (some ([], none))⟩,
    ⟨(some 123), .move (.tmp 0), none, 0, (some ([], none))⟩,
    ⟨(some 124), .move (.tmp 17), none, 0, (some ([], none))⟩,
    ⟨(some 125), .indexSl 1 (.tmp 123) (.tmp 124), none, 0, (some ([], none))⟩,
    ⟨(some 126), .load false 1 (.tmp 125), none, 0, (some ([], none))⟩,
    ⟨(some 127), .indexSl 1 (.tmp 113) (.tmp 114), none, 0, (some ([], none))⟩,
    ⟨none, .store 1 (.tmp 127) (.tmp 122), none, 0, (some ([], none))⟩,
    ⟨(some 128), .indexSl 1 (.tmp 115) (.tmp 117), none, 0, (some ([], none))⟩,
    ⟨none, .store 1 (.tmp 128) (.tmp 126), none, 0, (some ([], none))⟩] [])) (.region 0 [
    ⟨(some 111), .move (.tmp 17), none, 0, none⟩,
    ⟨(some 112), .bin .sub (.tmp 111) (.const (.int .i64 (1))), none, 0, none⟩,
    ⟨(some 17), .move (.tmp 112), none, 0, none⟩] [])))))) (.ret))))) (.skip)))) (.seq (.region 0 [
    ⟨(some 129), .move (.tmp 1), none, 0, none⟩,
    ⟨(some 130), .move (.tmp 3), none, 0, none⟩,
    ⟨(some 131), .bin .add (.tmp 129) (.tmp 130), none, 0, none⟩,
    ⟨(some 132), .conv .u64 (.tmp 131), none, 0, none⟩,
    ⟨(some 133), .bin .shr (.tmp 132) (.const (.int .u64 (1))), none, 0, none⟩,
    ⟨(some 134), .conv .i64 (.tmp 133), none, 0, none⟩,
    ⟨(some 18), .move (.tmp 134), none, 0, none⟩] []) (.seq (.region 0 [
    ⟨(some 135), .move (.tmp 18), none, 0, none⟩,
    ⟨(some 136), .move (.tmp 2), none, 0, none⟩,
    ⟨(some 137), .bin .add (.tmp 135) (.tmp 136), none, 0, none⟩,
    ⟨(some 19), .move (.tmp 137), none, 0, none⟩] []) (.seq (.region 0 [
    ⟨(some 20), .move (.const (.int .i64 (0))), none, 0, none⟩,
    ⟨(some 21), .move (.const (.int .i64 (0))), none, 0, none⟩] []) (.seq (.meet [0, 1, 2, 3, 4, 18, 19, 20, 21] [] ⟨[(0, (.slw 0 1)), (20, (.v (.int .i64))), (21, (.v (.int .i64)))], [1, 2, 3, 4, 18, 19], [.typed (.int .i64)]⟩ (.seq (.region 0 [
    ⟨(some 138), .move (.tmp 2), none, 0, none⟩,
    ⟨(some 139), .move (.tmp 18), none, 0, none⟩,
    ⟨(some 140), .bin .gtr (.tmp 138) (.tmp 139), none, 0, none⟩] []) (.cond (.tmp 140) (.seq (.region 0 [
    ⟨(some 141), .move (.tmp 19), none, 0, none⟩,
    ⟨(some 142), .move (.tmp 3), none, 0, none⟩,
    ⟨(some 143), .bin .sub (.tmp 141) (.tmp 142), none, 0, none⟩,
    ⟨(some 20), .move (.tmp 143), none, 0, none⟩] []) (.region 0 [
    ⟨(some 144), .move (.tmp 18), none, 0, none⟩,
    ⟨(some 21), .move (.tmp 144), none, 0, none⟩] [])) (.seq (.region 0 [
    ⟨(some 145), .move (.tmp 1), none, 0, none⟩,
    ⟨(some 20), .move (.tmp 145), none, 0, none⟩] []) (.region 0 [
    ⟨(some 146), .move (.tmp 2), none, 0, none⟩,
    ⟨(some 21), .move (.tmp 146), none, 0, none⟩] []))))) (.seq (.region 0 [
    ⟨(some 147), .move (.tmp 19), none, 0, none⟩,
    ⟨(some 148), .bin .sub (.tmp 147) (.const (.int .i64 (1))), none, 0, none⟩,
    ⟨(some 22), .move (.tmp 148), none, 0, none⟩] []) (.seq (.block 8 (.loop [0, 1, 2, 3, 4, 18, 19, 20, 21, 22] ⟨[(0, (.slw 0 1)), (20, (.v (.int .i64))), (21, (.v (.int .i64)))], [1, 2, 3, 4, 18, 19, 22], [.typed (.int .i64)]⟩ (.seq (.seq (.region 0 [
    ⟨(some 149), .move (.tmp 20), none, 0, none⟩,
    ⟨(some 150), .move (.tmp 21), none, 0, none⟩,
    ⟨(some 151), .bin .lss (.tmp 149) (.tmp 150), none, 0, none⟩] []) (.cond (.tmp 151) (.skip) (.exit 8))) (.block 9 (.seq (.region 0 [
    ⟨(some 152), .move (.tmp 20), none, 0, none⟩,
    ⟨(some 153), .move (.tmp 21), none, 0, none⟩,
    ⟨(some 154), .bin .add (.tmp 152) (.tmp 153), none, 0, none⟩,
    ⟨(some 155), .conv .u64 (.tmp 154), none, 0, none⟩,
    ⟨(some 156), .bin .shr (.tmp 155) (.const (.int .u64 (1))), none, 0, none⟩,
    ⟨(some 157), .conv .i64 (.tmp 156), none, 0, none⟩,
    ⟨(some 23), .move (.tmp 157), none, 0, none⟩] []) (.seq (.region 4 [
    ⟨(some 158), .move (.tmp 4), none, 0, (some ([], none))⟩,
    ⟨(some 159), .move (.tmp 0), none, 0, (some ([], none))⟩,
    ⟨(some 160), .move (.tmp 22), none, 0, (some ([], none))⟩,
    ⟨(some 161), .move (.tmp 23), none, 0, (some ([], none))⟩,
    ⟨(some 162), .bin .sub (.tmp 160) (.tmp 161), none, 0, (some ([], none))⟩,
    ⟨(some 163), .indexSl 1 (.tmp 159) (.tmp 162), none, 0, (some ([], none))⟩,
    ⟨(some 164), .load false 1 (.tmp 163), none, 0, (some ([], none))⟩,
    ⟨(some 165), .move (.tmp 0), none, 0, (some ([], none))⟩,
    ⟨(some 166), .move (.tmp 23), none, 0, (some ([], none))⟩,
    ⟨(some 167), .indexSl 1 (.tmp 165) (.tmp 166), none, 0, (some ([], none))⟩,
    ⟨(some 168), .load false 1 (.tmp 167), none, 0, (some ([], none))⟩,
    ⟨(some 169), .call (.tmp 158) [(false, (.tmp 164)), (false, (.tmp 168))] false 4, none, 0, (some ([], none))⟩,
    ⟨(some 170), .bin .lss (.tmp 169) (.const (.int .i64 (0))), none, 4, (some ([0, 1, 2, 3], none))⟩,
    ⟨(some 171), .un .not (.tmp 170), none, 4, (some ([0, 1, 2, 3], none))⟩] []) (.cond (.tmp 171) (.region 0 [
    ⟨(some 172), .move (.tmp 23), none, 0, none⟩,
    ⟨(some 173), .bin .add (.tmp 172) (.const (.int .i64 (1))), none, 0, none⟩,
    ⟨(some 20), .move (.tmp 173), none, 0, none⟩] []) (.region 0 [
    ⟨(some 174), .move (.tmp 23), none, 0, none⟩,
    ⟨(some 21), .move (.tmp 174), none, 0, none⟩] [])))))))) (.seq (.region 0 [
    ⟨(some 175), .move (.tmp 19), none, 0, none⟩,
    ⟨(some 176), .move (.tmp 20), none, 0, none⟩,
    ⟨(some 177), .bin .sub (.tmp 175) (.tmp 176), none, 0, none⟩,
    ⟨(some 24), .move (.tmp 177), none, 0, none⟩] []) (.seq (.meet [4, 3, 24, 18, 0, 20, 1] [] ⟨[(0, (.slw 0 1))], [1, 3, 4, 18, 20, 24], [.typed (.int .i64)]⟩ (.seq (.region 0 [
    ⟨(some 178), .move (.tmp 20), none, 0, none⟩,
    ⟨(some 179), .move (.tmp 2), none, 0, none⟩,
    ⟨(some 180), .bin .lss (.tmp 178) (.tmp 179), none, 0, none⟩,
    ⟨(some 181), .move (.tmp 180), none, 0, none⟩,
    ⟨(some 182), .move (.tmp 2), (some (181, true)), 0, none⟩,
    ⟨(some 183), .move (.tmp 24), (some (181, true)), 0, none⟩,
    ⟨(some 184), .bin .lss (.tmp 182) (.tmp 183), (some (181, true)), 0, none⟩,
    ⟨(some 185), .pick (.tmp 181) (.tmp 184) (.const (.bool false)), none, 0, none⟩] []) (.cond (.tmp 185) (.region 4 [
    ⟨(some 186), .move (.tmp 0), none, 0, none⟩,
    ⟨(some 187), .move (.tmp 20), none, 0, none⟩,
    ⟨(some 188), .move (.tmp 2), none, 0, none⟩,
    ⟨(some 189), .move (.tmp 24), none, 0, none⟩,
    ⟨(some 190), .move (.tmp 4), none, 0, none⟩,
    ⟨(some 191), .call (.func 206) [(true, (.tmp 186)), (false, (.tmp 187)), (false, (.tmp 188)), (false, (.tmp 189)), (false, (.tmp 190))] false 4, none, 0, none⟩] []) (.skip)))) (.seq (.seq (.region 0 [
    ⟨(some 192), .move (.tmp 1), none, 0, none⟩,
    ⟨(some 193), .move (.tmp 20), none, 0, none⟩,
    ⟨(some 194), .bin .lss (.tmp 192) (.tmp 193), none, 0, none⟩,
    ⟨(some 195), .move (.tmp 194), none, 0, none⟩,
    ⟨(some 196), .move (.tmp 20), (some (195, true)), 0, none⟩,
    ⟨(some 197), .move (.tmp 18), (some (195, true)), 0, none⟩,
    ⟨(some 198), .bin .lss (.tmp 196) (.tmp 197), (some (195, true)), 0, none⟩,
    ⟨(some 199), .pick (.tmp 195) (.tmp 198) (.const (.bool false)), none, 0, none⟩] []) (.cond (.tmp 199) (.region 4 [
    ⟨(some 200), .move (.tmp 0), none, 0, none⟩,
    ⟨(some 201), .move (.tmp 1), none, 0, none⟩,
    ⟨(some 202), .move (.tmp 20), none, 0, none⟩,
    ⟨(some 203), .move (.tmp 18), none, 0, none⟩,
    ⟨(some 204), .move (.tmp 4), none, 0, none⟩,
    ⟨(some 205), .call (.func 189) [(true, (.tmp 200)), (false, (.tmp 201)), (false, (.tmp 202)), (false, (.tmp 203)), (false, (.tmp 204))] false 4, none, 0, none⟩] []) (.skip))) (.seq (.region 0 [
    ⟨(some 206), .move (.tmp 18), none, 0, none⟩,
    ⟨(some 207), .move (.tmp 24), none, 0, none⟩,
    ⟨(some 208), .bin .lss (.tmp 206) (.tmp 207), none, 0, none⟩,
    ⟨(some 209), .move (.tmp 208), none, 0, none⟩,
    ⟨(some 210), .move (.tmp 24), (some (209, true)), 0, none⟩,
    ⟨(some 211), .move (.tmp 3), (some (209, true)), 0, none⟩,
    ⟨(some 212), .bin .lss (.tmp 210) (.tmp 211), (some (209, true)), 0, none⟩,
    ⟨(some 213), .pick (.tmp 209) (.tmp 212) (.const (.bool false)), none, 0, none⟩] []) (.cond (.tmp 213) (.region 4 [
    ⟨(some 214), .move (.tmp 0), none, 0, none⟩,
    ⟨(some 215), .move (.tmp 18), none, 0, none⟩,
    ⟨(some 216), .move (.tmp 24), none, 0, none⟩,
    ⟨(some 217), .move (.tmp 3), none, 0, none⟩,
    ⟨(some 218), .move (.tmp 4), none, 0, none⟩,
    ⟨(some 219), .call (.func 189) [(true, (.tmp 214)), (false, (.tmp 215)), (false, (.tmp 216)), (false, (.tmp 217)), (false, (.tmp 218))] false 4, none, 0, none⟩] []) (.skip))))))))))))), [], false⟩
def s189 : Sig := ⟨(.cons (.slw 0 1) (.cons (.v (.int .i64)) (.cons (.v (.int .i64)) (.cons (.v (.int .i64)) (.cons (.fn 125 (.cons (.iptr (.cons (.v (.list (.pair (.int .i64) (.pair (.int .i64) (.int .i64))))) .nil) 0) .nil)) .nil))))), [.typed (.int .i64)], ((.tup .nil), [.typed (.int .i64)]), []⟩
def l189_0 (i7 : Int) (nx15 : ((Unit × (Int × Unit)) × ((List Int) × Unit)) → Option (((Unit × (Int × (Int × (Int × ((((List (Int × (Int × Int))) × Unit) × Unit) × Unit))))) × ((List Int) × Unit)) ⊕ (Unit × ((List Int) × Unit)))) (zk16 : Int) (z17 : (List Int)) : Option (((Unit × (Int × (Int × (Int × ((((List (Int × (Int × Int))) × Unit) × Unit) × Unit))))) × ((List Int) × Unit)) ⊕ (Unit × ((List Int) × Unit))) :=
  cond (decide (zk16 < (IntKind.wrap .i64 (i7 - 1))))
  (cond (decide (0 ≤ (IntKind.wrap .i64 (zk16 + 1))))
  (cond (decide ((Int.toNat (IntKind.wrap .i64 (zk16 + 1))) < (List.length z17)))
  (Option.bind (z17[Int.toNat (IntKind.wrap .i64 (zk16 + 1))]?) fun y18 =>
  cond (decide (0 ≤ zk16))
  (cond (decide ((Int.toNat zk16) < (List.length z17)))
  (Option.bind (z17[Int.toNat zk16]?) fun y19 =>
  cond (decide (0 ≤ zk16))
  (cond (decide ((Int.toNat zk16) < (List.length z17)))
  (Option.bind (z17[Int.toNat zk16]?) fun y20 =>
  cond (decide (0 ≤ (IntKind.wrap .i64 (zk16 + 1))))
  (cond (decide ((Int.toNat (IntKind.wrap .i64 (zk16 + 1))) < (List.length (List.set z17 (Int.toNat zk16) y18))))
  (Option.bind ((List.set z17 (Int.toNat zk16) y18)[Int.toNat (IntKind.wrap .i64 (zk16 + 1))]?) fun y21 =>
  nx15 (((), IntKind.wrap .i64 (zk16 + 1), ()), (List.set (List.set z17 (Int.toNat zk16) y18) (Int.toNat (IntKind.wrap .i64 (zk16 + 1))) y19, ())))
  (none))
  (none))
  (none))
  (none))
  (none))
  (none))
  (none))
  (none))
  (some (.inr ((), (z17, ()))))
def l189_1 (L : Lp) (g125 : Int → Int → (List (Int × (Int × Int))) → Option Int) (a0 : Int) (cmp3 : (List (Int × (Int × Int)))) (nx6 : ((Unit × (Int × (Int × Unit))) × ((List Int) × Unit)) → Option (((Unit × (Int × (Int × (Int × ((((List (Int × (Int × Int))) × Unit) × Unit) × Unit))))) × ((List Int) × Unit)) ⊕ (Unit × ((List Int) × Unit)))) (i7 : Int) (j8 : Int) (z9 : (List Int)) : Option (((Unit × (Int × (Int × (Int × ((((List (Int × (Int × Int))) × Unit) × Unit) × Unit))))) × ((List Int) × Unit)) ⊕ (Unit × ((List Int) × Unit))) :=
  cond (decide (i7 < j8))
  (let v10 := Int.fdiv (IntKind.wrap .u64 (IntKind.wrap .i64 (i7 + j8))) (2 ^ (min (Int.toNat 1) 64))
  cond (decide (0 ≤ (IntKind.wrap .i64 (v10))))
  (cond (decide ((Int.toNat (IntKind.wrap .i64 (v10))) < (List.length z9)))
  (Option.bind (z9[Int.toNat (IntKind.wrap .i64 (v10))]?) fun y11 =>
  cond (decide (0 ≤ a0))
  (cond (decide ((Int.toNat a0) < (List.length z9)))
  (Option.bind (z9[Int.toNat a0]?) fun y12 =>
  Option.bind (g125 y11 y12 cmp3) fun r13 =>
  cond (decide (r13 < 0))
  (nx6 (((), IntKind.wrap .i64 ((IntKind.wrap .i64 (v10)) + 1), j8, ()), (z9, ())))
  (nx6 (((), i7, IntKind.wrap .i64 (v10), ()), (z9, ()))))
  (none))
  (none))
  (none))
  (none))
  (L (fun (s14 : ((Unit × (Int × Unit)) × ((List Int) × Unit))) nx15 => l189_0 i7 nx15 s14.1.2.1 s14.2.1) (((), a0, ()), (z9, ())))
def l189_2 (i25 : Int) (nx33 : ((Unit × (Int × Unit)) × ((List Int) × Unit)) → Option (((Unit × (Int × (Int × (Int × ((((List (Int × (Int × Int))) × Unit) × Unit) × Unit))))) × ((List Int) × Unit)) ⊕ (Unit × ((List Int) × Unit)))) (zk34 : Int) (z35 : (List Int)) : Option (((Unit × (Int × (Int × (Int × ((((List (Int × (Int × Int))) × Unit) × Unit) × Unit))))) × ((List Int) × Unit)) ⊕ (Unit × ((List Int) × Unit))) :=
  cond (decide (i25 < zk34))
  (cond (decide (0 ≤ (IntKind.wrap .i64 (zk34 - 1))))
  (cond (decide ((Int.toNat (IntKind.wrap .i64 (zk34 - 1))) < (List.length z35)))
  (Option.bind (z35[Int.toNat (IntKind.wrap .i64 (zk34 - 1))]?) fun y36 =>
  cond (decide (0 ≤ zk34))
  (cond (decide ((Int.toNat zk34) < (List.length z35)))
  (Option.bind (z35[Int.toNat zk34]?) fun y37 =>
  cond (decide (0 ≤ zk34))
  (cond (decide ((Int.toNat zk34) < (List.length z35)))
  (Option.bind (z35[Int.toNat zk34]?) fun y38 =>
  cond (decide (0 ≤ (IntKind.wrap .i64 (zk34 - 1))))
  (cond (decide ((Int.toNat (IntKind.wrap .i64 (zk34 - 1))) < (List.length (List.set z35 (Int.toNat zk34) y36))))
  (Option.bind ((List.set z35 (Int.toNat zk34) y36)[Int.toNat (IntKind.wrap .i64 (zk34 - 1))]?) fun y39 =>
  nx33 (((), IntKind.wrap .i64 (zk34 - 1), ()), (List.set (List.set z35 (Int.toNat zk34) y36) (Int.toNat (IntKind.wrap .i64 (zk34 - 1))) y37, ())))
  (none))
  (none))
  (none))
  (none))
  (none))
  (none))
  (none))
  (none))
  (some (.inr ((), (z35, ()))))
def l189_3 (L : Lp) (g125 : Int → Int → (List (Int × (Int × Int))) → Option Int) (x22 : ((Unit × (Int × (Int × (Int × ((((List (Int × (Int × Int))) × Unit) × Unit) × Unit))))) × ((List Int) × Unit))) (nx24 : ((Unit × (Int × (Int × Unit))) × ((List Int) × Unit)) → Option (((Unit × (Int × (Int × (Int × ((((List (Int × (Int × Int))) × Unit) × Unit) × Unit))))) × ((List Int) × Unit)) ⊕ (Unit × ((List Int) × Unit)))) (i25 : Int) (j26 : Int) (z27 : (List Int)) : Option (((Unit × (Int × (Int × (Int × ((((List (Int × (Int × Int))) × Unit) × Unit) × Unit))))) × ((List Int) × Unit)) ⊕ (Unit × ((List Int) × Unit))) :=
  cond (decide (i25 < j26))
  (let v28 := Int.fdiv (IntKind.wrap .u64 (IntKind.wrap .i64 (i25 + j26))) (2 ^ (min (Int.toNat 1) 64))
  cond (decide (0 ≤ x22.1.2.2.1))
  (cond (decide ((Int.toNat x22.1.2.2.1) < (List.length z27)))
  (Option.bind (z27[Int.toNat x22.1.2.2.1]?) fun y29 =>
  cond (decide (0 ≤ (IntKind.wrap .i64 (v28))))
  (cond (decide ((Int.toNat (IntKind.wrap .i64 (v28))) < (List.length z27)))
  (Option.bind (z27[Int.toNat (IntKind.wrap .i64 (v28))]?) fun y30 =>
  Option.bind (g125 y29 y30 x22.1.2.2.2.2.1.1.1) fun r31 =>
  cond (!(decide (r31 < 0)))
  (nx24 (((), IntKind.wrap .i64 ((IntKind.wrap .i64 (v28)) + 1), j26, ()), (z27, ())))
  (nx24 (((), i25, IntKind.wrap .i64 (v28), ()), (z27, ()))))
  (none))
  (none))
  (none))
  (none))
  (L (fun (s32 : ((Unit × (Int × Unit)) × ((List Int) × Unit))) nx33 => l189_2 i25 nx33 s32.1.2.1 s32.2.1) (((), x22.1.2.2.1, ()), (z27, ())))
def l189_4 (g125 : Int → Int → (List (Int × (Int × Int))) → Option Int) (g206 : Int → Int → Int → (List (Int × (Int × Int))) → (List Int) → Option (Unit × ((List Int) × Unit))) (g189 : Int → Int → Int → (List (Int × (Int × Int))) → (List Int) → Option (Unit × ((List Int) × Unit))) (x40 : ((Unit × (Int × (Int × (Int × ((((List (Int × (Int × Int))) × Unit) × Unit) × Unit))))) × ((List Int) × Unit))) (v41 : Int) (v44 : Int) (nx46 : ((Unit × (Int × (Int × Unit))) × ((List Int) × Unit)) → Option (Unit × ((List Int) × Unit))) (start47 : Int) (zr48 : Int) (z49 : (List Int)) : Option (Unit × ((List Int) × Unit)) :=
  cond (decide (start47 < zr48))
  (let v50 := Int.fdiv (IntKind.wrap .u64 (IntKind.wrap .i64 (start47 + zr48))) (2 ^ (min (Int.toNat 1) 64))
  cond (decide (0 ≤ (IntKind.wrap .i64 (v44 - (IntKind.wrap .i64 (v50))))))
  (cond (decide ((Int.toNat (IntKind.wrap .i64 (v44 - (IntKind.wrap .i64 (v50))))) < (List.length z49)))
  (Option.bind (z49[Int.toNat (IntKind.wrap .i64 (v44 - (IntKind.wrap .i64 (v50))))]?) fun y51 =>
  cond (decide (0 ≤ (IntKind.wrap .i64 (v50))))
  (cond (decide ((Int.toNat (IntKind.wrap .i64 (v50))) < (List.length z49)))
  (Option.bind (z49[Int.toNat (IntKind.wrap .i64 (v50))]?) fun y52 =>
  Option.bind (g125 y51 y52 x40.1.2.2.2.2.1.1.1) fun r53 =>
  cond (!(decide (r53 < 0)))
  (nx46 (((), IntKind.wrap .i64 ((IntKind.wrap .i64 (v50)) + 1), zr48, ()), (z49, ())))
  (nx46 (((), start47, IntKind.wrap .i64 (v50), ()), (z49, ()))))
  (none))
  (none))
  (none))
  (none))
  (let v54 := IntKind.wrap .i64 ((IntKind.wrap .i64 ((IntKind.wrap .i64 (v41)) + x40.1.2.2.1)) - start47)
  Option.bind (α := ((Unit × Unit) × ((List Int) × Unit)))
  (cond (decide (start47 < x40.1.2.2.1))
  (cond (decide (x40.1.2.2.1 < v54))
  (Option.bind (g206 start47 x40.1.2.2.1 v54 x40.1.2.2.2.2.1.1.1 z49) fun r55 =>
  cond ((decide ((List.length r55.2.1) = (List.length z49))) && true)
  (some (((), ()), (r55.2.1, ())))
  (none))
  (some (((), ()), (z49, ()))))
  (some (((), ()), (z49, ())))) fun x56 =>
  cond (decide (x40.1.2.1 < start47))
  (cond (decide (start47 < (IntKind.wrap .i64 (v41))))
  (Option.bind (g189 x40.1.2.1 start47 (IntKind.wrap .i64 (v41)) x40.1.2.2.2.2.1.1.1 x56.2.1) fun r57 =>
  cond ((decide ((List.length r57.2.1) = (List.length x56.2.1))) && true)
  (cond (decide ((IntKind.wrap .i64 (v41)) < v54))
  (cond (decide (v54 < x40.1.2.2.2.1))
  (Option.bind (g189 (IntKind.wrap .i64 (v41)) v54 x40.1.2.2.2.1 x40.1.2.2.2.2.1.1.1 r57.2.1) fun r58 =>
  cond ((decide ((List.length r58.2.1) = (List.length r57.2.1))) && true)
  (some ((), (r58.2.1, ())))
  (none))
  (some ((), (r57.2.1, ()))))
  (some ((), (r57.2.1, ()))))
  (none))
  (cond (decide ((IntKind.wrap .i64 (v41)) < v54))
  (cond (decide (v54 < x40.1.2.2.2.1))
  (Option.bind (g189 (IntKind.wrap .i64 (v41)) v54 x40.1.2.2.2.1 x40.1.2.2.2.2.1.1.1 x56.2.1) fun r59 =>
  cond ((decide ((List.length r59.2.1) = (List.length x56.2.1))) && true)
  (some ((), (r59.2.1, ())))
  (none))
  (some ((), (x56.2.1, ()))))
  (some ((), (x56.2.1, ())))))
  (cond (decide ((IntKind.wrap .i64 (v41)) < v54))
  (cond (decide (v54 < x40.1.2.2.2.1))
  (Option.bind (g189 (IntKind.wrap .i64 (v41)) v54 x40.1.2.2.2.1 x40.1.2.2.2.2.1.1.1 x56.2.1) fun r60 =>
  cond ((decide ((List.length r60.2.1) = (List.length x56.2.1))) && true)
  (some ((), (r60.2.1, ())))
  (none))
  (some ((), (x56.2.1, ()))))
  (some ((), (x56.2.1, ())))))
def F189 (L : Lp) (g125 : Int → Int → (List (Int × (Int × Int))) → Option Int) (g206 : Int → Int → Int → (List (Int × (Int × Int))) → (List Int) → Option (Unit × ((List Int) × Unit))) (g189 : Int → Int → Int → (List (Int × (Int × Int))) → (List Int) → Option (Unit × ((List Int) × Unit))) (a0 : Int) (m1 : Int) (b2 : Int) (cmp3 : (List (Int × (Int × Int)))) (a4 : (List Int)) : Option (Unit × ((List Int) × Unit)) :=
  Option.bind (α := (((Unit × (Int × (Int × (Int × ((((List (Int × (Int × Int))) × Unit) × Unit) × Unit))))) × ((List Int) × Unit)) ⊕ (Unit × ((List Int) × Unit))))
  (cond (decide ((IntKind.wrap .i64 (m1 - a0)) = 1))
  (L (fun (s5 : ((Unit × (Int × (Int × Unit))) × ((List Int) × Unit))) nx6 => l189_1 L g125 a0 cmp3 nx6 s5.1.2.1 s5.1.2.2.1 s5.2.1) (((), m1, b2, ()), (a4, ())))
  (some (.inl (((), a0, m1, b2, ((cmp3, ()), ()), ()), (a4, ()))))) (Sum.elim (fun x22 =>
  Option.bind (α := (((Unit × (Int × (Int × (Int × ((((List (Int × (Int × Int))) × Unit) × Unit) × Unit))))) × ((List Int) × Unit)) ⊕ (Unit × ((List Int) × Unit))))
  (cond (decide ((IntKind.wrap .i64 (x22.1.2.2.2.1 - x22.1.2.2.1)) = 1))
  (L (fun (s23 : ((Unit × (Int × (Int × Unit))) × ((List Int) × Unit))) nx24 => l189_3 L g125 x22 nx24 s23.1.2.1 s23.1.2.2.1 s23.2.1) (((), x22.1.2.1, x22.1.2.2.1, ()), (x22.2.1, ())))
  (some (.inl (((), x22.1.2.1, x22.1.2.2.1, x22.1.2.2.2.1, ((x22.1.2.2.2.2.1.1.1, ()), ()), ()), (x22.2.1, ()))))) (Sum.elim (fun x40 =>
  let v41 := Int.fdiv (IntKind.wrap .u64 (IntKind.wrap .i64 (x40.1.2.1 + x40.1.2.2.2.1))) (2 ^ (min (Int.toNat 1) 64))
  Option.bind (α := ((Unit × (Int × (Int × Unit))) × ((List Int) × Unit)))
  (cond (decide ((IntKind.wrap .i64 (v41)) < x40.1.2.2.1))
  (let v42 := IntKind.wrap .i64 ((IntKind.wrap .i64 ((IntKind.wrap .i64 (v41)) + x40.1.2.2.1)) - x40.1.2.2.2.1)
  some (((), v42, IntKind.wrap .i64 (v41), ()), (x40.2.1, ())))
  (some (((), x40.1.2.1, x40.1.2.2.1, ()), (x40.2.1, ())))) fun x43 =>
  let v44 := IntKind.wrap .i64 ((IntKind.wrap .i64 ((IntKind.wrap .i64 (v41)) + x40.1.2.2.1)) - 1)
  L (fun (s45 : ((Unit × (Int × (Int × Unit))) × ((List Int) × Unit))) nx46 => l189_4 g125 g206 g189 x40 v41 v44 nx46 s45.1.2.1 s45.1.2.2.1 s45.2.1) (((), x43.1.2.1, x43.1.2.2.1, ()), (x43.2.1, ()))) some)) some)
theorem e189 (L : Lp) (g125 : Int → Int → (List (Int × (Int × Int))) → Option Int) (g206 : Int → Int → Int → (List (Int × (Int × Int))) → (List Int) → Option (Unit × ((List Int) × Unit))) (g189 : Int → Int → Int → (List (Int × (Int × Int))) → (List Int) → Option (Unit × ((List Int) × Unit))) (x : s189.args.den) (h : denH s189.heap) : nrun [⟨125, s125, fun x h => g125 x.1 x.2.1 x.2.2.1.1⟩, ⟨206, s206, fun x h => g206 x.2.1 x.2.2.1 x.2.2.2.1 x.2.2.2.2.1.1.1 h.1⟩, ⟨189, s189, fun x h => g189 x.2.1 x.2.2.1 x.2.2.2.1 x.2.2.2.2.1.1.1 h.1⟩] L n189 s189 x h = F189 L g125 g206 g189 x.2.1 x.2.2.1 x.2.2.2.1 x.2.2.2.2.1.1.1 h.1 := by kernel_rfl
def r189 (n : Nat) : Int → Int → Int → (List (Int × (Int × Int))) → (List Int) → Option (Unit × ((List Int) × Unit)) := fixN (fun g189 => F189 (@LN LOOPS) f125 f206 g189) (fun _ _ _ _ _ => none) n
def f189 : Int → Int → Int → (List (Int × (Int × Int))) → (List Int) → Option (Unit × ((List Int) × Unit)) := r189 RDEEP
@[reducible] def t189 : Ent := ⟨189, s189, fun x h => f189 x.2.1 x.2.2.1 x.2.2.2.1 x.2.2.2.2.1.1.1 h.1⟩
theorem k189 : chkNF Try.prog Try.f189 n189 = true := by kernel_rfl
theorem ok189 : NOk Try.prog t189 := NOk.fix (s := s189) (fun n x h => r189 n x.2.1 x.2.2.1 x.2.2.2.1 x.2.2.2.2.1.1.1 h.1) (enters_of Try.func189 k189) (by kernel_rfl) (fun _ _ => rfl) (fun n hn => NOk.body (T := [t125, t206, ⟨189, s189, fun x h => r189 n x.2.1 x.2.2.1 x.2.2.2.1 x.2.2.2.2.1.1.1 h.1⟩]) mixed (nall_cons ok125 (nall_cons ok206 (nall_cons hn nall_nil))) (oneEach_of (by kernel_rfl)) Try.func189 k189 (by kernel_rfl) (fun x h => e189 _ _ _ _ x h)) RDEEP
/- slices.stableCmpFunc[int] -/
def n160 : NFunc := ⟨63, .seq (.region 0 [
    ⟨(some 6), .move (.const (.int .i64 (20))), none, 0, none⟩] []) (.seq (.region 0 [
    ⟨(some 10), .move (.tmp 6), none, 0, none⟩,
    ⟨(some 7), .move (.const (.int .i64 (0))), none, 0, none⟩,
    ⟨(some 8), .move (.tmp 10), none, 0, none⟩] []) (.seq (.block 0 (.loop [0, 1, 2, 6, 7, 8] ⟨[(0, (.slw 0 1)), (7, (.v (.int .i64))), (8, (.v (.int .i64)))], [1, 2, 6], [.typed (.int .i64)]⟩ (.seq (.seq (.region 0 [
    ⟨(some 11), .move (.tmp 8), none, 0, none⟩,
    ⟨(some 12), .move (.tmp 1), none, 0, none⟩,
    ⟨(some 13), .bin .leq (.tmp 11) (.tmp 12), none, 0, none⟩] []) (.cond (.tmp 13) (.skip) (.exit 0))) (.block 1 (.seq (.region 4 [
    ⟨(some 14), .move (.tmp 0), none, 0, none⟩,
    ⟨(some 15), .move (.tmp 7), none, 0, none⟩,
    ⟨(some 16), .move (.tmp 8), none, 0, none⟩,
    ⟨(some 17), .move (.tmp 2), none, 0, none⟩,
    ⟨(some 18), .call (.func 188) [(true, (.tmp 14)), (false, (.tmp 15)), (false, (.tmp 16)), (false, (.tmp 17))] false 4, none, 0, none⟩] []) (.seq (.region 0 [
    ⟨(some 19), .move (.tmp 8), none, 0, none⟩,
    ⟨(some 7), .move (.tmp 19), none, 0, none⟩] []) (.region 0 [
    ⟨(some 20), .move (.tmp 8), none, 0, none⟩,
    ⟨(some 21), .move (.tmp 6), none, 0, none⟩,
    ⟨(some 22), .bin .add (.tmp 20) (.tmp 21), none, 0, none⟩,
    ⟨(some 8), .move (.tmp 22), none, 0, none⟩] []))))))) (.seq (.region 4 [
    ⟨(some 23), .move (.tmp 0), none, 0, none⟩,
    ⟨(some 24), .move (.tmp 7), none, 0, none⟩,
    ⟨(some 25), .move (.tmp 1), none, 0, none⟩,
    ⟨(some 26), .move (.tmp 2), none, 0, none⟩,
    ⟨(some 27), .call (.func 188) [(true, (.tmp 23)), (false, (.tmp 24)), (false, (.tmp 25)), (false, (.tmp 26))] false 4, none, 0, none⟩] []) (.block 2 (.loop [0, 1, 2, 6] ⟨[(0, (.slw 0 1)), (6, (.v (.int .i64)))], [1, 2], [.typed (.int .i64)]⟩ (.seq (.seq (.region 0 [
    ⟨(some 28), .move (.tmp 6), none, 0, none⟩,
    ⟨(some 29), .move (.tmp 1), none, 0, none⟩,
    ⟨(some 30), .bin .lss (.tmp 28) (.tmp 29), none, 0, none⟩] []) (.cond (.tmp 30) (.skip) (.exit 2))) (.block 3 (.seq (.region 0 [
    ⟨(some 31), .move (.tmp 6), none, 0, none⟩,
    ⟨(some 32), .bin .mul (.const (.int .i64 (2))) (.tmp 31), none, 0, none⟩,
    ⟨(some 7), .move (.const (.int .i64 (0))), none, 0, none⟩,
    ⟨(some 8), .move (.tmp 32), none, 0, none⟩] []) (.seq (.block 4 (.loop [0, 1, 2, 6, 7, 8] ⟨[(0, (.slw 0 1)), (7, (.v (.int .i64))), (8, (.v (.int .i64)))], [1, 2, 6], [.typed (.int .i64)]⟩ (.seq (.seq (.region 0 [
    ⟨(some 33), .move (.tmp 8), none, 0, none⟩,
    ⟨(some 34), .move (.tmp 1), none, 0, none⟩,
    ⟨(some 35), .bin .leq (.tmp 33) (.tmp 34), none, 0, none⟩] []) (.cond (.tmp 35) (.skip) (.exit 4))) (.block 5 (.seq (.region 4 [
    ⟨(some 36), .move (.tmp 0), none, 0, none⟩,
    ⟨(some 37), .move (.tmp 7), none, 0, none⟩,
    ⟨(some 38), .move (.tmp 7), none, 0, none⟩,
    ⟨(some 39), .move (.tmp 6), none, 0, none⟩,
    ⟨(some 40), .bin .add (.tmp 38) (.tmp 39), none, 0, none⟩,
    ⟨(some 41), .move (.tmp 8), none, 0, none⟩,
    ⟨(some 42), .move (.tmp 2), none, 0, none⟩,
    ⟨(some 43), .call (.func 189) [(true, (.tmp 36)), (false, (.tmp 37)), (false, (.tmp 40)), (false, (.tmp 41)), (false, (.tmp 42))] false 4, none, 0, none⟩] []) (.seq (.region 0 [
    ⟨(some 44), .move (.tmp 8), none, 0, none⟩,
    ⟨(some 7), .move (.tmp 44), none, 0, none⟩] []) (.region 0 [
    ⟨(some 45), .move (.tmp 8), none, 0, none⟩,
    ⟨(some 46), .move (.tmp 6), none, 0, none⟩,
    ⟨(some 47), .bin .mul (.const (.int .i64 (2))) (.tmp 46), none, 0, none⟩,
    ⟨(some 48), .bin .add (.tmp 45) (.tmp 47), none, 0, none⟩,
    ⟨(some 8), .move (.tmp 48), none, 0, none⟩] []))))))) (.seq (.seq (.region 0 [
    ⟨(some 49), .move (.tmp 7), none, 0, none⟩,
    ⟨(some 50), .move (.tmp 6), none, 0, none⟩,
    ⟨(some 51), .bin .add (.tmp 49) (.tmp 50), none, 0, none⟩,
    ⟨(some 9), .move (.tmp 51), none, 0, none⟩] []) (.seq (.region 0 [
    ⟨(some 52), .move (.tmp 9), none, 0, none⟩,
    ⟨(some 53), .move (.tmp 1), none, 0, none⟩,
    ⟨(some 54), .bin .lss (.tmp 52) (.tmp 53), none, 0, none⟩] []) (.cond (.tmp 54) (.region 4 [
    ⟨(some 55), .move (.tmp 0), none, 0, none⟩,
    ⟨(some 56), .move (.tmp 7), none, 0, none⟩,
    ⟨(some 57), .move (.tmp 9), none, 0, none⟩,
    ⟨(some 58), .move (.tmp 1), none, 0, none⟩,
    ⟨(some 59), .move (.tmp 2), none, 0, none⟩,
    ⟨(some 60), .call (.func 189) [(true, (.tmp 55)), (false, (.tmp 56)), (false, (.tmp 57)), (false, (.tmp 58)), (false, (.tmp 59))] false 4, none, 0, none⟩] []) (.skip)))) (.region 0 [
    ⟨(some 61), .move (.tmp 6), none, 0, none⟩,
    ⟨(some 62), .bin .mul (.tmp 61) (.const (.int .i64 (2))), none, 0, none⟩,
    ⟨(some 6), .move (.tmp 62), none, 0, none⟩] []))))))))))), [], false⟩
def s160 : Sig := ⟨(.cons (.slw 0 1) (.cons (.v (.int .i64)) (.cons (.fn 125 (.cons (.iptr (.cons (.v (.list (.pair (.int .i64) (.pair (.int .i64) (.int .i64))))) .nil) 0) .nil)) .nil))), [.typed (.int .i64)], ((.tup .nil), [.typed (.int .i64)]), []⟩
def l160_0 (g189 : Int → Int → Int → (List (Int × (Int × Int))) → (List Int) → Option (Unit × ((List Int) × Unit))) (an0 : Int) (cmp1 : (List (Int × (Int × Int)))) (nx11 : (((Unit × (Int × Unit)) × ((List Int) × Unit)) → Option (Unit × ((List Int) × Unit)))) (blockSize12 : Int) (nx15 : ((Unit × (Int × (Int × Unit))) × ((List Int) × Unit)) → Option (Unit × ((List Int) × Unit))) (a16 : Int) (b17 : Int) (z18 : (List Int)) : Option (Unit × ((List Int) × Unit)) :=
  cond (decide (b17 ≤ an0))
  (Option.bind (g189 a16 (IntKind.wrap .i64 (a16 + blockSize12)) b17 cmp1 z18) fun r19 =>
  cond ((decide ((List.length r19.2.1) = (List.length z18))) && true)
  (nx15 (((), b17, IntKind.wrap .i64 (b17 + (IntKind.wrap .i64 (2 * blockSize12))), ()), (r19.2.1, ())))
  (none))
  (cond (decide ((IntKind.wrap .i64 (a16 + blockSize12)) < an0))
  (Option.bind (g189 a16 (IntKind.wrap .i64 (a16 + blockSize12)) an0 cmp1 z18) fun r20 =>
  cond ((decide ((List.length r20.2.1) = (List.length z18))) && true)
  (nx11 (((), IntKind.wrap .i64 (blockSize12 * 2), ()), (r20.2.1, ())))
  (none))
  (nx11 (((), IntKind.wrap .i64 (blockSize12 * 2), ()), (z18, ()))))
def l160_1 (L : Lp) (g189 : Int → Int → Int → (List (Int × (Int × Int))) → (List Int) → Option (Unit × ((List Int) × Unit))) (an0 : Int) (cmp1 : (List (Int × (Int × Int)))) (nx11 : ((Unit × (Int × Unit)) × ((List Int) × Unit)) → Option (Unit × ((List Int) × Unit))) (blockSize12 : Int) (z13 : (List Int)) : Option (Unit × ((List Int) × Unit)) :=
  cond (decide (blockSize12 < an0))
  (L (fun (s14 : ((Unit × (Int × (Int × Unit))) × ((List Int) × Unit))) nx15 => l160_0 g189 an0 cmp1 nx11 blockSize12 nx15 s14.1.2.1 s14.1.2.2.1 s14.2.1) (((), 0, IntKind.wrap .i64 (2 * blockSize12), ()), (z13, ())))
  (some ((), (z13, ())))
def l160_2 (L : Lp) (g188 : Int → Int → (List (Int × (Int × Int))) → (List Int) → Option (Unit × ((List Int) × Unit))) (g189 : Int → Int → Int → (List (Int × (Int × Int))) → (List Int) → Option (Unit × ((List Int) × Unit))) (an0 : Int) (cmp1 : (List (Int × (Int × Int)))) (nx4 : ((Unit × (Int × (Int × Unit))) × ((List Int) × Unit)) → Option (Unit × ((List Int) × Unit))) (a5 : Int) (b6 : Int) (z7 : (List Int)) : Option (Unit × ((List Int) × Unit)) :=
  cond (decide (b6 ≤ an0))
  (Option.bind (g188 a5 b6 cmp1 z7) fun r8 =>
  cond ((decide ((List.length r8.2.1) = (List.length z7))) && true)
  (nx4 (((), b6, IntKind.wrap .i64 (b6 + 20), ()), (r8.2.1, ())))
  (none))
  (Option.bind (g188 a5 an0 cmp1 z7) fun r9 =>
  cond ((decide ((List.length r9.2.1) = (List.length z7))) && true)
  (L (fun (s10 : ((Unit × (Int × Unit)) × ((List Int) × Unit))) nx11 => l160_1 L g189 an0 cmp1 nx11 s10.1.2.1 s10.2.1) (((), 20, ()), (r9.2.1, ())))
  (none))
def F160 (L : Lp) (g188 : Int → Int → (List (Int × (Int × Int))) → (List Int) → Option (Unit × ((List Int) × Unit))) (g189 : Int → Int → Int → (List (Int × (Int × Int))) → (List Int) → Option (Unit × ((List Int) × Unit))) (an0 : Int) (cmp1 : (List (Int × (Int × Int)))) (a2 : (List Int)) : Option (Unit × ((List Int) × Unit)) :=
  L (fun (s3 : ((Unit × (Int × (Int × Unit))) × ((List Int) × Unit))) nx4 => l160_2 L g188 g189 an0 cmp1 nx4 s3.1.2.1 s3.1.2.2.1 s3.2.1) (((), 0, 20, ()), (a2, ()))
theorem e160 (L : Lp) (g188 : Int → Int → (List (Int × (Int × Int))) → (List Int) → Option (Unit × ((List Int) × Unit))) (g189 : Int → Int → Int → (List (Int × (Int × Int))) → (List Int) → Option (Unit × ((List Int) × Unit))) (x : s160.args.den) (h : denH s160.heap) : nrun [⟨188, s188, fun x h => g188 x.2.1 x.2.2.1 x.2.2.2.1.1.1 h.1⟩, ⟨189, s189, fun x h => g189 x.2.1 x.2.2.1 x.2.2.2.1 x.2.2.2.2.1.1.1 h.1⟩] L n160 s160 x h = F160 L g188 g189 x.2.1 x.2.2.1.1.1 h.1 := by kernel_rfl
def f160 : Int → (List (Int × (Int × Int))) → (List Int) → Option (Unit × ((List Int) × Unit)) := F160 (@LN LOOPS) f188 f189
@[reducible] def t160 : Ent := ⟨160, s160, fun x h => f160 x.2.1 x.2.2.1.1.1 h.1⟩
theorem k160 : chkNF Try.prog Try.f160 n160 = true := by kernel_rfl
theorem ok160 : NOk Try.prog t160 := NOk.body (T := [t188, t189]) mixed (nall_cons ok188 (nall_cons ok189 nall_nil)) (oneEach_of (by kernel_rfl)) Try.func160 k160 (by kernel_rfl) (fun x h => e160 _ _ _ x h)
/- slices.SortStableFunc[[]int,int] -/
def n124 : NFunc := ⟨9, .region 4 [
    ⟨(some 4), .move (.tmp 0), none, 0, none⟩,
    ⟨(some 5), .move (.tmp 0), none, 0, none⟩,
    ⟨(some 6), .len (.tmp 5), none, 0, none⟩,
    ⟨(some 7), .move (.tmp 1), none, 0, none⟩,
    ⟨(some 8), .call (.func 160) [(true, (.tmp 4)), (false, (.tmp 6)), (false, (.tmp 7))] false 4, none, 0, none⟩] [], [], false⟩
def s124 : Sig := ⟨(.cons (.slw 0 1) (.cons (.fn 125 (.cons (.iptr (.cons (.v (.list (.pair (.int .i64) (.pair (.int .i64) (.int .i64))))) .nil) 0) .nil)) .nil)), [.typed (.int .i64)], ((.tup .nil), [.typed (.int .i64)]), []⟩
def F124 (L : Lp) (g160 : Int → (List (Int × (Int × Int))) → (List Int) → Option (Unit × ((List Int) × Unit))) (cmp0 : (List (Int × (Int × Int)))) (a1 : (List Int)) : Option (Unit × ((List Int) × Unit)) :=
  Option.bind (g160 (List.length a1 : Int) cmp0 a1) fun r2 =>
  cond ((decide ((List.length r2.2.1) = (List.length a1))) && true)
  (some ((), (r2.2.1, ())))
  (none)
theorem e124 (L : Lp) (g160 : Int → (List (Int × (Int × Int))) → (List Int) → Option (Unit × ((List Int) × Unit))) (x : s124.args.den) (h : denH s124.heap) : nrun [⟨160, s160, fun x h => g160 x.2.1 x.2.2.1.1.1 h.1⟩] L n124 s124 x h = F124 L g160 x.2.1.1.1 h.1 := by kernel_rfl
def f124 : (List (Int × (Int × Int))) → (List Int) → Option (Unit × ((List Int) × Unit)) := F124 (@LN LOOPS) f160
@[reducible] def t124 : Ent := ⟨124, s124, fun x h => f124 x.2.1.1.1 h.1⟩
theorem k124 : chkNF Try.prog Try.f124 n124 = true := by kernel_rfl
theorem ok124 : NOk Try.prog t124 := NOk.body (T := [t160]) mixed (nall_cons ok160 nall_nil) (oneEach_of (by kernel_rfl)) Try.func124 k124 (by kernel_rfl) (fun x h => e124 _ _ x h)
/- drayage/rank.arrange[int] -/
def n66 : NFunc := ⟨22, .seq (.region 1 [
    ⟨(some 1), .box 1 (.tmp 0), none, 0, none⟩,
    ⟨(some 2), .move (.const (.zsl)), none, 1, none⟩] []) (.seq (.region 1 [
    ⟨(some 5), .load false 1 (.tmp 1), none, 0, none⟩,
    ⟨(some 6), .len (.tmp 5), none, 0, none⟩,
    ⟨(some 7), .makeSlice 1 8 true [.int .i64 (0)] (.tmp 6) (.tmp 6), none, 0, none⟩,
    ⟨(some 3), .move (.tmp 7), none, 1, none⟩] [⟨7, some (.int .i64), none⟩]) (.seq (.seq (.region 0 [
    ⟨(some 8), .move (.tmp 3), none, 0, none⟩,
    ⟨(some 9), .len (.tmp 8), none, 0, none⟩,
    ⟨(some 10), .move (.const (.int .i64 (0))), none, 0, none⟩] []) (.block 0 (.loop [1, 3, 9, 10] ⟨[(1, (.ptr 0 0 0)), (3, (.slw 1 1)), (10, (.v (.int .i64)))], [9], [.one false (.list (.pair (.int .i64) (.pair (.int .i64) (.int .i64)))), .typed (.int .i64)]⟩ (.seq (.region 0 [
    ⟨(some 11), .bin .lss (.tmp 10) (.tmp 9), none, 0, none⟩] []) (.seq (.cond (.tmp 11) (.skip) (.exit 0)) (.seq (.block 1 (.seq (.region 0 [
    ⟨(some 12), .move (.tmp 10), none, 0, none⟩,
    ⟨(some 4), .move (.tmp 12), none, 0, none⟩] []) (.region 0 [
    ⟨(some 13), .move (.tmp 3), none, 0, none⟩,
    ⟨(some 14), .move (.tmp 4), none, 0, none⟩,
    ⟨(some 15), .move (.tmp 4), none, 0, none⟩,
    ⟨(some 16), .indexSl 1 (.tmp 13) (.tmp 14), none, 0, none⟩,
    ⟨none, .store 1 (.tmp 16) (.tmp 15), none, 0, none⟩] []))) (.region 0 [
    ⟨(some 17), .bin .add (.tmp 10) (.const (.int .i64 (1))), none, 0, none⟩,
    ⟨(some 10), .move (.tmp 17), none, 0, none⟩] []))))))) (.seq (.region 4 [
    ⟨(some 18), .move (.tmp 3), none, 0, none⟩,
    ⟨(some 19), .makeFunc 125 [(.tmp 1)], none, 0, none⟩,
    ⟨(some 20), .call (.func 124) [(true, (.tmp 18)), (false, (.tmp 19))] false 4, none, 0, none⟩] []) (.seq (.region 0 [
    ⟨(some 21), .move (.tmp 3), none, 0, none⟩,
    ⟨(some 2), .move (.tmp 21), none, 0, none⟩] []) (.ret))))), [.tmp 2], true⟩
def s66 : Sig := ⟨(.cons (.v (.list (.pair (.int .i64) (.pair (.int .i64) (.int .i64))))) .nil), [], ((.v (.list (.int .i64))), []), []⟩
def l66_0 (g124 : (List (Int × (Int × Int))) → (List Int) → Option (Unit × ((List Int) × Unit))) (keys0 : (List (Int × (Int × Int)))) (nx2 : ((Unit × (Unit × (Int × Unit))) × ((List (Int × (Int × Int))) × ((List Int) × Unit))) → Option (List Int)) (z3 : Int) (z4 : (List (Int × (Int × Int)))) (z5 : (List Int)) : Option (List Int) :=
  cond (decide (z3 < (List.length (List.replicate (Int.toNat (List.length keys0 : Int)) 0 : List Int) : Int)))
  (cond (decide (0 ≤ z3))
  (cond (decide ((Int.toNat z3) < (List.length z5)))
  (Option.bind (z5[Int.toNat z3]?) fun y6 =>
  nx2 (((), (), IntKind.wrap .i64 (z3 + 1), ()), (z4, List.set z5 (Int.toNat z3) z3, ())))
  (none))
  (none))
  (Option.bind (g124 z4 z5) fun r7 =>
  cond ((decide ((List.length r7.2.1) = (List.length z5))) && true)
  (some r7.2.1)
  (none))
def F66 (L : Lp) (g124 : (List (Int × (Int × Int))) → (List Int) → Option (Unit × ((List Int) × Unit))) (keys0 : (List (Int × (Int × Int)))) : Option (List Int) :=
  cond (decide (0 ≤ (List.length keys0 : Int)))
  (cond (decide (0 ≤ (List.length keys0 : Int)))
  (cond ((decide ((Int.toNat (List.length keys0 : Int)) ≤ (Int.toNat (List.length keys0 : Int)))) && ((decide ((Int.toNat (List.length keys0 : Int)) * 8 ≤ 1099511627776)) && (decide ((Int.toNat (List.length keys0 : Int)) ≤ 4294967296))))
  (L (fun (s1 : ((Unit × (Unit × (Int × Unit))) × ((List (Int × (Int × Int))) × ((List Int) × Unit)))) nx2 => l66_0 g124 keys0 nx2 s1.1.2.2.1 s1.2.1 s1.2.2.1) (((), (), 0, ()), (keys0, (List.replicate (Int.toNat (List.length keys0 : Int)) 0 : List Int), ())))
  (none))
  (none))
  (none)
theorem e66 (L : Lp) (g124 : (List (Int × (Int × Int))) → (List Int) → Option (Unit × ((List Int) × Unit))) (x : s66.args.den) (h : denH s66.heap) : nrun [⟨124, s124, fun x h => g124 x.2.1.1.1 h.1⟩] L n66 s66 x h = F66 L g124 x.1 := by kernel_rfl
def f66 : (List (Int × (Int × Int))) → Option (List Int) := F66 (@LN LOOPS) f124
@[reducible] def t66 : Ent := ⟨66, s66, fun x h => f66 x.1⟩
theorem k66 : chkNF Try.prog Try.f66 n66 = true := by kernel_rfl
theorem ok66 : NOk Try.prog t66 := NOk.body (T := [t124]) mixed (nall_cons ok124 nall_nil) (oneEach_of (by kernel_rfl)) Try.func66 k66 (by kernel_rfl) (fun x h => e66 _ _ x h)
/- slices.Clone[[]drayage/api.Dep,drayage/api.Dep] -/
def n67 : NFunc := ⟨8, .seq (.region 0 [
    ⟨(some 2), .move (.const (.zsl)), none, 0, none⟩] []) (.seq (.seq (.region 0 [
    ⟨(some 3), .move (.tmp 0), none, 0, none⟩,
    ⟨(some 4), .eqI false (.tmp 3) (.const (.zsl)), none, 0, none⟩] []) (.cond (.tmp 4) (.seq (.region 0 [
    ⟨(some 2), .move (.const (.zsl)), none, 0, none⟩] []) (.ret)) (.skip))) (.seq (.region 2 [
    ⟨(some 5), .buildSlice 2 0 true [.int .i64 (0), .bool false] [], none, 0, none⟩,
    ⟨(some 6), .move (.tmp 0), none, 1, none⟩,
    ⟨(some 7), .append 2 16 true (.tmp 5) (.tmp 6), none, 1, none⟩,
    ⟨(some 2), .move (.tmp 7), none, 2, none⟩] []) (.ret))), [.tmp 2], false⟩
def s67 : Sig := ⟨(.cons (.v (.list .dep)) .nil), [], ((.slw 0 2), [.typed .dep]), []⟩
def F67 (L : Lp)  (as0 : (List Dep)) : Option (Unit × ((List Dep) × Unit)) :=
  cond (List.isEmpty as0)
  (none)
  (cond (smallB (0 + (List.length as0)) 16)
  (some ((), ([] ++ as0, ())))
  (none))
theorem e67 (L : Lp)  (x : s67.args.den) (h : denH s67.heap) : nrun [] L n67 s67 x h = F67 L  x.1 := by kernel_rfl
def f67 : (List Dep) → Option (Unit × ((List Dep) × Unit)) := cloneF (F67 (@LN LOOPS))
@[reducible] def t67 : Ent := ⟨67, s67, fun x h => f67 x.1⟩
theorem k67 : chkNF Try.prog Try.f67 n67 = true := by kernel_rfl
theorem c67 (A : Option Addr) (c : Nat) (w : World) : Calls Try.prog 67 #[.slice A 0 c] w (fun e w' => ∃ A', e = .returned (.slice A' 0 0) ∧ Go.RowKit.Below w.heap.size w w') := by
  have hq := fun (u : World) => Lib.run_eql_slice_nil (P := Try.prog) u 41 153 A 0 c 0 0 Try.underlying41
  cases A with
  | none => (go_enter Try.func67, Try.ntmps67; go_wp2; go_ret; exact ⟨_, rfl, Go.RowKit.Below.refl _ _⟩)
  | some ad => (go_enter Try.func67, Try.ntmps67; go_wp2; go_ret; exact ⟨_, rfl, (Go.RowKit.Below.refl _ _).alloc (Nat.le_refl _) _⟩)
theorem b67 : NOk Try.prog ⟨67, s67, fun x h => F67 (@LN LOOPS) x.1⟩ := NOk.body (T := []) mixed nall_nil (oneEach_of (by kernel_rfl)) Try.func67 k67 (by kernel_rfl) (fun x h => e67 _  x h)
theorem ok67 : NOk Try.prog t67 := NOk.clone (t := .dep) b67 (clone_empty .dep b67.1 c67)
/- drayage/rank.Order -/
def n17 : NFunc := ⟨59, .seq (.region 2 [
    ⟨(some 3), .box 18 (.tmp 0), none, 0, none⟩,
    ⟨(some 5), .box 2 (.tmp 2), none, 1, none⟩,
    ⟨(some 6), .move (.const (.zsl)), none, 2, none⟩] []) (.seq (.seq (.region 4 [
    ⟨(some 14), .load true 18 (.tmp 3), none, 0, none⟩,
    ⟨(some 15), .call (.func 64) [(false, (.tmp 14))] false 4, none, 0, none⟩,
    ⟨(some 16), .un .not (.tmp 15), none, 4, none⟩] []) (.cond (.tmp 16) (.seq (.region 0 [
    ⟨(some 6), .move (.const (.zsl)), none, 0, none⟩] []) (.ret)) (.skip))) (.seq (.region 1 [
    ⟨(some 17), .move (.tmp 1), none, 0, none⟩,
    ⟨(some 18), .len (.tmp 17), none, 0, none⟩,
    ⟨(some 19), .makeSlice 3 24 true [.int .i64 (0), .int .i64 (0), .int .i64 (0)] (.tmp 18) (.tmp 18), none, 0, none⟩,
    ⟨(some 7), .move (.tmp 19), none, 1, none⟩] [⟨19, some (.pair (.int .i64) (.pair (.int .i64) (.int .i64))), none⟩]) (.seq (.seq (.region 0 [
    ⟨(some 20), .move (.tmp 1), none, 0, none⟩,
    ⟨(some 21), .len (.tmp 20), none, 0, none⟩,
    ⟨(some 22), .move (.const (.int .i64 (0))), none, 0, none⟩] []) (.block 0 (.loop [1, 3, 5, 7, 20, 21, 22] ⟨[(3, (.ptr 0 0 0)), (5, (.ptr 1 0 0)), (7, (.slw 2 3)), (22, (.v (.int .i64)))], [1, 20, 21], [.one false .spec, .one false (.pair (.int .i64) (.list (.int .i64))), .typed (.pair (.int .i64) (.pair (.int .i64) (.int .i64)))]⟩ (.seq (.region 0 [
    ⟨(some 23), .bin .lss (.tmp 22) (.tmp 21), none, 0, none⟩] []) (.seq (.cond (.tmp 23) (.skip) (.exit 0)) (.seq (.block 1 (.seq (.region 1 [
    ⟨(some 24), .move (.tmp 22), none, 0, none⟩,
    ⟨(some 25), .indexSl 18 (.tmp 20) (.tmp 22), none, 0, none⟩,
    ⟨(some 26), .load true 18 (.tmp 25), none, 0, none⟩,
    ⟨(some 9), .alloc [.int .i64 (0), .int .i64 (0), .int .i64 (0), .int .i64 (0), .int .i64 (0), .int .i64 (0), .int .i64 (0), .int .i64 (0), .int .i64 (0), .zsl, .int .i64 (0), .bool false, .bool false, .int .i64 (0), .int .i64 (0), .int .i64 (0), .int .i64 (0), .int .i64 (0)], none, 0, none⟩,
    ⟨(some 8), .move (.tmp 24), none, 1, none⟩,
    ⟨none, .store 18 (.tmp 9) (.tmp 26), none, 1, none⟩] []) (.region 4 [
    ⟨(some 27), .move (.tmp 7), none, 0, none⟩,
    ⟨(some 28), .move (.tmp 8), none, 0, none⟩,
    ⟨(some 29), .load true 18 (.tmp 3), none, 0, none⟩,
    ⟨(some 30), .load true 18 (.tmp 9), none, 0, none⟩,
    ⟨(some 31), .load true 2 (.tmp 5), none, 0, none⟩,
    ⟨(some 32), .call (.func 65) [(false, (.tmp 29)), (false, (.tmp 30)), (false, (.tmp 31))] false 4, none, 0, none⟩,
    ⟨(some 33), .indexSl 3 (.tmp 27) (.tmp 28), none, 4, none⟩,
    ⟨none, .store 3 (.tmp 33) (.tmp 32), none, 4, none⟩] []))) (.region 0 [
    ⟨(some 34), .bin .add (.tmp 22) (.const (.int .i64 (1))), none, 0, none⟩,
    ⟨(some 22), .move (.tmp 34), none, 0, none⟩] []))))))) (.seq (.region 1 [
    ⟨(some 35), .move (.tmp 1), none, 0, none⟩,
    ⟨(some 36), .len (.tmp 35), none, 0, none⟩,
    ⟨(some 37), .makeSlice 18 152 true [.int .i64 (0), .int .i64 (0), .int .i64 (0), .int .i64 (0), .int .i64 (0), .int .i64 (0), .int .i64 (0), .int .i64 (0), .int .i64 (0), .zsl, .int .i64 (0), .bool false, .bool false, .int .i64 (0), .int .i64 (0), .int .i64 (0), .int .i64 (0), .int .i64 (0)] (.const (.int .i64 (0))) (.tmp 36), none, 0, none⟩,
    ⟨(some 10), .move (.tmp 37), none, 1, none⟩] [⟨37, some .job, none⟩]) (.seq (.seq (.region 4 [
    ⟨(some 38), .move (.tmp 7), none, 0, none⟩,
    ⟨(some 39), .call (.func 66) [(false, (.tmp 38))] false 4, none, 0, none⟩,
    ⟨(some 40), .len (.tmp 39), none, 4, none⟩,
    ⟨(some 41), .move (.const (.int .i64 (0))), none, 4, none⟩] []) (.block 2 (.loop [1, 10, 39, 40, 41] ⟨[(10, (.slw 0 18)), (41, (.v (.int .i64)))], [1, 39, 40], [.typed .job]⟩ (.seq (.region 0 [
    ⟨(some 42), .bin .lss (.tmp 41) (.tmp 40), none, 0, none⟩] []) (.seq (.cond (.tmp 42) (.skip) (.exit 2)) (.seq (.block 3 (.seq (.region 0 [
    ⟨(some 43), .indexSl 1 (.tmp 39) (.tmp 41), none, 0, none⟩,
    ⟨(some 44), .load false 1 (.tmp 43), none, 0, none⟩,
    ⟨(some 12), .move (.tmp 44), none, 0, none⟩] []) (.seq (.region 1 [
    ⟨(some 45), .move (.tmp 1), none, 0, none⟩,
    ⟨(some 46), .move (.tmp 12), none, 0, none⟩,
    ⟨(some 47), .indexSl 18 (.tmp 45) (.tmp 46), none, 0, none⟩,
    ⟨(some 48), .load true 18 (.tmp 47), none, 0, none⟩,
    ⟨(some 13), .alloc [.int .i64 (0), .int .i64 (0), .int .i64 (0), .int .i64 (0), .int .i64 (0), .int .i64 (0), .int .i64 (0), .int .i64 (0), .int .i64 (0), .zsl, .int .i64 (0), .bool false, .bool false, .int .i64 (0), .int .i64 (0), .int .i64 (0), .int .i64 (0), .int .i64 (0)], none, 0, none⟩,
    ⟨none, .store 18 (.tmp 13) (.tmp 48), none, 1, none⟩] []) (.seq (.region 4 [
    ⟨(some 49), .fieldAddr 9 (.tmp 13), none, 0, none⟩,
    ⟨(some 50), .load false 1 (.tmp 49), none, 0, none⟩,
    ⟨(some 51), .call (.func 67) [(false, (.tmp 50))] false 4, none, 0, none⟩,
    ⟨(some 52), .fieldAddr 9 (.tmp 13), none, 4, none⟩,
    ⟨none, .store 1 (.tmp 52) (.tmp 51), none, 4, none⟩] []) (.region 2 [
    ⟨(some 53), .move (.tmp 10), none, 0, none⟩,
    ⟨(some 54), .load true 18 (.tmp 13), none, 0, none⟩,
    ⟨(some 55), .buildSlice 18 1 true [.int .i64 (0), .int .i64 (0), .int .i64 (0), .int .i64 (0), .int .i64 (0), .int .i64 (0), .int .i64 (0), .int .i64 (0), .int .i64 (0), .zsl, .int .i64 (0), .bool false, .bool false, .int .i64 (0), .int .i64 (0), .int .i64 (0), .int .i64 (0), .int .i64 (0)] [(0, (.tmp 54))], none, 0, none⟩,
    ⟨(some 56), .append 18 152 true (.tmp 53) (.tmp 55), none, 1, none⟩,
    ⟨(some 10), .move (.tmp 56), none, 2, none⟩] []))))) (.region 0 [
    ⟨(some 57), .bin .add (.tmp 41) (.const (.int .i64 (1))), none, 0, none⟩,
    ⟨(some 41), .move (.tmp 57), none, 0, none⟩] []))))))) (.seq (.region 0 [
    ⟨(some 58), .move (.tmp 10), none, 0, none⟩,
    ⟨(some 6), .move (.tmp 58), none, 0, none⟩] []) (.ret))))))), [.tmp 6], true⟩
def s17 : Sig := ⟨(.cons (.v .spec) (.cons (.v (.list .job)) (.cons (.v (.pair (.int .i64) (.list (.int .i64)))) .nil))), [], ((.v (.list .job)), []), []⟩
def l17_0 (g67 : (List Dep) → Option (Unit × ((List Dep) × Unit))) (all1 : (List Job)) (r13 : (List Int)) (nx15 : ((Unit × (Int × Unit)) × ((List Job) × Unit)) → Option (List Job)) (z16 : Int) (z17 : (List Job)) : Option (List Job) :=
  cond (decide (z16 < (List.length r13 : Int)))
  (cond (decide (0 ≤ z16))
  (Option.bind (r13[Int.toNat z16]?) fun y18 =>
  cond (decide (0 ≤ y18))
  (Option.bind (all1[Int.toNat y18]?) fun y19 =>
  Option.bind (g67 y19.after) fun r20 =>
  cond (smallB ((List.length z17) + 1) 152)
  (nx15 (((), IntKind.wrap .i64 (z16 + 1), ()), (z17 ++ [Job.mk y19.id y19.user y19.queue y19.many y19.need y19.wall r20.2.1 y19.state y19.ok y19.kill y19.version y19.born y19.start y19.fin y19.array], ())))
  (none))
  (none))
  (none))
  (some z17)
def l17_1 (L : Lp) (g65 : Spec → Job → (Int × (List Int)) → Option (Int × (Int × Int))) (g66 : (List (Int × (Int × Int))) → Option (List Int)) (g67 : (List Dep) → Option (Unit × ((List Dep) × Unit))) (all1 : (List Job)) (nx5 : ((Unit × (Unit × (Unit × (Int × Unit)))) × (Spec × ((Int × (List Int)) × ((List (Int × (Int × Int))) × Unit)))) → Option (List Job)) (z6 : Int) (z7 : Spec) (z8 : (Int × (List Int))) (z9 : (List (Int × (Int × Int)))) : Option (List Job) :=
  cond (decide (z6 < (List.length all1 : Int)))
  (cond (decide (0 ≤ z6))
  (Option.bind (all1[Int.toNat z6]?) fun y10 =>
  Option.bind (g65 z7 y10 z8) fun r11 =>
  cond (decide (0 ≤ z6))
  (cond (decide ((Int.toNat z6) < (List.length z9)))
  (Option.bind (z9[Int.toNat z6]?) fun y12 =>
  nx5 (((), (), (), IntKind.wrap .i64 (z6 + 1), ()), (z7, z8, List.set z9 (Int.toNat z6) r11, ())))
  (none))
  (none))
  (none))
  (cond (decide (0 ≤ (List.length all1 : Int)))
  (cond ((decide (0 ≤ (Int.toNat (List.length all1 : Int)))) && ((decide ((Int.toNat (List.length all1 : Int)) * 152 ≤ 1099511627776)) && (decide ((Int.toNat (List.length all1 : Int)) ≤ 4294967296))))
  (Option.bind (g66 z9) fun r13 =>
  L (fun (s14 : ((Unit × (Int × Unit)) × ((List Job) × Unit))) nx15 => l17_0 g67 all1 r13 nx15 s14.1.2.1 s14.2.1) (((), 0, ()), ((List.replicate 0 (Job.mk 0 0 0 0 (Res.mk 0 0 0 0) 0 [] 0 false false 0 0 0 0 0) : List Job), ())))
  (none))
  (none))
def F17 (L : Lp) (g64 : Spec → Option Bool) (g65 : Spec → Job → (Int × (List Int)) → Option (Int × (Int × Int))) (g66 : (List (Int × (Int × Int))) → Option (List Int)) (g67 : (List Dep) → Option (Unit × ((List Dep) × Unit))) (as0 : Spec) (all1 : (List Job)) (ax2 : (Int × (List Int))) : Option (List Job) :=
  Option.bind (g64 as0) fun r3 =>
  cond (!r3)
  (some [])
  (cond (decide (0 ≤ (List.length all1 : Int)))
  (cond (decide (0 ≤ (List.length all1 : Int)))
  (cond ((decide ((Int.toNat (List.length all1 : Int)) ≤ (Int.toNat (List.length all1 : Int)))) && ((decide ((Int.toNat (List.length all1 : Int)) * 24 ≤ 1099511627776)) && (decide ((Int.toNat (List.length all1 : Int)) ≤ 4294967296))))
  (L (fun (s4 : ((Unit × (Unit × (Unit × (Int × Unit)))) × (Spec × ((Int × (List Int)) × ((List (Int × (Int × Int))) × Unit))))) nx5 => l17_1 L g65 g66 g67 all1 nx5 s4.1.2.2.2.1 s4.2.1 s4.2.2.1 s4.2.2.2.1) (((), (), (), 0, ()), (as0, ax2, (List.replicate (Int.toNat (List.length all1 : Int)) (0, (0, 0)) : List (Int × (Int × Int))), ())))
  (none))
  (none))
  (none))
theorem e17 (L : Lp) (g64 : Spec → Option Bool) (g65 : Spec → Job → (Int × (List Int)) → Option (Int × (Int × Int))) (g66 : (List (Int × (Int × Int))) → Option (List Int)) (g67 : (List Dep) → Option (Unit × ((List Dep) × Unit))) (x : s17.args.den) (h : denH s17.heap) : nrun [⟨64, s64, fun x h => g64 x.1⟩, ⟨65, s65, fun x h => g65 x.1 x.2.1 x.2.2.1⟩, ⟨66, s66, fun x h => g66 x.1⟩, ⟨67, s67, fun x h => g67 x.1⟩] L n17 s17 x h = F17 L g64 g65 g66 g67 x.1 x.2.1 x.2.2.1 := by kernel_rfl
def f17 : Spec → (List Job) → (Int × (List Int)) → Option (List Job) := F17 (@LN LOOPS) f64 f65 f66 f67
@[reducible] def t17 : Ent := ⟨17, s17, fun x h => f17 x.1 x.2.1 x.2.2.1⟩
theorem k17 : chkNF Try.prog Try.f17 n17 = true := by kernel_rfl
theorem ok17 : NOk Try.prog t17 := NOk.body (T := [t64, t65, t66, t67]) mixed (nall_cons ok64 (nall_cons ok65 (nall_cons ok66 (nall_cons ok67 nall_nil)))) (oneEach_of (by kernel_rfl)) Try.func17 k17 (by kernel_rfl) (fun x h => e17 _ _ _ _ _ x h)
/- drayage/drayagelaw22.awake -/
def n13 : NFunc := ⟨25, .seq (.region 0 [
    ⟨(some 0), .move (.const (.bool false)), none, 0, none⟩] []) (.seq (.region 9 [
    ⟨(some 2), .call (.func 62) [] false 4, none, 0, none⟩,
    ⟨(some 3), .build [.int .i64 (0), .int .i64 (0), .int .i64 (0), .int .i64 (0), .int .i64 (0), .int .i64 (0), .int .i64 (0), .int .i64 (0), .int .i64 (0), .zsl, .int .i64 (0), .bool false, .bool false, .int .i64 (0), .int .i64 (0), .int .i64 (0), .int .i64 (0), .int .i64 (0)] [(0, 1, (.const (.int .i64 (4))))], none, 4, none⟩,
    ⟨(some 4), .build [.int .i64 (0), .int .i64 (0), .int .i64 (0), .int .i64 (0), .int .i64 (0), .int .i64 (0), .int .i64 (0), .int .i64 (0), .int .i64 (0), .zsl, .int .i64 (0), .bool false, .bool false, .int .i64 (0), .int .i64 (0), .int .i64 (0), .int .i64 (0), .int .i64 (0)] [(0, 1, (.const (.int .i64 (2))))], none, 4, none⟩,
    ⟨(some 5), .buildSlice 18 2 true [.int .i64 (0), .int .i64 (0), .int .i64 (0), .int .i64 (0), .int .i64 (0), .int .i64 (0), .int .i64 (0), .int .i64 (0), .int .i64 (0), .zsl, .int .i64 (0), .bool false, .bool false, .int .i64 (0), .int .i64 (0), .int .i64 (0), .int .i64 (0), .int .i64 (0)] [(0, (.tmp 3)), (1, (.tmp 4))], none, 4, none⟩,
    ⟨(some 6), .build [.int .i64 (0), .zsl] [], none, 5, none⟩,
    ⟨(some 7), .call (.func 17) [(false, (.tmp 2)), (false, (.tmp 5)), (false, (.tmp 6))] false 4, none, 5, none⟩,
    ⟨(some 1), .move (.tmp 7), none, 9, none⟩] []) (.seq (.region 0 [
    ⟨(some 8), .move (.tmp 1), none, 0, none⟩,
    ⟨(some 9), .len (.tmp 8), none, 0, none⟩,
    ⟨(some 10), .bin .eql (.tmp 9) (.const (.int .i64 (2))), none, 0, none⟩,
    ⟨(some 11), .move (.tmp 10), none, 0, none⟩,
    ⟨(some 12), .move (.tmp 1), (some (11, true)), 0, none⟩,
    ⟨(some 13), .indexSl 18 (.tmp 12) (.const (.int .i64 (0))), (some (11, true)), 0, none⟩,
    ⟨(some 14), .fieldAddr 0 (.tmp 13), (some (11, true)), 0, none⟩,
    ⟨(some 15), .load false 1 (.tmp 14), (some (11, true)), 0, none⟩,
    ⟨(some 16), .bin .eql (.tmp 15) (.const (.int .i64 (2))), (some (11, true)), 0, none⟩,
    ⟨(some 17), .pick (.tmp 11) (.tmp 16) (.const (.bool false)), none, 0, none⟩,
    ⟨(some 18), .move (.tmp 17), none, 0, none⟩,
    ⟨(some 19), .move (.tmp 1), (some (18, true)), 0, none⟩,
    ⟨(some 20), .indexSl 18 (.tmp 19) (.const (.int .i64 (1))), (some (18, true)), 0, none⟩,
    ⟨(some 21), .fieldAddr 0 (.tmp 20), (some (18, true)), 0, none⟩,
    ⟨(some 22), .load false 1 (.tmp 21), (some (18, true)), 0, none⟩,
    ⟨(some 23), .bin .eql (.tmp 22) (.const (.int .i64 (4))), (some (18, true)), 0, none⟩,
    ⟨(some 24), .pick (.tmp 18) (.tmp 23) (.const (.bool false)), none, 0, none⟩,
    ⟨(some 0), .move (.tmp 24), none, 0, none⟩] []) (.ret))), [.tmp 0], true⟩
def s13 : Sig := ⟨.nil, [], ((.v .bool), []), []⟩
def F13 (L : Lp) (g62 : Option Spec) (g17 : Spec → (List Job) → (Int × (List Int)) → Option (List Job))  : Option Bool :=
  Option.bind (g62) fun r0 =>
  Option.bind (g17 r0 [Job.mk 4 0 0 0 (Res.mk 0 0 0 0) 0 [] 0 false false 0 0 0 0 0, Job.mk 2 0 0 0 (Res.mk 0 0 0 0) 0 [] 0 false false 0 0 0 0 0] (0, [])) fun r1 =>
  cond (decide ((List.length r1 : Int) = 2))
  (Option.bind (r1[0]?) fun y2 =>
  cond (decide (y2.id = 2))
  (Option.bind (r1[1]?) fun y3 =>
  some (decide (y3.id = 4)))
  (some false))
  (some false)
theorem e13 (L : Lp) (g62 : Option Spec) (g17 : Spec → (List Job) → (Int × (List Int)) → Option (List Job)) (x : s13.args.den) (h : denH s13.heap) : nrun [⟨62, s62, fun x h => g62 ⟩, ⟨17, s17, fun x h => g17 x.1 x.2.1 x.2.2.1⟩] L n13 s13 x h = F13 L g62 g17  := by kernel_rfl
def f13 : Option Bool := F13 (@LN LOOPS) f62 f17
@[reducible] def t13 : Ent := ⟨13, s13, fun x h => f13 ⟩
theorem k13 : chkNF Try.prog Try.f13 n13 = true := by kernel_rfl
theorem ok13 : NOk Try.prog t13 := NOk.body (T := [t62, t17]) mixed (nall_cons ok62 (nall_cons ok17 nall_nil)) (oneEach_of (by kernel_rfl)) Try.func13 k13 (by kernel_rfl) (fun x h => e13 _ _ _ x h)
/- drayage/drayagelaw07.Few -/
def n14 : NFunc := ⟨46, .seq (.region 1 [
    ⟨(some 1), .box 18 (.tmp 0), none, 0, none⟩,
    ⟨(some 2), .move (.const (.bool false)), none, 1, none⟩] []) (.seq (.seq (.region 0 [
    ⟨(some 7), .fieldAddr 0 (.tmp 1), none, 0, none⟩,
    ⟨(some 8), .load false 1 (.tmp 7), none, 0, none⟩,
    ⟨(some 9), .len (.tmp 8), none, 0, none⟩,
    ⟨(some 10), .bin .gtr (.tmp 9) (.const (.int .i64 (40))), none, 0, none⟩,
    ⟨(some 11), .move (.tmp 10), none, 0, none⟩,
    ⟨(some 12), .fieldAddr 1 (.tmp 1), (some (11, false)), 0, none⟩,
    ⟨(some 13), .load false 1 (.tmp 12), (some (11, false)), 0, none⟩,
    ⟨(some 14), .len (.tmp 13), (some (11, false)), 0, none⟩,
    ⟨(some 15), .bin .gtr (.tmp 14) (.const (.int .i64 (20))), (some (11, false)), 0, none⟩,
    ⟨(some 16), .pick (.tmp 11) (.const (.bool true)) (.tmp 15), none, 0, none⟩,
    ⟨(some 17), .move (.tmp 16), none, 0, none⟩,
    ⟨(some 18), .fieldAddr 2 (.tmp 1), (some (17, false)), 0, none⟩,
    ⟨(some 19), .load false 1 (.tmp 18), (some (17, false)), 0, none⟩,
    ⟨(some 20), .len (.tmp 19), (some (17, false)), 0, none⟩,
    ⟨(some 21), .bin .gtr (.tmp 20) (.const (.int .i64 (20))), (some (17, false)), 0, none⟩,
    ⟨(some 22), .pick (.tmp 17) (.const (.bool true)) (.tmp 21), none, 0, none⟩] []) (.cond (.tmp 22) (.seq (.region 0 [
    ⟨(some 2), .move (.const (.bool false)), none, 0, none⟩] []) (.ret)) (.skip))) (.seq (.seq (.region 0 [
    ⟨(some 23), .fieldAddr 1 (.tmp 1), none, 0, none⟩,
    ⟨(some 24), .load false 1 (.tmp 23), none, 0, none⟩,
    ⟨(some 25), .len (.tmp 24), none, 0, none⟩,
    ⟨(some 26), .move (.const (.int .i64 (0))), none, 0, none⟩] []) (.block 0 (.loop [1, 24, 25, 26] ⟨[(1, (.ptr 0 0 0)), (26, (.v (.int .i64)))], [24, 25], [.one false .spec]⟩ (.seq (.region 0 [
    ⟨(some 27), .bin .lss (.tmp 26) (.tmp 25), none, 0, none⟩] []) (.seq (.cond (.tmp 27) (.skip) (.exit 0)) (.seq (.block 1 (.seq (.region 0 [
    ⟨(some 28), .indexSl 1 (.tmp 24) (.tmp 26), none, 0, none⟩,
    ⟨(some 29), .load false 1 (.tmp 28), none, 0, none⟩,
    ⟨(some 4), .move (.tmp 29), none, 0, none⟩] []) (.seq (.region 0 [
    ⟨(some 30), .move (.tmp 4), none, 0, none⟩,
    ⟨(some 31), .len (.tmp 30), none, 0, none⟩,
    ⟨(some 32), .bin .gtr (.tmp 31) (.const (.int .i64 (40))), none, 0, none⟩] []) (.cond (.tmp 32) (.seq (.region 0 [
    ⟨(some 2), .move (.const (.bool false)), none, 0, none⟩] []) (.ret)) (.skip))))) (.region 0 [
    ⟨(some 33), .bin .add (.tmp 26) (.const (.int .i64 (1))), none, 0, none⟩,
    ⟨(some 26), .move (.tmp 33), none, 0, none⟩] []))))))) (.seq (.seq (.region 0 [
    ⟨(some 34), .fieldAddr 2 (.tmp 1), none, 0, none⟩,
    ⟨(some 35), .load false 1 (.tmp 34), none, 0, none⟩,
    ⟨(some 36), .len (.tmp 35), none, 0, none⟩,
    ⟨(some 37), .move (.const (.int .i64 (0))), none, 0, none⟩] []) (.block 2 (.loop [35, 36, 37] ⟨[(37, (.v (.int .i64)))], [35, 36], []⟩ (.seq (.region 0 [
    ⟨(some 38), .bin .lss (.tmp 37) (.tmp 36), none, 0, none⟩] []) (.seq (.cond (.tmp 38) (.skip) (.exit 2)) (.seq (.block 3 (.seq (.region 1 [
    ⟨(some 39), .indexSl 6 (.tmp 35) (.tmp 37), none, 0, none⟩,
    ⟨(some 40), .load true 6 (.tmp 39), none, 0, none⟩,
    ⟨(some 6), .alloc [.int .i64 (0), .zsl, .int .i64 (0), .int .i64 (0), .int .i64 (0), .int .i64 (0)], none, 0, none⟩,
    ⟨none, .store 6 (.tmp 6) (.tmp 40), none, 1, none⟩] []) (.seq (.region 0 [
    ⟨(some 41), .fieldAddr 1 (.tmp 6), none, 0, none⟩,
    ⟨(some 42), .load false 1 (.tmp 41), none, 0, none⟩,
    ⟨(some 43), .len (.tmp 42), none, 0, none⟩,
    ⟨(some 44), .bin .gtr (.tmp 43) (.const (.int .i64 (40))), none, 0, none⟩] []) (.cond (.tmp 44) (.seq (.region 0 [
    ⟨(some 2), .move (.const (.bool false)), none, 0, none⟩] []) (.ret)) (.skip))))) (.region 0 [
    ⟨(some 45), .bin .add (.tmp 37) (.const (.int .i64 (1))), none, 0, none⟩,
    ⟨(some 37), .move (.tmp 45), none, 0, none⟩] []))))))) (.seq (.region 0 [
    ⟨(some 2), .move (.const (.bool true)), none, 0, none⟩] []) (.ret))))), [.tmp 2], true⟩
def s14 : Sig := ⟨(.cons (.v .spec) .nil), [], ((.v .bool), []), []⟩
def l14_0 (z4 : Spec) (nx7 : ((Int × Unit) × Unit) → Option Bool) (z8 : Int) : Option Bool :=
  cond (decide (z8 < (List.length z4.queues : Int)))
  (cond (decide (0 ≤ z8))
  (Option.bind (z4.queues[Int.toNat z8]?) fun y9 =>
  cond (decide (40 < (List.length y9.users : Int)))
  (some false)
  (nx7 ((IntKind.wrap .i64 (z8 + 1), ()), ())))
  (none))
  (some true)
def l14_1 (L : Lp) (as0 : Spec) (nx2 : ((Unit × (Int × Unit)) × (Spec × Unit)) → Option Bool) (z3 : Int) (z4 : Spec) : Option Bool :=
  cond (decide (z3 < (List.length as0.parts : Int)))
  (cond (decide (0 ≤ z3))
  (Option.bind (as0.parts[Int.toNat z3]?) fun y5 =>
  cond (decide (40 < (List.length y5 : Int)))
  (some false)
  (nx2 (((), IntKind.wrap .i64 (z3 + 1), ()), (z4, ()))))
  (none))
  (L (fun (s6 : ((Int × Unit) × Unit)) nx7 => l14_0 z4 nx7 s6.1.1) ((0, ()), ()))
def F14 (L : Lp)  (as0 : Spec) : Option Bool :=
  cond (decide (40 < (List.length as0.nodes : Int)))
  (some false)
  (cond (decide (20 < (List.length as0.parts : Int)))
  (some false)
  (cond (decide (20 < (List.length as0.queues : Int)))
  (some false)
  (L (fun (s1 : ((Unit × (Int × Unit)) × (Spec × Unit))) nx2 => l14_1 L as0 nx2 s1.1.2.1 s1.2.1) (((), 0, ()), (as0, ())))))
theorem e14 (L : Lp)  (x : s14.args.den) (h : denH s14.heap) : nrun [] L n14 s14 x h = F14 L  x.1 := by kernel_rfl
def f14 : Spec → Option Bool := F14 (@LN LOOPS) 
@[reducible] def t14 : Ent := ⟨14, s14, fun x h => f14 x.1⟩
theorem k14 : chkNF Try.prog Try.f14 n14 = true := by kernel_rfl
theorem ok14 : NOk Try.prog t14 := NOk.body (T := []) mixed nall_nil (oneEach_of (by kernel_rfl)) Try.func14 k14 (by kernel_rfl) (fun x h => e14 _  x h)
/- drayage/drayagelaw17.Few -/
def n15 : NFunc := ⟨19, .seq (.region 0 [
    ⟨(some 2), .move (.const (.bool false)), none, 0, none⟩] []) (.seq (.seq (.region 0 [
    ⟨(some 5), .move (.tmp 0), none, 0, none⟩,
    ⟨(some 6), .len (.tmp 5), none, 0, none⟩,
    ⟨(some 7), .bin .gtr (.tmp 6) (.const (.int .i64 (30))), none, 0, none⟩] []) (.cond (.tmp 7) (.seq (.region 0 [
    ⟨(some 2), .move (.const (.bool false)), none, 0, none⟩] []) (.ret)) (.skip))) (.seq (.seq (.region 0 [
    ⟨(some 8), .move (.tmp 0), none, 0, none⟩,
    ⟨(some 9), .len (.tmp 8), none, 0, none⟩,
    ⟨(some 10), .move (.const (.int .i64 (0))), none, 0, none⟩] []) (.block 0 (.loop [8, 9, 10] ⟨[(10, (.v (.int .i64)))], [8, 9], []⟩ (.seq (.region 0 [
    ⟨(some 11), .bin .lss (.tmp 10) (.tmp 9), none, 0, none⟩] []) (.seq (.cond (.tmp 11) (.skip) (.exit 0)) (.seq (.block 1 (.seq (.region 1 [
    ⟨(some 12), .indexSl 18 (.tmp 8) (.tmp 10), none, 0, none⟩,
    ⟨(some 13), .load true 18 (.tmp 12), none, 0, none⟩,
    ⟨(some 4), .alloc [.int .i64 (0), .int .i64 (0), .int .i64 (0), .int .i64 (0), .int .i64 (0), .int .i64 (0), .int .i64 (0), .int .i64 (0), .int .i64 (0), .zsl, .int .i64 (0), .bool false, .bool false, .int .i64 (0), .int .i64 (0), .int .i64 (0), .int .i64 (0), .int .i64 (0)], none, 0, none⟩,
    ⟨none, .store 18 (.tmp 4) (.tmp 13), none, 1, none⟩] []) (.seq (.region 0 [
    ⟨(some 14), .fieldAddr 9 (.tmp 4), none, 0, none⟩,
    ⟨(some 15), .load false 1 (.tmp 14), none, 0, none⟩,
    ⟨(some 16), .len (.tmp 15), none, 0, none⟩,
    ⟨(some 17), .bin .gtr (.tmp 16) (.const (.int .i64 (10))), none, 0, none⟩] []) (.cond (.tmp 17) (.seq (.region 0 [
    ⟨(some 2), .move (.const (.bool false)), none, 0, none⟩] []) (.ret)) (.skip))))) (.region 0 [
    ⟨(some 18), .bin .add (.tmp 10) (.const (.int .i64 (1))), none, 0, none⟩,
    ⟨(some 10), .move (.tmp 18), none, 0, none⟩] []))))))) (.seq (.region 0 [
    ⟨(some 2), .move (.const (.bool true)), none, 0, none⟩] []) (.ret)))), [.tmp 2], true⟩
def s15 : Sig := ⟨(.cons (.v (.list .job)) .nil), [], ((.v .bool), []), []⟩
def l15_0 (all0 : (List Job)) (nx2 : ((Int × Unit) × Unit) → Option Bool) (z3 : Int) : Option Bool :=
  cond (decide (z3 < (List.length all0 : Int)))
  (cond (decide (0 ≤ z3))
  (Option.bind (all0[Int.toNat z3]?) fun y4 =>
  cond (decide (10 < (List.length y4.after : Int)))
  (some false)
  (nx2 ((IntKind.wrap .i64 (z3 + 1), ()), ())))
  (none))
  (some true)
def F15 (L : Lp)  (all0 : (List Job)) : Option Bool :=
  cond (decide (30 < (List.length all0 : Int)))
  (some false)
  (L (fun (s1 : ((Int × Unit) × Unit)) nx2 => l15_0 all0 nx2 s1.1.1) ((0, ()), ()))
theorem e15 (L : Lp)  (x : s15.args.den) (h : denH s15.heap) : nrun [] L n15 s15 x h = F15 L  x.1 := by kernel_rfl
def f15 : (List Job) → Option Bool := F15 (@LN LOOPS) 
@[reducible] def t15 : Ent := ⟨15, s15, fun x h => f15 x.1⟩
theorem k15 : chkNF Try.prog Try.f15 n15 = true := by kernel_rfl
theorem ok15 : NOk Try.prog t15 := NOk.body (T := []) mixed nall_nil (oneEach_of (by kernel_rfl)) Try.func15 k15 (by kernel_rfl) (fun x h => e15 _  x h)
/- drayage/drayageref07.in -/
def n118 : NFunc := ⟨15, .seq (.region 0 [
    ⟨(some 6), .move (.const (.bool false)), none, 0, none⟩] []) (.seq (.region 0 [
    ⟨(some 7), .move (.tmp 1), none, 0, none⟩,
    ⟨(some 8), .move (.tmp 0), none, 0, none⟩,
    ⟨(some 9), .bin .leq (.tmp 7) (.tmp 8), none, 0, none⟩,
    ⟨(some 10), .move (.tmp 9), none, 0, none⟩,
    ⟨(some 11), .move (.tmp 0), (some (10, true)), 0, none⟩,
    ⟨(some 12), .move (.tmp 2), (some (10, true)), 0, none⟩,
    ⟨(some 13), .bin .leq (.tmp 11) (.tmp 12), (some (10, true)), 0, none⟩,
    ⟨(some 14), .pick (.tmp 10) (.tmp 13) (.const (.bool false)), none, 0, none⟩,
    ⟨(some 6), .move (.tmp 14), none, 0, none⟩] []) (.ret)), [.tmp 6], true⟩
def s118 : Sig := ⟨(.cons (.v (.int .i64)) (.cons (.v (.int .i64)) (.cons (.v (.int .i64)) .nil))), [], ((.v .bool), []), []⟩
def F118 (L : Lp)  (an0 : Int) (lo1 : Int) (hi2 : Int) : Option Bool :=
  cond (decide (lo1 ≤ an0))
  (some (decide (an0 ≤ hi2)))
  (some false)
theorem e118 (L : Lp)  (x : s118.args.den) (h : denH s118.heap) : nrun [] L n118 s118 x h = F118 L  x.1 x.2.1 x.2.2.1 := by kernel_rfl
def f118 : Int → Int → Int → Option Bool := F118 (@LN LOOPS) 
@[reducible] def t118 : Ent := ⟨118, s118, fun x h => f118 x.1 x.2.1 x.2.2.1⟩
theorem k118 : chkNF Try.prog Try.f118 n118 = true := by kernel_rfl
theorem ok118 : NOk Try.prog t118 := NOk.body (T := []) mixed nall_nil (oneEach_of (by kernel_rfl)) Try.func118 k118 (by kernel_rfl) (fun x h => e118 _  x h)
/- drayage/drayageref02.right -/
def n98 : NFunc := ⟨9, .seq (.region 0 [
    ⟨(some 2), .move (.const (.bool false)), none, 0, none⟩] []) (.seq (.region 0 [
    ⟨(some 3), .move (.tmp 0), none, 0, none⟩,
    ⟨(some 4), .bin .geq (.tmp 3) (.const (.int .i64 (0))), none, 0, none⟩,
    ⟨(some 5), .move (.tmp 4), none, 0, none⟩,
    ⟨(some 6), .move (.tmp 0), (some (5, true)), 0, none⟩,
    ⟨(some 7), .bin .leq (.tmp 6) (.const (.int .i64 (1048576))), (some (5, true)), 0, none⟩,
    ⟨(some 8), .pick (.tmp 5) (.tmp 7) (.const (.bool false)), none, 0, none⟩,
    ⟨(some 2), .move (.tmp 8), none, 0, none⟩] []) (.ret)), [.tmp 2], true⟩
def s98 : Sig := ⟨(.cons (.v (.int .i64)) .nil), [], ((.v .bool), []), []⟩
def F98 (L : Lp)  (an0 : Int) : Option Bool :=
  cond (decide (0 ≤ an0))
  (some (decide (an0 ≤ 1048576)))
  (some false)
theorem e98 (L : Lp)  (x : s98.args.den) (h : denH s98.heap) : nrun [] L n98 s98 x h = F98 L  x.1 := by kernel_rfl
def f98 : Int → Option Bool := F98 (@LN LOOPS) 
@[reducible] def t98 : Ent := ⟨98, s98, fun x h => f98 x.1⟩
theorem k98 : chkNF Try.prog Try.f98 n98 = true := by kernel_rfl
theorem ok98 : NOk Try.prog t98 := NOk.body (T := []) mixed nall_nil (oneEach_of (by kernel_rfl)) Try.func98 k98 (by kernel_rfl) (fun x h => e98 _  x h)
/- drayage/drayageref02.Right -/
def n46 : NFunc := ⟨21, .seq (.region 1 [
    ⟨(some 1), .box 4 (.tmp 0), none, 0, none⟩,
    ⟨(some 2), .move (.const (.bool false)), none, 1, none⟩] []) (.seq (.region 16 [
    ⟨(some 3), .fieldAddr 0 (.tmp 1), none, 0, none⟩,
    ⟨(some 4), .load false 1 (.tmp 3), none, 0, none⟩,
    ⟨(some 5), .call (.func 98) [(false, (.tmp 4))] false 4, none, 0, none⟩,
    ⟨(some 6), .move (.tmp 5), none, 4, none⟩,
    ⟨(some 7), .fieldAddr 1 (.tmp 1), (some (6, true)), 4, none⟩,
    ⟨(some 8), .load false 1 (.tmp 7), (some (6, true)), 4, none⟩,
    ⟨(some 9), .call (.func 98) [(false, (.tmp 8))] false 4, (some (6, true)), 4, none⟩,
    ⟨(some 10), .pick (.tmp 6) (.tmp 9) (.const (.bool false)), none, 8, none⟩,
    ⟨(some 11), .move (.tmp 10), none, 8, none⟩,
    ⟨(some 12), .fieldAddr 2 (.tmp 1), (some (11, true)), 8, none⟩,
    ⟨(some 13), .load false 1 (.tmp 12), (some (11, true)), 8, none⟩,
    ⟨(some 14), .call (.func 98) [(false, (.tmp 13))] false 4, (some (11, true)), 8, none⟩,
    ⟨(some 15), .pick (.tmp 11) (.tmp 14) (.const (.bool false)), none, 12, none⟩,
    ⟨(some 16), .move (.tmp 15), none, 12, none⟩,
    ⟨(some 17), .fieldAddr 3 (.tmp 1), (some (16, true)), 12, none⟩,
    ⟨(some 18), .load false 1 (.tmp 17), (some (16, true)), 12, none⟩,
    ⟨(some 19), .call (.func 98) [(false, (.tmp 18))] false 4, (some (16, true)), 12, none⟩,
    ⟨(some 20), .pick (.tmp 16) (.tmp 19) (.const (.bool false)), none, 16, none⟩,
    ⟨(some 2), .move (.tmp 20), none, 16, none⟩] []) (.ret)), [.tmp 2], true⟩
def s46 : Sig := ⟨(.cons (.v .res) .nil), [], ((.v .bool), []), []⟩
def F46 (L : Lp) (g98 : Int → Option Bool) (a0 : Res) : Option Bool :=
  Option.bind (g98 a0.cpu) fun r1 =>
  cond r1
  (Option.bind (g98 a0.mem) fun r2 =>
  cond r2
  (Option.bind (g98 a0.gpu) fun r3 =>
  cond r3
  (Option.bind (g98 a0.lic) fun r4 =>
  some r4)
  (some false))
  (some false))
  (some false)
theorem e46 (L : Lp) (g98 : Int → Option Bool) (x : s46.args.den) (h : denH s46.heap) : nrun [⟨98, s98, fun x h => g98 x.1⟩] L n46 s46 x h = F46 L g98 x.1 := by kernel_rfl
def f46 : Res → Option Bool := F46 (@LN LOOPS) f98
@[reducible] def t46 : Ent := ⟨46, s46, fun x h => f46 x.1⟩
theorem k46 : chkNF Try.prog Try.f46 n46 = true := by kernel_rfl
theorem ok46 : NOk Try.prog t46 := NOk.body (T := [t98]) mixed (nall_cons ok98 nall_nil) (oneEach_of (by kernel_rfl)) Try.func46 k46 (by kernel_rfl) (fun x h => e46 _ _ x h)
/- drayage/drayageref07.nodes -/
def n119 : NFunc := ⟨22, .seq (.region 1 [
    ⟨(some 1), .box 18 (.tmp 0), none, 0, none⟩,
    ⟨(some 2), .move (.const (.bool false)), none, 1, none⟩] []) (.seq (.seq (.region 0 [
    ⟨(some 3), .move (.const (.int .i64 (0))), none, 0, none⟩] []) (.block 0 (.loop [1, 3] ⟨[(1, (.ptr 0 0 0)), (3, (.v (.int .i64)))], [], [.one false .spec]⟩ (.seq (.seq (.region 0 [
    ⟨(some 4), .move (.tmp 3), none, 0, none⟩,
    ⟨(some 5), .fieldAddr 0 (.tmp 1), none, 0, none⟩,
    ⟨(some 6), .load false 1 (.tmp 5), none, 0, none⟩,
    ⟨(some 7), .len (.tmp 6), none, 0, none⟩,
    ⟨(some 8), .bin .lss (.tmp 4) (.tmp 7), none, 0, none⟩] []) (.cond (.tmp 8) (.skip) (.exit 0))) (.seq (.block 1 (.seq (.region 4 [
    ⟨(some 11), .fieldAddr 0 (.tmp 1), none, 0, none⟩,
    ⟨(some 12), .load false 1 (.tmp 11), none, 0, none⟩,
    ⟨(some 13), .move (.tmp 3), none, 0, none⟩,
    ⟨(some 14), .indexSl 4 (.tmp 12) (.tmp 13), none, 0, none⟩,
    ⟨(some 15), .load true 4 (.tmp 14), none, 0, none⟩,
    ⟨(some 16), .call (.func 46) [(false, (.tmp 15))] false 4, none, 0, none⟩,
    ⟨(some 17), .un .not (.tmp 16), none, 4, none⟩] []) (.cond (.tmp 17) (.seq (.region 0 [
    ⟨(some 2), .move (.const (.bool false)), none, 0, none⟩] []) (.ret)) (.skip)))) (.region 0 [
    ⟨(some 9), .move (.tmp 3), none, 0, none⟩,
    ⟨(some 10), .bin .add (.tmp 9) (.const (.int .i64 (1))), none, 0, none⟩,
    ⟨(some 3), .move (.tmp 10), none, 0, none⟩] [])))))) (.seq (.region 4 [
    ⟨(some 18), .fieldAddr 0 (.tmp 1), none, 0, none⟩,
    ⟨(some 19), .load false 1 (.tmp 18), none, 0, none⟩,
    ⟨(some 20), .len (.tmp 19), none, 0, none⟩,
    ⟨(some 21), .call (.func 118) [(false, (.tmp 20)), (false, (.const (.int .i64 (1)))), (false, (.const (.int .i64 (16))))] false 4, none, 0, none⟩,
    ⟨(some 2), .move (.tmp 21), none, 4, none⟩] []) (.ret))), [.tmp 2], true⟩
def s119 : Sig := ⟨(.cons (.v .spec) .nil), [], ((.v .bool), []), []⟩
def l119_0 (g46 : Res → Option Bool) (g118 : Int → Int → Int → Option Bool) (nx2 : ((Unit × (Int × Unit)) × (Spec × Unit)) → Option Bool) (i3 : Int) (z4 : Spec) : Option Bool :=
  cond (decide (i3 < (List.length z4.nodes : Int)))
  (cond (decide (0 ≤ i3))
  (Option.bind (z4.nodes[Int.toNat i3]?) fun y5 =>
  Option.bind (g46 y5) fun r6 =>
  cond (!r6)
  (some false)
  (nx2 (((), IntKind.wrap .i64 (i3 + 1), ()), (z4, ()))))
  (none))
  (Option.bind (g118 (List.length z4.nodes : Int) 1 16) fun r7 =>
  some r7)
def F119 (L : Lp) (g46 : Res → Option Bool) (g118 : Int → Int → Int → Option Bool) (as0 : Spec) : Option Bool :=
  L (fun (s1 : ((Unit × (Int × Unit)) × (Spec × Unit))) nx2 => l119_0 g46 g118 nx2 s1.1.2.1 s1.2.1) (((), 0, ()), (as0, ()))
theorem e119 (L : Lp) (g46 : Res → Option Bool) (g118 : Int → Int → Int → Option Bool) (x : s119.args.den) (h : denH s119.heap) : nrun [⟨46, s46, fun x h => g46 x.1⟩, ⟨118, s118, fun x h => g118 x.1 x.2.1 x.2.2.1⟩] L n119 s119 x h = F119 L g46 g118 x.1 := by kernel_rfl
def f119 : Spec → Option Bool := F119 (@LN LOOPS) f46 f118
@[reducible] def t119 : Ent := ⟨119, s119, fun x h => f119 x.1⟩
theorem k119 : chkNF Try.prog Try.f119 n119 = true := by kernel_rfl
theorem ok119 : NOk Try.prog t119 := NOk.body (T := [t46, t118]) mixed (nall_cons ok46 (nall_cons ok118 nall_nil)) (oneEach_of (by kernel_rfl)) Try.func119 k119 (by kernel_rfl) (fun x h => e119 _ _ _ x h)
/- drayage/drayageref07.Rising -/
def n157 : NFunc := ⟨41, .seq (.region 0 [
    ⟨(some 4), .move (.const (.bool false)), none, 0, none⟩] []) (.seq (.seq (.region 0 [
    ⟨(some 5), .move (.const (.int .i64 (0))), none, 0, none⟩] []) (.block 0 (.loop [0, 1, 5] ⟨[(5, (.v (.int .i64)))], [0, 1], []⟩ (.seq (.seq (.region 0 [
    ⟨(some 6), .move (.tmp 5), none, 0, none⟩,
    ⟨(some 7), .move (.tmp 0), none, 0, none⟩,
    ⟨(some 8), .len (.tmp 7), none, 0, none⟩,
    ⟨(some 9), .bin .lss (.tmp 6) (.tmp 8), none, 0, none⟩] []) (.cond (.tmp 9) (.skip) (.exit 0))) (.seq (.block 1 (.seq (.region 0 [
    ⟨(some 12), .move (.tmp 0), none, 0, (some ([], none))⟩,
    ⟨(some 13), .move (.tmp 5), none, 0, (some ([], none))⟩,
    ⟨(some 14), .indexSl 1 (.tmp 12) (.tmp 13), none, 0, (some ([], none))⟩,
    ⟨(some 15), .load false 1 (.tmp 14), none, 0, (some ([], none))⟩,
    ⟨(some 16), .bin .lss (.tmp 15) (.const (.int .i64 (0))), none, 0, (some ([], none))⟩,
    ⟨(some 17), .move (.tmp 16), none, 0, (some ([], none))⟩,
    ⟨(some 18), .move (.tmp 0), (some (17, false)), 0, (some ([], none))⟩,
    ⟨(some 19), .move (.tmp 5), (some (17, false)), 0, (some ([], none))⟩,
    ⟨(some 20), .indexSl 1 (.tmp 18) (.tmp 19), (some (17, false)), 0, (some ([], none))⟩,
    ⟨(some 21), .load false 1 (.tmp 20), (some (17, false)), 0, (some ([], none))⟩,
    ⟨(some 22), .move (.tmp 1), (some (17, false)), 0, (some ([], none))⟩,
    ⟨(some 23), .bin .geq (.tmp 21) (.tmp 22), (some (17, false)), 0, (some ([], none))⟩,
    ⟨(some 24), .pick (.tmp 17) (.const (.bool true)) (.tmp 23), none, 0, (some ([], none))⟩,
    ⟨(some 25), .move (.tmp 24), none, 0, (some ([], none))⟩,
    ⟨(some 26), .move (.tmp 5), (some (25, false)), 0, (some ([], none))⟩,
    ⟨(some 27), .bin .gtr (.tmp 26) (.const (.int .i64 (0))), (some (25, false)), 0, (some ([], none))⟩,
    ⟨(some 28), .move (.tmp 27), (some (25, false)), 0, (some ([], none))⟩,
    ⟨(some 29), .move (.tmp 0), (some (28, true)), 0, (some ([], none))⟩,
    ⟨(some 30), .move (.tmp 5), (some (28, true)), 0, (some ([], none))⟩,
    ⟨(some 31), .bin .sub (.tmp 30) (.const (.int .i64 (1))), (some (28, true)), 0, (some ([], none))⟩,
    ⟨(some 32), .indexSl 1 (.tmp 29) (.tmp 31), (some (28, true)), 0, (some ([], none))⟩,
    ⟨(some 33), .load false 1 (.tmp 32), (some (28, true)), 0, (some ([], none))⟩,
    ⟨(some 34), .move (.tmp 0), (some (28, true)), 0, (some ([], none))⟩,
    ⟨(some 35), .move (.tmp 5), (some (28, true)), 0, (some ([], none))⟩,
    ⟨(some 36), .indexSl 1 (.tmp 34) (.tmp 35), (some (28, true)), 0, (some ([], none))⟩,
    ⟨(some 37), .load false 1 (.tmp 36), (some (28, true)), 0, (some ([], none))⟩,
    ⟨(some 38), .bin .geq (.tmp 33) (.tmp 37), (some (28, true)), 0, (some ([], none))⟩,
    ⟨(some 39), .pick (.tmp 28) (.tmp 38) (.const (.bool false)), (some (25, false)), 0, (some ([], none))⟩,
    ⟨(some 40), .pick (.tmp 25) (.const (.bool true)) (.tmp 39), none, 0, (some ([], none))⟩] []) (.cond (.tmp 40) (.seq (.region 0 [
    ⟨(some 4), .move (.const (.bool false)), none, 0, none⟩] []) (.ret)) (.skip)))) (.region 0 [
    ⟨(some 10), .move (.tmp 5), none, 0, none⟩,
    ⟨(some 11), .bin .add (.tmp 10) (.const (.int .i64 (1))), none, 0, none⟩,
    ⟨(some 5), .move (.tmp 11), none, 0, none⟩] [])))))) (.seq (.region 0 [
    ⟨(some 4), .move (.const (.bool true)), none, 0, none⟩] []) (.ret))), [.tmp 4], true⟩
def s157 : Sig := ⟨(.cons (.v (.list (.int .i64))) (.cons (.v (.int .i64)) .nil)), [], ((.v .bool), []), []⟩
def l157_0 (al0 : (List Int)) (below1 : Int) (nx3 : ((Int × Unit) × Unit) → Option Bool) (i4 : Int) : Option Bool :=
  cond (decide (i4 < (List.length al0 : Int)))
  (cond (decide (0 ≤ i4))
  (Option.bind (al0[Int.toNat i4]?) fun y5 =>
  cond (decide (y5 < 0))
  (some false)
  (cond (decide (0 ≤ i4))
  (Option.bind (al0[Int.toNat i4]?) fun y6 =>
  cond (decide (below1 ≤ y6))
  (some false)
  (cond (decide (0 < i4))
  (cond (decide (0 ≤ (IntKind.wrap .i64 (i4 - 1))))
  (Option.bind (al0[Int.toNat (IntKind.wrap .i64 (i4 - 1))]?) fun y7 =>
  cond (decide (0 ≤ i4))
  (Option.bind (al0[Int.toNat i4]?) fun y8 =>
  cond (decide (y8 ≤ y7))
  (some false)
  (nx3 ((IntKind.wrap .i64 (i4 + 1), ()), ())))
  (none))
  (none))
  (nx3 ((IntKind.wrap .i64 (i4 + 1), ()), ()))))
  (none)))
  (none))
  (some true)
def F157 (L : Lp)  (al0 : (List Int)) (below1 : Int) : Option Bool :=
  L (fun (s2 : ((Int × Unit) × Unit)) nx3 => l157_0 al0 below1 nx3 s2.1.1) ((0, ()), ())
theorem e157 (L : Lp)  (x : s157.args.den) (h : denH s157.heap) : nrun [] L n157 s157 x h = F157 L  x.1 x.2.1 := by kernel_rfl
def f157 : (List Int) → Int → Option Bool := F157 (@LN LOOPS) 
@[reducible] def t157 : Ent := ⟨157, s157, fun x h => f157 x.1 x.2.1⟩
theorem k157 : chkNF Try.prog Try.f157 n157 = true := by kernel_rfl
theorem ok157 : NOk Try.prog t157 := NOk.body (T := []) mixed nall_nil (oneEach_of (by kernel_rfl)) Try.func157 k157 (by kernel_rfl) (fun x h => e157 _  x h)
/- drayage/drayageref07.parts -/
def n120 : NFunc := ⟨34, .seq (.region 1 [
    ⟨(some 1), .box 18 (.tmp 0), none, 0, none⟩,
    ⟨(some 2), .move (.const (.bool false)), none, 1, none⟩] []) (.seq (.seq (.region 0 [
    ⟨(some 3), .move (.const (.int .i64 (0))), none, 0, none⟩] []) (.block 0 (.loop [1, 3] ⟨[(1, (.ptr 0 0 0)), (3, (.v (.int .i64)))], [], [.one false .spec]⟩ (.seq (.seq (.region 0 [
    ⟨(some 4), .move (.tmp 3), none, 0, none⟩,
    ⟨(some 5), .fieldAddr 1 (.tmp 1), none, 0, none⟩,
    ⟨(some 6), .load false 1 (.tmp 5), none, 0, none⟩,
    ⟨(some 7), .len (.tmp 6), none, 0, none⟩,
    ⟨(some 8), .bin .lss (.tmp 4) (.tmp 7), none, 0, none⟩] []) (.cond (.tmp 8) (.skip) (.exit 0))) (.seq (.block 1 (.seq (.region 4 [
    ⟨(some 11), .fieldAddr 1 (.tmp 1), none, 0, (some ([], none))⟩,
    ⟨(some 12), .load false 1 (.tmp 11), none, 0, (some ([], none))⟩,
    ⟨(some 13), .move (.tmp 3), none, 0, (some ([], none))⟩,
    ⟨(some 14), .indexSl 1 (.tmp 12) (.tmp 13), none, 0, (some ([], none))⟩,
    ⟨(some 15), .load false 1 (.tmp 14), none, 0, (some ([], none))⟩,
    ⟨(some 16), .len (.tmp 15), none, 0, (some ([], none))⟩,
    ⟨(some 17), .bin .lss (.tmp 16) (.const (.int .i64 (1))), none, 0, (some ([], none))⟩,
    ⟨(some 18), .move (.tmp 17), none, 0, (some ([], none))⟩,
    ⟨(some 19), .fieldAddr 1 (.tmp 1), (some (18, false)), 0, (some ([], none))⟩,
    ⟨(some 20), .load false 1 (.tmp 19), (some (18, false)), 0, (some ([], none))⟩,
    ⟨(some 21), .move (.tmp 3), (some (18, false)), 0, (some ([], none))⟩,
    ⟨(some 22), .indexSl 1 (.tmp 20) (.tmp 21), (some (18, false)), 0, (some ([], none))⟩,
    ⟨(some 23), .load false 1 (.tmp 22), (some (18, false)), 0, (some ([], none))⟩,
    ⟨(some 24), .fieldAddr 0 (.tmp 1), (some (18, false)), 0, (some ([], none))⟩,
    ⟨(some 25), .load false 1 (.tmp 24), (some (18, false)), 0, (some ([], none))⟩,
    ⟨(some 26), .len (.tmp 25), (some (18, false)), 0, (some ([], none))⟩,
    ⟨(some 27), .call (.func 157) [(false, (.tmp 23)), (false, (.tmp 26))] false 4, (some (18, false)), 0, (some ([], none))⟩,
    ⟨(some 28), .un .not (.tmp 27), (some (18, false)), 4, (some ([0, 1, 2, 3], none))⟩,
    ⟨(some 29), .pick (.tmp 18) (.const (.bool true)) (.tmp 28), none, 4, (some ([0, 1, 2, 3], none))⟩] []) (.cond (.tmp 29) (.seq (.region 0 [
    ⟨(some 2), .move (.const (.bool false)), none, 0, none⟩] []) (.ret)) (.skip)))) (.region 0 [
    ⟨(some 9), .move (.tmp 3), none, 0, none⟩,
    ⟨(some 10), .bin .add (.tmp 9) (.const (.int .i64 (1))), none, 0, none⟩,
    ⟨(some 3), .move (.tmp 10), none, 0, none⟩] [])))))) (.seq (.region 4 [
    ⟨(some 30), .fieldAddr 1 (.tmp 1), none, 0, none⟩,
    ⟨(some 31), .load false 1 (.tmp 30), none, 0, none⟩,
    ⟨(some 32), .len (.tmp 31), none, 0, none⟩,
    ⟨(some 33), .call (.func 118) [(false, (.tmp 32)), (false, (.const (.int .i64 (1)))), (false, (.const (.int .i64 (8))))] false 4, none, 0, none⟩,
    ⟨(some 2), .move (.tmp 33), none, 4, none⟩] []) (.ret))), [.tmp 2], true⟩
def s120 : Sig := ⟨(.cons (.v .spec) .nil), [], ((.v .bool), []), []⟩
def l120_0 (g157 : (List Int) → Int → Option Bool) (g118 : Int → Int → Int → Option Bool) (nx2 : ((Unit × (Int × Unit)) × (Spec × Unit)) → Option Bool) (i3 : Int) (z4 : Spec) : Option Bool :=
  cond (decide (i3 < (List.length z4.parts : Int)))
  (cond (decide (0 ≤ i3))
  (Option.bind (z4.parts[Int.toNat i3]?) fun y5 =>
  cond (decide ((List.length y5 : Int) < 1))
  (some false)
  (cond (decide (0 ≤ i3))
  (Option.bind (z4.parts[Int.toNat i3]?) fun y6 =>
  Option.bind (g157 y6 (List.length z4.nodes : Int)) fun r7 =>
  cond (!r7)
  (some false)
  (nx2 (((), IntKind.wrap .i64 (i3 + 1), ()), (z4, ()))))
  (none)))
  (none))
  (Option.bind (g118 (List.length z4.parts : Int) 1 8) fun r8 =>
  some r8)
def F120 (L : Lp) (g157 : (List Int) → Int → Option Bool) (g118 : Int → Int → Int → Option Bool) (as0 : Spec) : Option Bool :=
  L (fun (s1 : ((Unit × (Int × Unit)) × (Spec × Unit))) nx2 => l120_0 g157 g118 nx2 s1.1.2.1 s1.2.1) (((), 0, ()), (as0, ()))
theorem e120 (L : Lp) (g157 : (List Int) → Int → Option Bool) (g118 : Int → Int → Int → Option Bool) (x : s120.args.den) (h : denH s120.heap) : nrun [⟨157, s157, fun x h => g157 x.1 x.2.1⟩, ⟨118, s118, fun x h => g118 x.1 x.2.1 x.2.2.1⟩] L n120 s120 x h = F120 L g157 g118 x.1 := by kernel_rfl
def f120 : Spec → Option Bool := F120 (@LN LOOPS) f157 f118
@[reducible] def t120 : Ent := ⟨120, s120, fun x h => f120 x.1⟩
theorem k120 : chkNF Try.prog Try.f120 n120 = true := by kernel_rfl
theorem ok120 : NOk Try.prog t120 := NOk.body (T := [t157, t118]) mixed (nall_cons ok157 (nall_cons ok118 nall_nil)) (oneEach_of (by kernel_rfl)) Try.func120 k120 (by kernel_rfl) (fun x h => e120 _ _ _ x h)
/- drayage/drayageref07.queues -/
def n121 : NFunc := ⟨64, .seq (.region 1 [
    ⟨(some 1), .box 18 (.tmp 0), none, 0, none⟩,
    ⟨(some 2), .move (.const (.bool false)), none, 1, none⟩] []) (.seq (.seq (.region 0 [
    ⟨(some 3), .move (.const (.int .i64 (0))), none, 0, none⟩] []) (.block 0 (.loop [1, 3] ⟨[(1, (.ptr 0 0 0)), (3, (.v (.int .i64)))], [], [.one false .spec]⟩ (.seq (.seq (.region 0 [
    ⟨(some 5), .move (.tmp 3), none, 0, none⟩,
    ⟨(some 6), .fieldAddr 2 (.tmp 1), none, 0, none⟩,
    ⟨(some 7), .load false 1 (.tmp 6), none, 0, none⟩,
    ⟨(some 8), .len (.tmp 7), none, 0, none⟩,
    ⟨(some 9), .bin .lss (.tmp 5) (.tmp 8), none, 0, none⟩] []) (.cond (.tmp 9) (.skip) (.exit 0))) (.seq (.block 1 (.seq (.region 1 [
    ⟨(some 12), .fieldAddr 2 (.tmp 1), none, 0, none⟩,
    ⟨(some 13), .load false 1 (.tmp 12), none, 0, none⟩,
    ⟨(some 14), .move (.tmp 3), none, 0, none⟩,
    ⟨(some 15), .indexSl 6 (.tmp 13) (.tmp 14), none, 0, none⟩,
    ⟨(some 16), .load true 6 (.tmp 15), none, 0, none⟩,
    ⟨(some 4), .alloc [.int .i64 (0), .zsl, .int .i64 (0), .int .i64 (0), .int .i64 (0), .int .i64 (0)], none, 0, none⟩,
    ⟨none, .store 6 (.tmp 4) (.tmp 16), none, 1, none⟩] []) (.seq (.region 20 [
    ⟨(some 17), .fieldAddr 0 (.tmp 4), none, 0, none⟩,
    ⟨(some 18), .load false 1 (.tmp 17), none, 0, none⟩,
    ⟨(some 19), .bin .lss (.tmp 18) (.const (.int .i64 (0))), none, 0, none⟩,
    ⟨(some 20), .move (.tmp 19), none, 0, none⟩,
    ⟨(some 21), .fieldAddr 0 (.tmp 4), (some (20, false)), 0, none⟩,
    ⟨(some 22), .load false 1 (.tmp 21), (some (20, false)), 0, none⟩,
    ⟨(some 23), .fieldAddr 1 (.tmp 1), (some (20, false)), 0, none⟩,
    ⟨(some 24), .load false 1 (.tmp 23), (some (20, false)), 0, none⟩,
    ⟨(some 25), .len (.tmp 24), (some (20, false)), 0, none⟩,
    ⟨(some 26), .bin .geq (.tmp 22) (.tmp 25), (some (20, false)), 0, none⟩,
    ⟨(some 27), .pick (.tmp 20) (.const (.bool true)) (.tmp 26), none, 0, none⟩,
    ⟨(some 28), .move (.tmp 27), none, 0, none⟩,
    ⟨(some 29), .fieldAddr 1 (.tmp 4), (some (28, false)), 0, none⟩,
    ⟨(some 30), .load false 1 (.tmp 29), (some (28, false)), 0, none⟩,
    ⟨(some 31), .fieldAddr 3 (.tmp 1), (some (28, false)), 0, none⟩,
    ⟨(some 32), .load false 1 (.tmp 31), (some (28, false)), 0, none⟩,
    ⟨(some 33), .call (.func 157) [(false, (.tmp 30)), (false, (.tmp 32))] false 4, (some (28, false)), 0, none⟩,
    ⟨(some 34), .un .not (.tmp 33), (some (28, false)), 4, none⟩,
    ⟨(some 35), .pick (.tmp 28) (.const (.bool true)) (.tmp 34), none, 4, none⟩,
    ⟨(some 36), .move (.tmp 35), none, 4, none⟩,
    ⟨(some 37), .fieldAddr 2 (.tmp 4), (some (36, false)), 4, none⟩,
    ⟨(some 38), .load false 1 (.tmp 37), (some (36, false)), 4, none⟩,
    ⟨(some 39), .call (.func 118) [(false, (.tmp 38)), (false, (.const (.int .i64 (1)))), (false, (.const (.int .i64 (256))))] false 4, (some (36, false)), 4, none⟩,
    ⟨(some 40), .un .not (.tmp 39), (some (36, false)), 8, none⟩,
    ⟨(some 41), .pick (.tmp 36) (.const (.bool true)) (.tmp 40), none, 8, none⟩,
    ⟨(some 42), .move (.tmp 41), none, 8, none⟩,
    ⟨(some 43), .fieldAddr 3 (.tmp 4), (some (42, false)), 8, none⟩,
    ⟨(some 44), .load false 1 (.tmp 43), (some (42, false)), 8, none⟩,
    ⟨(some 45), .call (.func 118) [(false, (.tmp 44)), (false, (.const (.int .i64 (1)))), (false, (.const (.int .i64 (256))))] false 4, (some (42, false)), 8, none⟩,
    ⟨(some 46), .un .not (.tmp 45), (some (42, false)), 12, none⟩,
    ⟨(some 47), .pick (.tmp 42) (.const (.bool true)) (.tmp 46), none, 12, none⟩,
    ⟨(some 48), .move (.tmp 47), none, 12, none⟩,
    ⟨(some 49), .fieldAddr 4 (.tmp 4), (some (48, false)), 12, none⟩,
    ⟨(some 50), .load false 1 (.tmp 49), (some (48, false)), 12, none⟩,
    ⟨(some 51), .call (.func 118) [(false, (.tmp 50)), (false, (.const (.int .i64 (1)))), (false, (.const (.int .i64 (256))))] false 4, (some (48, false)), 12, none⟩,
    ⟨(some 52), .un .not (.tmp 51), (some (48, false)), 16, none⟩,
    ⟨(some 53), .pick (.tmp 48) (.const (.bool true)) (.tmp 52), none, 16, none⟩,
    ⟨(some 54), .move (.tmp 53), none, 16, none⟩,
    ⟨(some 55), .fieldAddr 5 (.tmp 4), (some (54, false)), 16, none⟩,
    ⟨(some 56), .load false 1 (.tmp 55), (some (54, false)), 16, none⟩,
    ⟨(some 57), .call (.func 118) [(false, (.tmp 56)), (false, (.const (.int .i64 (0)))), (false, (.const (.int .i64 (100))))] false 4, (some (54, false)), 16, none⟩,
    ⟨(some 58), .un .not (.tmp 57), (some (54, false)), 20, none⟩,
    ⟨(some 59), .pick (.tmp 54) (.const (.bool true)) (.tmp 58), none, 20, none⟩] []) (.cond (.tmp 59) (.seq (.region 0 [
    ⟨(some 2), .move (.const (.bool false)), none, 0, none⟩] []) (.ret)) (.skip))))) (.region 0 [
    ⟨(some 10), .move (.tmp 3), none, 0, none⟩,
    ⟨(some 11), .bin .add (.tmp 10) (.const (.int .i64 (1))), none, 0, none⟩,
    ⟨(some 3), .move (.tmp 11), none, 0, none⟩] [])))))) (.seq (.region 4 [
    ⟨(some 60), .fieldAddr 2 (.tmp 1), none, 0, none⟩,
    ⟨(some 61), .load false 1 (.tmp 60), none, 0, none⟩,
    ⟨(some 62), .len (.tmp 61), none, 0, none⟩,
    ⟨(some 63), .call (.func 118) [(false, (.tmp 62)), (false, (.const (.int .i64 (1)))), (false, (.const (.int .i64 (8))))] false 4, none, 0, none⟩,
    ⟨(some 2), .move (.tmp 63), none, 4, none⟩] []) (.ret))), [.tmp 2], true⟩
def s121 : Sig := ⟨(.cons (.v .spec) .nil), [], ((.v .bool), []), []⟩
def l121_0 (g157 : (List Int) → Int → Option Bool) (g118 : Int → Int → Int → Option Bool) (nx2 : ((Unit × (Int × Unit)) × (Spec × Unit)) → Option Bool) (i3 : Int) (z4 : Spec) : Option Bool :=
  cond (decide (i3 < (List.length z4.queues : Int)))
  (cond (decide (0 ≤ i3))
  (Option.bind (z4.queues[Int.toNat i3]?) fun y5 =>
  cond (decide (y5.part < 0))
  (some false)
  (cond (decide ((List.length z4.parts : Int) ≤ y5.part))
  (some false)
  (Option.bind (g157 y5.users z4.users) fun r6 =>
  cond (!r6)
  (some false)
  (Option.bind (g118 y5.maxJobs 1 256) fun r7 =>
  cond (!r7)
  (some false)
  (Option.bind (g118 y5.maxRun 1 256) fun r8 =>
  cond (!r8)
  (some false)
  (Option.bind (g118 y5.maxUser 1 256) fun r9 =>
  cond (!r9)
  (some false)
  (Option.bind (g118 y5.qos 0 100) fun r10 =>
  cond (!r10)
  (some false)
  (nx2 (((), IntKind.wrap .i64 (i3 + 1), ()), (z4, ()))))))))))
  (none))
  (Option.bind (g118 (List.length z4.queues : Int) 1 8) fun r11 =>
  some r11)
def F121 (L : Lp) (g157 : (List Int) → Int → Option Bool) (g118 : Int → Int → Int → Option Bool) (as0 : Spec) : Option Bool :=
  L (fun (s1 : ((Unit × (Int × Unit)) × (Spec × Unit))) nx2 => l121_0 g157 g118 nx2 s1.1.2.1 s1.2.1) (((), 0, ()), (as0, ()))
theorem e121 (L : Lp) (g157 : (List Int) → Int → Option Bool) (g118 : Int → Int → Int → Option Bool) (x : s121.args.den) (h : denH s121.heap) : nrun [⟨157, s157, fun x h => g157 x.1 x.2.1⟩, ⟨118, s118, fun x h => g118 x.1 x.2.1 x.2.2.1⟩] L n121 s121 x h = F121 L g157 g118 x.1 := by kernel_rfl
def f121 : Spec → Option Bool := F121 (@LN LOOPS) f157 f118
@[reducible] def t121 : Ent := ⟨121, s121, fun x h => f121 x.1⟩
theorem k121 : chkNF Try.prog Try.f121 n121 = true := by kernel_rfl
theorem ok121 : NOk Try.prog t121 := NOk.body (T := [t157, t118]) mixed (nall_cons ok157 (nall_cons ok118 nall_nil)) (oneEach_of (by kernel_rfl)) Try.func121 k121 (by kernel_rfl) (fun x h => e121 _ _ _ x h)
/- drayage/drayageref07.Flaw -/
def n63 : NFunc := ⟨83, .seq (.region 1 [
    ⟨(some 1), .box 18 (.tmp 0), none, 0, none⟩,
    ⟨(some 2), .move (.const (.str [])), none, 1, none⟩] []) (.seq (.region 1 [
    ⟨(some 8), .fieldAddr 4 (.tmp 1), none, 0, none⟩,
    ⟨(some 9), .load true 4 (.tmp 8), none, 0, none⟩,
    ⟨(some 3), .alloc [.int .i64 (0), .int .i64 (0), .int .i64 (0), .int .i64 (0)], none, 0, none⟩,
    ⟨none, .store 4 (.tmp 3) (.tmp 9), none, 1, none⟩] []) (.seq (.meet [1, 4] [] ⟨[(1, (.ptr 0 0 0)), (4, (.v .bool))], [], [.one false .spec]⟩ (.region 16 [
    ⟨(some 10), .fieldAddr 0 (.tmp 3), none, 0, none⟩,
    ⟨(some 11), .load false 1 (.tmp 10), none, 0, none⟩,
    ⟨(some 12), .call (.func 118) [(false, (.tmp 11)), (false, (.const (.int .i64 (0)))), (false, (.const (.int .i64 (1000))))] false 4, none, 0, none⟩,
    ⟨(some 13), .move (.tmp 12), none, 4, none⟩,
    ⟨(some 14), .fieldAddr 1 (.tmp 3), (some (13, true)), 4, none⟩,
    ⟨(some 15), .load false 1 (.tmp 14), (some (13, true)), 4, none⟩,
    ⟨(some 16), .call (.func 118) [(false, (.tmp 15)), (false, (.const (.int .i64 (0)))), (false, (.const (.int .i64 (1000))))] false 4, (some (13, true)), 4, none⟩,
    ⟨(some 17), .pick (.tmp 13) (.tmp 16) (.const (.bool false)), none, 8, none⟩,
    ⟨(some 18), .move (.tmp 17), none, 8, none⟩,
    ⟨(some 19), .fieldAddr 2 (.tmp 3), (some (18, true)), 8, none⟩,
    ⟨(some 20), .load false 1 (.tmp 19), (some (18, true)), 8, none⟩,
    ⟨(some 21), .call (.func 118) [(false, (.tmp 20)), (false, (.const (.int .i64 (0)))), (false, (.const (.int .i64 (1000))))] false 4, (some (18, true)), 8, none⟩,
    ⟨(some 22), .pick (.tmp 18) (.tmp 21) (.const (.bool false)), none, 12, none⟩,
    ⟨(some 23), .move (.tmp 22), none, 12, none⟩,
    ⟨(some 24), .fieldAddr 3 (.tmp 3), (some (23, true)), 12, none⟩,
    ⟨(some 25), .load false 1 (.tmp 24), (some (23, true)), 12, none⟩,
    ⟨(some 26), .call (.func 118) [(false, (.tmp 25)), (false, (.const (.int .i64 (0)))), (false, (.const (.int .i64 (1000))))] false 4, (some (23, true)), 12, none⟩,
    ⟨(some 27), .pick (.tmp 23) (.tmp 26) (.const (.bool false)), none, 16, none⟩,
    ⟨(some 4), .move (.tmp 27), none, 16, none⟩] [])) (.seq (.region 1 [
    ⟨(some 28), .buildSlice 1 15 true [.str []] [(0, (.const (.str [78, 111, 100, 101, 115]))), (1, (.const (.str [80, 97, 114, 116, 115]))), (2, (.const (.str [85, 115, 101, 114, 115]))), (3, (.const (.str [81, 117, 101, 117, 101, 115]))), (4, (.const (.str [87, 101, 105, 103, 104, 116, 115]))), (5, (.const (.str [68, 101, 99, 97, 121]))), (6, (.const (.str [77, 111, 100, 101]))), (7, (.const (.str [74, 111, 98, 115]))), (8, (.const (.str [73, 100, 115]))), (9, (.const (.str [86, 101, 114, 115, 105, 111, 110, 115]))), (10, (.const (.str [76, 105, 110, 103, 101, 114]))), (11, (.const (.str [75, 101, 101, 112]))), (12, (.const (.str [73, 110]))), (13, (.const (.str [79, 117, 116]))), (14, (.const (.str [67, 97, 99, 104, 101])))], none, 0, none⟩,
    ⟨(some 5), .move (.tmp 28), none, 1, none⟩] []) (.seq (.region 57 [
    ⟨(some 29), .load true 18 (.tmp 1), none, 0, (some ([], none))⟩,
    ⟨(some 30), .call (.func 119) [(false, (.tmp 29))] true 4, none, 0, (some ([], none))⟩,
    ⟨(some 31), .load true 18 (.tmp 1), none, 4, (some ([], none))⟩,
    ⟨(some 32), .call (.func 120) [(false, (.tmp 31))] true 4, none, 4, (some ([0, 1, 2, 3], none))⟩,
    ⟨(some 33), .fieldAddr 3 (.tmp 1), none, 8, (some ([], none))⟩,
    ⟨(some 34), .load false 1 (.tmp 33), none, 8, (some ([], none))⟩,
    ⟨(some 35), .call (.func 118) [(false, (.tmp 34)), (false, (.const (.int .i64 (1)))), (false, (.const (.int .i64 (8))))] true 4, none, 8, (some ([0, 1, 2, 3, 4, 5, 6, 7], none))⟩,
    ⟨(some 36), .load true 18 (.tmp 1), none, 12, (some ([], none))⟩,
    ⟨(some 37), .call (.func 121) [(false, (.tmp 36))] true 4, none, 12, (some ([0, 1, 2, 3, 4, 5, 6, 7, 8, 9, 10, 11], none))⟩,
    ⟨(some 38), .move (.tmp 4), none, 16, (some ([], none))⟩,
    ⟨(some 39), .fieldAddr 8 (.tmp 1), none, 16, (some ([], none))⟩,
    ⟨(some 40), .load false 1 (.tmp 39), none, 16, (some ([], none))⟩,
    ⟨(some 41), .call (.func 118) [(false, (.tmp 40)), (false, (.const (.int .i64 (1)))), (false, (.const (.int .i64 (16))))] true 4, none, 16, (some ([0, 1, 2, 3, 4, 5, 6, 7, 8, 9, 10, 11, 12, 13, 14, 15], none))⟩,
    ⟨(some 42), .fieldAddr 9 (.tmp 1), none, 20, (some ([], none))⟩,
    ⟨(some 43), .load false 1 (.tmp 42), none, 20, (some ([], none))⟩,
    ⟨(some 44), .call (.func 118) [(false, (.tmp 43)), (false, (.const (.int .i64 (1)))), (false, (.const (.int .i64 (2))))] true 4, none, 20, (some ([0, 1, 2, 3, 4, 5, 6, 7, 8, 9, 10, 11, 12, 13, 14, 15, 16, 17, 18, 19], none))⟩,
    ⟨(some 45), .fieldAddr 10 (.tmp 1), none, 24, (some ([], none))⟩,
    ⟨(some 46), .load false 1 (.tmp 45), none, 24, (some ([], none))⟩,
    ⟨(some 47), .call (.func 118) [(false, (.tmp 46)), (false, (.const (.int .i64 (1)))), (false, (.const (.int .i64 (256))))] true 4, none, 24, (some ([0, 1, 2, 3, 4, 5, 6, 7, 8, 9, 10, 11, 12, 13, 14, 15, 16, 17, 18, 19, 20, 21, 22, 23], none))⟩,
    ⟨(some 48), .fieldAddr 11 (.tmp 1), none, 28, (some ([], none))⟩,
    ⟨(some 49), .load false 1 (.tmp 48), none, 28, (some ([], none))⟩,
    ⟨(some 50), .call (.func 118) [(false, (.tmp 49)), (false, (.const (.int .i64 (1)))), (false, (.const (.int .i64 (1048576))))] true 4, none, 28, (some ([0, 1, 2, 3, 4, 5, 6, 7, 8, 9, 10, 11, 12, 13, 14, 15, 16, 17, 18, 19, 20, 21, 22, 23, 24, 25, 26, 27], none))⟩,
    ⟨(some 51), .fieldAddr 12 (.tmp 1), none, 32, (some ([], none))⟩,
    ⟨(some 52), .load false 1 (.tmp 51), none, 32, (some ([], none))⟩,
    ⟨(some 53), .call (.func 118) [(false, (.tmp 52)), (false, (.const (.int .i64 (1)))), (false, (.const (.int .i64 (65536))))] true 4, none, 32, (some ([0, 1, 2, 3, 4, 5, 6, 7, 8, 9, 10, 11, 12, 13, 14, 15, 16, 17, 18, 19, 20, 21, 22, 23, 24, 25, 26, 27, 28, 29, 30, 31], none))⟩,
    ⟨(some 54), .fieldAddr 13 (.tmp 1), none, 36, (some ([], none))⟩,
    ⟨(some 55), .load false 1 (.tmp 54), none, 36, (some ([], none))⟩,
    ⟨(some 56), .call (.func 118) [(false, (.tmp 55)), (false, (.const (.int .i64 (0)))), (false, (.const (.int .i64 (65536))))] true 4, none, 36, (some ([0, 1, 2, 3, 4, 5, 6, 7, 8, 9, 10, 11, 12, 13, 14, 15, 16, 17, 18, 19, 20, 21, 22, 23, 24, 25, 26, 27, 28, 29, 30, 31, 32, 33, 34, 35], none))⟩,
    ⟨(some 57), .fieldAddr 14 (.tmp 1), none, 40, (some ([], none))⟩,
    ⟨(some 58), .load false 1 (.tmp 57), none, 40, (some ([], none))⟩,
    ⟨(some 59), .call (.func 118) [(false, (.tmp 58)), (false, (.const (.int .i64 (1)))), (false, (.const (.int .i64 (16))))] true 4, none, 40, (some ([0, 1, 2, 3, 4, 5, 6, 7, 8, 9, 10, 11, 12, 13, 14, 15, 16, 17, 18, 19, 20, 21, 22, 23, 24, 25, 26, 27, 28, 29, 30, 31, 32, 33, 34, 35, 36, 37, 38, 39], none))⟩,
    ⟨(some 60), .fieldAddr 15 (.tmp 1), none, 44, (some ([], none))⟩,
    ⟨(some 61), .load false 1 (.tmp 60), none, 44, (some ([], none))⟩,
    ⟨(some 62), .call (.func 118) [(false, (.tmp 61)), (false, (.const (.int .i64 (1)))), (false, (.const (.int .i64 (8))))] true 4, none, 44, (some ([0, 1, 2, 3, 4, 5, 6, 7, 8, 9, 10, 11, 12, 13, 14, 15, 16, 17, 18, 19, 20, 21, 22, 23, 24, 25, 26, 27, 28, 29, 30, 31, 32, 33, 34, 35, 36, 37, 38, 39, 40, 41, 42, 43], none))⟩,
    ⟨(some 63), .fieldAddr 16 (.tmp 1), none, 48, (some ([], none))⟩,
    ⟨(some 64), .load false 1 (.tmp 63), none, 48, (some ([], none))⟩,
    ⟨(some 65), .call (.func 118) [(false, (.tmp 64)), (false, (.const (.int .i64 (1)))), (false, (.const (.int .i64 (16))))] true 4, none, 48, (some ([0, 1, 2, 3, 4, 5, 6, 7, 8, 9, 10, 11, 12, 13, 14, 15, 16, 17, 18, 19, 20, 21, 22, 23, 24, 25, 26, 27, 28, 29, 30, 31, 32, 33, 34, 35, 36, 37, 38, 39, 40, 41, 42, 43, 44, 45, 46, 47], none))⟩,
    ⟨(some 66), .fieldAddr 17 (.tmp 1), none, 52, (some ([], none))⟩,
    ⟨(some 67), .load false 1 (.tmp 66), none, 52, (some ([], none))⟩,
    ⟨(some 68), .call (.func 118) [(false, (.tmp 67)), (false, (.const (.int .i64 (0)))), (false, (.const (.int .i64 (16))))] false 4, none, 52, (some ([0, 1, 2, 3, 4, 5, 6, 7, 8, 9, 10, 11, 12, 13, 14, 15, 16, 17, 18, 19, 20, 21, 22, 23, 24, 25, 26, 27, 28, 29, 30, 31, 32, 33, 34, 35, 36, 37, 38, 39, 40, 41, 42, 43, 44, 45, 46, 47, 48, 49, 50, 51], none))⟩,
    ⟨(some 69), .buildSlice 1 15 true [.bool false] [(0, (.tmp 30)), (1, (.tmp 32)), (2, (.tmp 35)), (3, (.tmp 37)), (4, (.tmp 38)), (5, (.tmp 41)), (6, (.tmp 44)), (7, (.tmp 47)), (8, (.tmp 50)), (9, (.tmp 53)), (10, (.tmp 56)), (11, (.tmp 59)), (12, (.tmp 62)), (13, (.tmp 65)), (14, (.tmp 68))], none, 56, (some ([0, 1, 2, 3, 4, 5, 6, 7, 8, 9, 10, 11, 12, 13, 14, 15, 16, 17, 18, 19, 20, 21, 22, 23, 24, 25, 26, 27, 28, 29, 30, 31, 32, 33, 34, 35, 36, 37, 38, 39, 40, 41, 42, 43, 44, 45, 46, 47, 48, 49, 50, 51, 52, 53, 54, 55], none))⟩,
    ⟨(some 6), .move (.tmp 69), none, 57, (some ([0, 1, 2, 3, 4, 5, 6, 7, 8, 9, 10, 11, 12, 13, 14, 15, 16, 17, 18, 19, 20, 21, 22, 23, 24, 25, 26, 27, 28, 29, 30, 31, 32, 33, 34, 35, 36, 37, 38, 39, 40, 41, 42, 43, 44, 45, 46, 47, 48, 49, 50, 51, 52, 53, 54, 55, 56], none))⟩] []) (.seq (.seq (.region 0 [
    ⟨(some 7), .move (.const (.int .i64 (0))), none, 0, none⟩] []) (.block 0 (.loopU [5, 6, 7] 16 (.seq (.seq (.region 0 [
    ⟨(some 70), .move (.tmp 7), none, 0, none⟩,
    ⟨(some 71), .bin .lss (.tmp 70) (.const (.int .i64 (15))), none, 0, none⟩] []) (.cond (.tmp 71) (.skip) (.exit 0))) (.seq (.block 1 (.seq (.region 0 [
    ⟨(some 74), .move (.tmp 6), none, 0, none⟩,
    ⟨(some 75), .move (.tmp 7), none, 0, none⟩,
    ⟨(some 76), .indexSl 1 (.tmp 74) (.tmp 75), none, 0, none⟩,
    ⟨(some 77), .load false 1 (.tmp 76), none, 0, none⟩,
    ⟨(some 78), .un .not (.tmp 77), none, 0, none⟩] []) (.cond (.tmp 78) (.seq (.region 0 [
    ⟨(some 79), .move (.tmp 5), none, 0, none⟩,
    ⟨(some 80), .move (.tmp 7), none, 0, none⟩,
    ⟨(some 81), .indexSl 1 (.tmp 79) (.tmp 80), none, 0, none⟩,
    ⟨(some 82), .load false 1 (.tmp 81), none, 0, none⟩,
    ⟨(some 2), .move (.tmp 82), none, 0, none⟩] []) (.ret)) (.skip)))) (.region 0 [
    ⟨(some 72), .move (.tmp 7), none, 0, none⟩,
    ⟨(some 73), .bin .add (.tmp 72) (.const (.int .i64 (1))), none, 0, none⟩,
    ⟨(some 7), .move (.tmp 73), none, 0, none⟩] [])))))) (.seq (.region 0 [
    ⟨(some 2), .move (.const (.str [])), none, 0, none⟩] []) (.ret))))))), [.tmp 2], true⟩
def s63 : Sig := ⟨(.cons (.v .spec) .nil), [], ((.v .str), []), []⟩
def F63 (L : Lp) (g118 : Int → Int → Int → Option Bool) (g119 : Spec → Option Bool) (g120 : Spec → Option Bool) (g121 : Spec → Option Bool) (as0 : Spec) : Option (List UInt8) :=
  Option.bind (α := ((Unit × (Bool × Unit)) × (Spec × Unit)))
  (Option.bind (g118 as0.weights.age 0 1000) fun r1 =>
  cond r1
  (Option.bind (g118 as0.weights.size 0 1000) fun r2 =>
  cond r2
  (Option.bind (g118 as0.weights.qos 0 1000) fun r3 =>
  cond r3
  (Option.bind (g118 as0.weights.share 0 1000) fun r4 =>
  some (((), r4, ()), (as0, ())))
  (some (((), false, ()), (as0, ()))))
  (some (((), false, ()), (as0, ()))))
  (some (((), false, ()), (as0, ())))) fun x5 =>
  Option.bind (g119 x5.2.1) fun r6 =>
  Option.bind (g120 x5.2.1) fun r7 =>
  Option.bind (g118 x5.2.1.users 1 8) fun r8 =>
  Option.bind (g121 x5.2.1) fun r9 =>
  Option.bind (g118 x5.2.1.decay 1 16) fun r10 =>
  Option.bind (g118 x5.2.1.mode 1 2) fun r11 =>
  Option.bind (g118 x5.2.1.jobs 1 256) fun r12 =>
  Option.bind (g118 x5.2.1.ids 1 1048576) fun r13 =>
  Option.bind (g118 x5.2.1.versions 1 65536) fun r14 =>
  Option.bind (g118 x5.2.1.linger 0 65536) fun r15 =>
  Option.bind (g118 x5.2.1.keep 1 16) fun r16 =>
  Option.bind (g118 x5.2.1.inn 1 8) fun r17 =>
  Option.bind (g118 x5.2.1.out 1 16) fun r18 =>
  Option.bind (g118 x5.2.1.cache 0 16) fun r19 =>
  cond (!r6)
  (some ([78, 111, 100, 101, 115] : List UInt8))
  (cond (!r7)
  (some ([80, 97, 114, 116, 115] : List UInt8))
  (cond (!r8)
  (some ([85, 115, 101, 114, 115] : List UInt8))
  (cond (!r9)
  (some ([81, 117, 101, 117, 101, 115] : List UInt8))
  (cond (!x5.1.2.1)
  (some ([87, 101, 105, 103, 104, 116, 115] : List UInt8))
  (cond (!r10)
  (some ([68, 101, 99, 97, 121] : List UInt8))
  (cond (!r11)
  (some ([77, 111, 100, 101] : List UInt8))
  (cond (!r12)
  (some ([74, 111, 98, 115] : List UInt8))
  (cond (!r13)
  (some ([73, 100, 115] : List UInt8))
  (cond (!r14)
  (some ([86, 101, 114, 115, 105, 111, 110, 115] : List UInt8))
  (cond (!r15)
  (some ([76, 105, 110, 103, 101, 114] : List UInt8))
  (cond (!r16)
  (some ([75, 101, 101, 112] : List UInt8))
  (cond (!r17)
  (some ([73, 110] : List UInt8))
  (cond (!r18)
  (some ([79, 117, 116] : List UInt8))
  (cond (!r19)
  (some ([67, 97, 99, 104, 101] : List UInt8))
  (some ([] : List UInt8))))))))))))))))
theorem e63 (L : Lp) (g118 : Int → Int → Int → Option Bool) (g119 : Spec → Option Bool) (g120 : Spec → Option Bool) (g121 : Spec → Option Bool) (x : s63.args.den) (h : denH s63.heap) : nrun [⟨118, s118, fun x h => g118 x.1 x.2.1 x.2.2.1⟩, ⟨119, s119, fun x h => g119 x.1⟩, ⟨120, s120, fun x h => g120 x.1⟩, ⟨121, s121, fun x h => g121 x.1⟩] L n63 s63 x h = F63 L g118 g119 g120 g121 x.1 := by kernel_rfl
def f63 : Spec → Option (List UInt8) := F63 (@LN LOOPS) f118 f119 f120 f121
@[reducible] def t63 : Ent := ⟨63, s63, fun x h => f63 x.1⟩
theorem k63 : chkNF Try.prog Try.f63 n63 = true := by kernel_rfl
theorem ok63 : NOk Try.prog t63 := NOk.body (T := [t118, t119, t120, t121]) mixed (nall_cons ok118 (nall_cons ok119 (nall_cons ok120 (nall_cons ok121 nall_nil)))) (oneEach_of (by kernel_rfl)) Try.func63 k63 (by kernel_rfl) (fun x h => e63 _ _ _ _ _ x h)
/- drayage/drayageref07.Right -/
def n16 : NFunc := ⟨6, .seq (.region 1 [
    ⟨(some 1), .box 18 (.tmp 0), none, 0, none⟩,
    ⟨(some 2), .move (.const (.bool false)), none, 1, none⟩] []) (.seq (.region 4 [
    ⟨(some 3), .load true 18 (.tmp 1), none, 0, none⟩,
    ⟨(some 4), .call (.func 63) [(false, (.tmp 3))] false 4, none, 0, none⟩,
    ⟨(some 5), .bin .eql (.tmp 4) (.const (.str [])), none, 4, none⟩,
    ⟨(some 2), .move (.tmp 5), none, 4, none⟩] []) (.ret)), [.tmp 2], true⟩
def s16 : Sig := ⟨(.cons (.v .spec) .nil), [], ((.v .bool), []), []⟩
def F16 (L : Lp) (g63 : Spec → Option (List UInt8)) (as0 : Spec) : Option Bool :=
  Option.bind (g63 as0) fun r1 =>
  some (decide (r1 = ([] : List UInt8)))
theorem e16 (L : Lp) (g63 : Spec → Option (List UInt8)) (x : s16.args.den) (h : denH s16.heap) : nrun [⟨63, s63, fun x h => g63 x.1⟩] L n16 s16 x h = F16 L g63 x.1 := by kernel_rfl
def f16 : Spec → Option Bool := F16 (@LN LOOPS) f63
@[reducible] def t16 : Ent := ⟨16, s16, fun x h => f16 x.1⟩
theorem k16 : chkNF Try.prog Try.f16 n16 = true := by kernel_rfl
theorem ok16 : NOk Try.prog t16 := NOk.body (T := [t63]) mixed (nall_cons ok63 nall_nil) (oneEach_of (by kernel_rfl)) Try.func16 k16 (by kernel_rfl) (fun x h => e16 _ _ x h)
/- drayage/drayageref16.Same -/
def n68 : NFunc := ⟨127, .seq (.region 2 [
    ⟨(some 2), .box 18 (.tmp 0), none, 0, none⟩,
    ⟨(some 3), .box 18 (.tmp 1), none, 1, none⟩,
    ⟨(some 4), .move (.const (.bool false)), none, 2, none⟩] []) (.seq (.seq (.region 0 [
    ⟨(some 6), .fieldAddr 9 (.tmp 2), none, 0, none⟩,
    ⟨(some 7), .load false 1 (.tmp 6), none, 0, none⟩,
    ⟨(some 8), .len (.tmp 7), none, 0, none⟩,
    ⟨(some 9), .fieldAddr 9 (.tmp 3), none, 0, none⟩,
    ⟨(some 10), .load false 1 (.tmp 9), none, 0, none⟩,
    ⟨(some 11), .len (.tmp 10), none, 0, none⟩,
    ⟨(some 12), .bin .neq (.tmp 8) (.tmp 11), none, 0, none⟩] []) (.cond (.tmp 12) (.seq (.region 0 [
    ⟨(some 4), .move (.const (.bool false)), none, 0, none⟩] []) (.ret)) (.skip))) (.seq (.seq (.region 0 [
    ⟨(some 5), .move (.const (.int .i64 (0))), none, 0, none⟩] []) (.block 0 (.loop [2, 3, 5] ⟨[(2, (.ptr 0 0 0)), (3, (.ptr 1 0 0)), (5, (.v (.int .i64)))], [], [.one false .job, .one false .job]⟩ (.seq (.seq (.region 0 [
    ⟨(some 13), .move (.tmp 5), none, 0, none⟩,
    ⟨(some 14), .fieldAddr 9 (.tmp 2), none, 0, none⟩,
    ⟨(some 15), .load false 1 (.tmp 14), none, 0, none⟩,
    ⟨(some 16), .len (.tmp 15), none, 0, none⟩,
    ⟨(some 17), .bin .lss (.tmp 13) (.tmp 16), none, 0, none⟩] []) (.cond (.tmp 17) (.skip) (.exit 0))) (.seq (.block 1 (.seq (.region 0 [
    ⟨(some 20), .fieldAddr 9 (.tmp 2), none, 0, (some ([], none))⟩,
    ⟨(some 21), .load false 1 (.tmp 20), none, 0, (some ([], none))⟩,
    ⟨(some 22), .move (.tmp 5), none, 0, (some ([], none))⟩,
    ⟨(some 23), .indexSl 2 (.tmp 21) (.tmp 22), none, 0, (some ([], none))⟩,
    ⟨(some 24), .load true 2 (.tmp 23), none, 0, (some ([], none))⟩,
    ⟨(some 25), .fieldAddr 9 (.tmp 3), none, 0, (some ([], none))⟩,
    ⟨(some 26), .load false 1 (.tmp 25), none, 0, (some ([], none))⟩,
    ⟨(some 27), .move (.tmp 5), none, 0, (some ([], none))⟩,
    ⟨(some 28), .indexSl 2 (.tmp 26) (.tmp 27), none, 0, (some ([], none))⟩,
    ⟨(some 29), .load true 2 (.tmp 28), none, 0, (some ([], none))⟩,
    ⟨(some 30), .eqAgg (true, [.int .i64, .bool]) (.tmp 24) (.tmp 29), none, 0, (some ([], none))⟩] []) (.cond (.tmp 30) (.seq (.region 0 [
    ⟨(some 4), .move (.const (.bool false)), none, 0, none⟩] []) (.ret)) (.skip)))) (.region 0 [
    ⟨(some 18), .move (.tmp 5), none, 0, none⟩,
    ⟨(some 19), .bin .add (.tmp 18) (.const (.int .i64 (1))), none, 0, none⟩,
    ⟨(some 5), .move (.tmp 19), none, 0, none⟩] [])))))) (.seq (.region 0 [
    ⟨(some 31), .fieldAddr 0 (.tmp 2), none, 0, none⟩,
    ⟨(some 32), .load false 1 (.tmp 31), none, 0, none⟩,
    ⟨(some 33), .fieldAddr 0 (.tmp 3), none, 0, none⟩,
    ⟨(some 34), .load false 1 (.tmp 33), none, 0, none⟩,
    ⟨(some 35), .bin .eql (.tmp 32) (.tmp 34), none, 0, none⟩,
    ⟨(some 36), .move (.tmp 35), none, 0, none⟩,
    ⟨(some 37), .fieldAddr 1 (.tmp 2), (some (36, true)), 0, none⟩,
    ⟨(some 38), .load false 1 (.tmp 37), (some (36, true)), 0, none⟩,
    ⟨(some 39), .fieldAddr 1 (.tmp 3), (some (36, true)), 0, none⟩,
    ⟨(some 40), .load false 1 (.tmp 39), (some (36, true)), 0, none⟩,
    ⟨(some 41), .bin .eql (.tmp 38) (.tmp 40), (some (36, true)), 0, none⟩,
    ⟨(some 42), .pick (.tmp 36) (.tmp 41) (.const (.bool false)), none, 0, none⟩,
    ⟨(some 43), .move (.tmp 42), none, 0, none⟩,
    ⟨(some 44), .fieldAddr 2 (.tmp 2), (some (43, true)), 0, none⟩,
    ⟨(some 45), .load false 1 (.tmp 44), (some (43, true)), 0, none⟩,
    ⟨(some 46), .fieldAddr 2 (.tmp 3), (some (43, true)), 0, none⟩,
    ⟨(some 47), .load false 1 (.tmp 46), (some (43, true)), 0, none⟩,
    ⟨(some 48), .bin .eql (.tmp 45) (.tmp 47), (some (43, true)), 0, none⟩,
    ⟨(some 49), .pick (.tmp 43) (.tmp 48) (.const (.bool false)), none, 0, none⟩,
    ⟨(some 50), .move (.tmp 49), none, 0, none⟩,
    ⟨(some 51), .fieldAddr 3 (.tmp 2), (some (50, true)), 0, none⟩,
    ⟨(some 52), .load false 1 (.tmp 51), (some (50, true)), 0, none⟩,
    ⟨(some 53), .fieldAddr 3 (.tmp 3), (some (50, true)), 0, none⟩,
    ⟨(some 54), .load false 1 (.tmp 53), (some (50, true)), 0, none⟩,
    ⟨(some 55), .bin .eql (.tmp 52) (.tmp 54), (some (50, true)), 0, none⟩,
    ⟨(some 56), .pick (.tmp 50) (.tmp 55) (.const (.bool false)), none, 0, none⟩,
    ⟨(some 57), .move (.tmp 56), none, 0, none⟩,
    ⟨(some 58), .fieldAddr 4 (.tmp 2), (some (57, true)), 0, none⟩,
    ⟨(some 59), .load true 4 (.tmp 58), (some (57, true)), 0, none⟩,
    ⟨(some 60), .fieldAddr 4 (.tmp 3), (some (57, true)), 0, none⟩,
    ⟨(some 61), .load true 4 (.tmp 60), (some (57, true)), 0, none⟩,
    ⟨(some 62), .eqAgg (false, [.int .i64, .int .i64, .int .i64, .int .i64]) (.tmp 59) (.tmp 61), (some (57, true)), 0, none⟩,
    ⟨(some 63), .pick (.tmp 57) (.tmp 62) (.const (.bool false)), none, 0, none⟩,
    ⟨(some 64), .move (.tmp 63), none, 0, none⟩,
    ⟨(some 65), .fieldAddr 8 (.tmp 2), (some (64, true)), 0, none⟩,
    ⟨(some 66), .load false 1 (.tmp 65), (some (64, true)), 0, none⟩,
    ⟨(some 67), .fieldAddr 8 (.tmp 3), (some (64, true)), 0, none⟩,
    ⟨(some 68), .load false 1 (.tmp 67), (some (64, true)), 0, none⟩,
    ⟨(some 69), .bin .eql (.tmp 66) (.tmp 68), (some (64, true)), 0, none⟩,
    ⟨(some 70), .pick (.tmp 64) (.tmp 69) (.const (.bool false)), none, 0, none⟩,
    ⟨(some 71), .move (.tmp 70), none, 0, none⟩,
    ⟨(some 72), .fieldAddr 10 (.tmp 2), (some (71, true)), 0, none⟩,
    ⟨(some 73), .load false 1 (.tmp 72), (some (71, true)), 0, none⟩,
    ⟨(some 74), .fieldAddr 10 (.tmp 3), (some (71, true)), 0, none⟩,
    ⟨(some 75), .load false 1 (.tmp 74), (some (71, true)), 0, none⟩,
    ⟨(some 76), .bin .eql (.tmp 73) (.tmp 75), (some (71, true)), 0, none⟩,
    ⟨(some 77), .pick (.tmp 71) (.tmp 76) (.const (.bool false)), none, 0, none⟩,
    ⟨(some 78), .move (.tmp 77), none, 0, none⟩,
    ⟨(some 79), .fieldAddr 11 (.tmp 2), (some (78, true)), 0, none⟩,
    ⟨(some 80), .load false 1 (.tmp 79), (some (78, true)), 0, none⟩,
    ⟨(some 81), .fieldAddr 11 (.tmp 3), (some (78, true)), 0, none⟩,
    ⟨(some 82), .load false 1 (.tmp 81), (some (78, true)), 0, none⟩,
    ⟨(some 83), .eqB false (.tmp 80) (.tmp 82), (some (78, true)), 0, none⟩,
    ⟨(some 84), .pick (.tmp 78) (.tmp 83) (.const (.bool false)), none, 0, none⟩,
    ⟨(some 85), .move (.tmp 84), none, 0, none⟩,
    ⟨(some 86), .fieldAddr 12 (.tmp 2), (some (85, true)), 0, none⟩,
    ⟨(some 87), .load false 1 (.tmp 86), (some (85, true)), 0, none⟩,
    ⟨(some 88), .fieldAddr 12 (.tmp 3), (some (85, true)), 0, none⟩,
    ⟨(some 89), .load false 1 (.tmp 88), (some (85, true)), 0, none⟩,
    ⟨(some 90), .eqB false (.tmp 87) (.tmp 89), (some (85, true)), 0, none⟩,
    ⟨(some 91), .pick (.tmp 85) (.tmp 90) (.const (.bool false)), none, 0, none⟩,
    ⟨(some 92), .move (.tmp 91), none, 0, none⟩,
    ⟨(some 93), .fieldAddr 13 (.tmp 2), (some (92, true)), 0, none⟩,
    ⟨(some 94), .load false 1 (.tmp 93), (some (92, true)), 0, none⟩,
    ⟨(some 95), .fieldAddr 13 (.tmp 3), (some (92, true)), 0, none⟩,
    ⟨(some 96), .load false 1 (.tmp 95), (some (92, true)), 0, none⟩,
    ⟨(some 97), .bin .eql (.tmp 94) (.tmp 96), (some (92, true)), 0, none⟩,
    ⟨(some 98), .pick (.tmp 92) (.tmp 97) (.const (.bool false)), none, 0, none⟩,
    ⟨(some 99), .move (.tmp 98), none, 0, none⟩,
    ⟨(some 100), .fieldAddr 14 (.tmp 2), (some (99, true)), 0, none⟩,
    ⟨(some 101), .load false 1 (.tmp 100), (some (99, true)), 0, none⟩,
    ⟨(some 102), .fieldAddr 14 (.tmp 3), (some (99, true)), 0, none⟩,
    ⟨(some 103), .load false 1 (.tmp 102), (some (99, true)), 0, none⟩,
    ⟨(some 104), .bin .eql (.tmp 101) (.tmp 103), (some (99, true)), 0, none⟩,
    ⟨(some 105), .pick (.tmp 99) (.tmp 104) (.const (.bool false)), none, 0, none⟩,
    ⟨(some 106), .move (.tmp 105), none, 0, none⟩,
    ⟨(some 107), .fieldAddr 15 (.tmp 2), (some (106, true)), 0, none⟩,
    ⟨(some 108), .load false 1 (.tmp 107), (some (106, true)), 0, none⟩,
    ⟨(some 109), .fieldAddr 15 (.tmp 3), (some (106, true)), 0, none⟩,
    ⟨(some 110), .load false 1 (.tmp 109), (some (106, true)), 0, none⟩,
    ⟨(some 111), .bin .eql (.tmp 108) (.tmp 110), (some (106, true)), 0, none⟩,
    ⟨(some 112), .pick (.tmp 106) (.tmp 111) (.const (.bool false)), none, 0, none⟩,
    ⟨(some 113), .move (.tmp 112), none, 0, none⟩,
    ⟨(some 114), .fieldAddr 16 (.tmp 2), (some (113, true)), 0, none⟩,
    ⟨(some 115), .load false 1 (.tmp 114), (some (113, true)), 0, none⟩,
    ⟨(some 116), .fieldAddr 16 (.tmp 3), (some (113, true)), 0, none⟩,
    ⟨(some 117), .load false 1 (.tmp 116), (some (113, true)), 0, none⟩,
    ⟨(some 118), .bin .eql (.tmp 115) (.tmp 117), (some (113, true)), 0, none⟩,
    ⟨(some 119), .pick (.tmp 113) (.tmp 118) (.const (.bool false)), none, 0, none⟩,
    ⟨(some 120), .move (.tmp 119), none, 0, none⟩,
    ⟨(some 121), .fieldAddr 17 (.tmp 2), (some (120, true)), 0, none⟩,
    ⟨(some 122), .load false 1 (.tmp 121), (some (120, true)), 0, none⟩,
    ⟨(some 123), .fieldAddr 17 (.tmp 3), (some (120, true)), 0, none⟩,
    ⟨(some 124), .load false 1 (.tmp 123), (some (120, true)), 0, none⟩,
    ⟨(some 125), .bin .eql (.tmp 122) (.tmp 124), (some (120, true)), 0, none⟩,
    ⟨(some 126), .pick (.tmp 120) (.tmp 125) (.const (.bool false)), none, 0, none⟩,
    ⟨(some 4), .move (.tmp 126), none, 0, none⟩] []) (.ret)))), [.tmp 4], true⟩
def s68 : Sig := ⟨(.cons (.v .job) (.cons (.v .job) .nil)), [], ((.v .bool), []), []⟩
def l68_0  (nx3 : ((Unit × (Unit × (Int × Unit))) × (Job × (Job × Unit))) → Option Bool) (i4 : Int) (z5 : Job) (z6 : Job) : Option Bool :=
  cond (decide (i4 < (List.length z5.after : Int)))
  (cond (decide (0 ≤ i4))
  (Option.bind (z5.after[Int.toNat i4]?) fun y7 =>
  cond (decide (0 ≤ i4))
  (Option.bind (z6.after[Int.toNat i4]?) fun y8 =>
  cond (!((decide (y7.job = y8.job)) && ((y7.ok == y8.ok) && true)))
  (some false)
  (nx3 (((), (), IntKind.wrap .i64 (i4 + 1), ()), (z5, z6, ()))))
  (none))
  (none))
  (cond (decide (z5.id = z6.id))
  (cond (decide (z5.user = z6.user))
  (cond (decide (z5.queue = z6.queue))
  (cond (decide (z5.many = z6.many))
  (cond ((decide (z5.need.cpu = z6.need.cpu)) && ((decide (z5.need.mem = z6.need.mem)) && ((decide (z5.need.gpu = z6.need.gpu)) && ((decide (z5.need.lic = z6.need.lic)) && true))))
  (cond (decide (z5.wall = z6.wall))
  (cond (decide (z5.state = z6.state))
  (cond (z5.ok == z6.ok)
  (cond (z5.kill == z6.kill)
  (cond (decide (z5.version = z6.version))
  (cond (decide (z5.born = z6.born))
  (cond (decide (z5.start = z6.start))
  (cond (decide (z5.fin = z6.fin))
  (some (decide (z5.array = z6.array)))
  (some false))
  (some false))
  (some false))
  (some false))
  (some false))
  (some false))
  (some false))
  (some false))
  (some false))
  (some false))
  (some false))
  (some false))
  (some false))
def F68 (L : Lp)  (a0 : Job) (b1 : Job) : Option Bool :=
  cond (!decide ((List.length a0.after : Int) = (List.length b1.after : Int)))
  (some false)
  (L (fun (s2 : ((Unit × (Unit × (Int × Unit))) × (Job × (Job × Unit)))) nx3 => l68_0 nx3 s2.1.2.2.1 s2.2.1 s2.2.2.1) (((), (), 0, ()), (a0, b1, ())))
theorem e68 (L : Lp)  (x : s68.args.den) (h : denH s68.heap) : nrun [] L n68 s68 x h = F68 L  x.1 x.2.1 := by kernel_rfl
def f68 : Job → Job → Option Bool := F68 (@LN LOOPS) 
@[reducible] def t68 : Ent := ⟨68, s68, fun x h => f68 x.1 x.2.1⟩
theorem k68 : chkNF Try.prog Try.f68 n68 = true := by kernel_rfl
theorem ok68 : NOk Try.prog t68 := NOk.body (T := []) mixed nall_nil (oneEach_of (by kernel_rfl)) Try.func68 k68 (by kernel_rfl) (fun x h => e68 _  x h)
/- drayage/drayageref18.Same -/
def n18 : NFunc := ⟨27, .seq (.region 0 [
    ⟨(some 4), .move (.const (.bool false)), none, 0, none⟩] []) (.seq (.seq (.region 0 [
    ⟨(some 6), .move (.tmp 0), none, 0, none⟩,
    ⟨(some 7), .len (.tmp 6), none, 0, none⟩,
    ⟨(some 8), .move (.tmp 1), none, 0, none⟩,
    ⟨(some 9), .len (.tmp 8), none, 0, none⟩,
    ⟨(some 10), .bin .neq (.tmp 7) (.tmp 9), none, 0, none⟩] []) (.cond (.tmp 10) (.seq (.region 0 [
    ⟨(some 4), .move (.const (.bool false)), none, 0, none⟩] []) (.ret)) (.skip))) (.seq (.seq (.region 0 [
    ⟨(some 5), .move (.const (.int .i64 (0))), none, 0, none⟩] []) (.block 0 (.loop [0, 1, 5] ⟨[(5, (.v (.int .i64)))], [0, 1], []⟩ (.seq (.seq (.region 0 [
    ⟨(some 11), .move (.tmp 5), none, 0, none⟩,
    ⟨(some 12), .move (.tmp 0), none, 0, none⟩,
    ⟨(some 13), .len (.tmp 12), none, 0, none⟩,
    ⟨(some 14), .bin .lss (.tmp 11) (.tmp 13), none, 0, none⟩] []) (.cond (.tmp 14) (.skip) (.exit 0))) (.seq (.block 1 (.seq (.region 4 [
    ⟨(some 17), .move (.tmp 0), none, 0, (some ([], none))⟩,
    ⟨(some 18), .move (.tmp 5), none, 0, (some ([], none))⟩,
    ⟨(some 19), .indexSl 18 (.tmp 17) (.tmp 18), none, 0, (some ([], none))⟩,
    ⟨(some 20), .load true 18 (.tmp 19), none, 0, (some ([], none))⟩,
    ⟨(some 21), .move (.tmp 1), none, 0, (some ([], none))⟩,
    ⟨(some 22), .move (.tmp 5), none, 0, (some ([], none))⟩,
    ⟨(some 23), .indexSl 18 (.tmp 21) (.tmp 22), none, 0, (some ([], none))⟩,
    ⟨(some 24), .load true 18 (.tmp 23), none, 0, (some ([], none))⟩,
    ⟨(some 25), .call (.func 68) [(false, (.tmp 20)), (false, (.tmp 24))] false 4, none, 0, (some ([], none))⟩,
    ⟨(some 26), .un .not (.tmp 25), none, 4, (some ([0, 1, 2, 3], none))⟩] []) (.cond (.tmp 26) (.seq (.region 0 [
    ⟨(some 4), .move (.const (.bool false)), none, 0, none⟩] []) (.ret)) (.skip)))) (.region 0 [
    ⟨(some 15), .move (.tmp 5), none, 0, none⟩,
    ⟨(some 16), .bin .add (.tmp 15) (.const (.int .i64 (1))), none, 0, none⟩,
    ⟨(some 5), .move (.tmp 16), none, 0, none⟩] [])))))) (.seq (.region 0 [
    ⟨(some 4), .move (.const (.bool true)), none, 0, none⟩] []) (.ret)))), [.tmp 4], true⟩
def s18 : Sig := ⟨(.cons (.v (.list .job)) (.cons (.v (.list .job)) .nil)), [], ((.v .bool), []), []⟩
def l18_0 (g68 : Job → Job → Option Bool) (a0 : (List Job)) (b1 : (List Job)) (nx3 : ((Int × Unit) × Unit) → Option Bool) (i4 : Int) : Option Bool :=
  cond (decide (i4 < (List.length a0 : Int)))
  (cond (decide (0 ≤ i4))
  (Option.bind (a0[Int.toNat i4]?) fun y5 =>
  cond (decide (0 ≤ i4))
  (Option.bind (b1[Int.toNat i4]?) fun y6 =>
  Option.bind (g68 y5 y6) fun r7 =>
  cond (!r7)
  (some false)
  (nx3 ((IntKind.wrap .i64 (i4 + 1), ()), ())))
  (none))
  (none))
  (some true)
def F18 (L : Lp) (g68 : Job → Job → Option Bool) (a0 : (List Job)) (b1 : (List Job)) : Option Bool :=
  cond (!decide ((List.length a0 : Int) = (List.length b1 : Int)))
  (some false)
  (L (fun (s2 : ((Int × Unit) × Unit)) nx3 => l18_0 g68 a0 b1 nx3 s2.1.1) ((0, ()), ()))
theorem e18 (L : Lp) (g68 : Job → Job → Option Bool) (x : s18.args.den) (h : denH s18.heap) : nrun [⟨68, s68, fun x h => g68 x.1 x.2.1⟩] L n18 s18 x h = F18 L g68 x.1 x.2.1 := by kernel_rfl
def f18 : (List Job) → (List Job) → Option Bool := F18 (@LN LOOPS) f68
@[reducible] def t18 : Ent := ⟨18, s18, fun x h => f18 x.1 x.2.1⟩
theorem k18 : chkNF Try.prog Try.f18 n18 = true := by kernel_rfl
theorem ok18 : NOk Try.prog t18 := NOk.body (T := [t68]) mixed (nall_cons ok68 nall_nil) (oneEach_of (by kernel_rfl)) Try.func18 k18 (by kernel_rfl) (fun x h => e18 _ _ x h)
/- drayage/drayagelaw22.RankSome -/
def n3 : NFunc := ⟨107, .seq (.region 2 [
    ⟨(some 3), .box 18 (.tmp 0), none, 0, none⟩,
    ⟨(some 5), .box 3 (.tmp 2), none, 1, none⟩,
    ⟨(some 6), .move (.const (.bool false)), none, 2, none⟩] []) (.seq (.seq (.region 4 [
    ⟨(some 17), .call (.func 13) [] false 4, none, 0, none⟩,
    ⟨(some 18), .un .not (.tmp 17), none, 4, none⟩] []) (.cond (.tmp 18) (.seq (.region 0 [
    ⟨(some 6), .move (.const (.bool false)), none, 0, none⟩] []) (.ret)) (.skip))) (.seq (.seq (.region 12 [
    ⟨(some 19), .load true 18 (.tmp 3), none, 0, none⟩,
    ⟨(some 20), .call (.func 14) [(false, (.tmp 19))] false 4, none, 0, none⟩,
    ⟨(some 21), .un .not (.tmp 20), none, 4, none⟩,
    ⟨(some 22), .move (.tmp 21), none, 4, none⟩,
    ⟨(some 23), .move (.tmp 1), (some (22, false)), 4, none⟩,
    ⟨(some 24), .call (.func 15) [(false, (.tmp 23))] false 4, (some (22, false)), 4, none⟩,
    ⟨(some 25), .un .not (.tmp 24), (some (22, false)), 8, none⟩,
    ⟨(some 26), .pick (.tmp 22) (.const (.bool true)) (.tmp 25), none, 8, none⟩,
    ⟨(some 27), .move (.tmp 26), none, 8, none⟩,
    ⟨(some 28), .fieldAddr 1 (.tmp 5), (some (27, false)), 8, none⟩,
    ⟨(some 29), .load false 1 (.tmp 28), (some (27, false)), 8, none⟩,
    ⟨(some 30), .len (.tmp 29), (some (27, false)), 8, none⟩,
    ⟨(some 31), .bin .gtr (.tmp 30) (.const (.int .i64 (20))), (some (27, false)), 8, none⟩,
    ⟨(some 32), .pick (.tmp 27) (.const (.bool true)) (.tmp 31), none, 8, none⟩,
    ⟨(some 33), .move (.tmp 32), none, 8, none⟩,
    ⟨(some 34), .load true 18 (.tmp 3), (some (33, false)), 8, none⟩,
    ⟨(some 35), .call (.func 16) [(false, (.tmp 34))] false 4, (some (33, false)), 8, none⟩,
    ⟨(some 36), .un .not (.tmp 35), (some (33, false)), 12, none⟩,
    ⟨(some 37), .pick (.tmp 33) (.const (.bool true)) (.tmp 36), none, 12, none⟩] []) (.cond (.tmp 37) (.seq (.region 0 [
    ⟨(some 6), .move (.const (.bool true)), none, 0, none⟩] []) (.ret)) (.skip))) (.seq (.region 1 [
    ⟨(some 38), .fieldAddr 0 (.tmp 5), none, 0, none⟩,
    ⟨(some 39), .load false 1 (.tmp 38), none, 0, none⟩,
    ⟨(some 40), .fieldAddr 1 (.tmp 5), none, 0, none⟩,
    ⟨(some 41), .load false 1 (.tmp 40), none, 0, none⟩,
    ⟨(some 42), .build [.int .i64 (0), .zsl] [(0, 1, (.tmp 39)), (1, 1, (.tmp 41))], none, 0, none⟩,
    ⟨(some 7), .alloc [.int .i64 (0), .zsl], none, 0, none⟩,
    ⟨none, .store 2 (.tmp 7) (.tmp 42), none, 1, none⟩] []) (.seq (.post [1, 3, 5, 7, 8, 9] [.mat 8 18 true, .mat 9 18 true] (.region 0 [
    ⟨(some 8), .move (.const (.zsl)), none, 0, none⟩,
    ⟨(some 9), .move (.const (.zsl)), none, 0, none⟩] [])) (.seq (.seq (.region 0 [
    ⟨(some 43), .move (.tmp 1), none, 0, none⟩,
    ⟨(some 44), .len (.tmp 43), none, 0, none⟩,
    ⟨(some 45), .move (.const (.int .i64 (0))), none, 0, none⟩] []) (.block 0 (.loop [1, 3, 5, 7, 8, 9, 43, 44, 45] ⟨[(3, (.ptr 0 0 0)), (5, (.ptr 1 0 0)), (7, (.ptr 2 0 0)), (8, (.slw 3 18)), (9, (.slw 4 18)), (45, (.v (.int .i64)))], [1, 43, 44], [.one false .spec, .one false (.pair (.int .i64) (.pair (.list (.int .i64)) (.int .u32))), .one false (.pair (.int .i64) (.list (.int .i64))), .typed .job, .typed .job]⟩ (.seq (.region 0 [
    ⟨(some 46), .bin .lss (.tmp 45) (.tmp 44), none, 0, none⟩] []) (.seq (.cond (.tmp 46) (.skip) (.exit 0)) (.seq (.block 1 (.seq (.region 1 [
    ⟨(some 47), .move (.tmp 45), none, 0, none⟩,
    ⟨(some 48), .indexSl 18 (.tmp 43) (.tmp 45), none, 0, none⟩,
    ⟨(some 49), .load true 18 (.tmp 48), none, 0, none⟩,
    ⟨(some 11), .alloc [.int .i64 (0), .int .i64 (0), .int .i64 (0), .int .i64 (0), .int .i64 (0), .int .i64 (0), .int .i64 (0), .int .i64 (0), .int .i64 (0), .zsl, .int .i64 (0), .bool false, .bool false, .int .i64 (0), .int .i64 (0), .int .i64 (0), .int .i64 (0), .int .i64 (0)], none, 0, none⟩,
    ⟨(some 10), .move (.tmp 47), none, 1, none⟩,
    ⟨none, .store 18 (.tmp 11) (.tmp 49), none, 1, none⟩] []) (.seq (.seq (.region 0 [
    ⟨(some 12), .move (.const (.int .i64 (0))), none, 0, none⟩] []) (.block 2 (.loop [1, 3, 5, 7, 8, 9, 10, 11, 12, 43, 44, 45] ⟨[(3, (.ptr 0 0 0)), (5, (.ptr 1 0 0)), (7, (.ptr 2 0 0)), (8, (.slw 3 18)), (9, (.slw 4 18)), (11, (.ptr 5 0 0)), (12, (.v (.int .i64)))], [1, 10, 43, 44, 45], [.one false .spec, .one false (.pair (.int .i64) (.pair (.list (.int .i64)) (.int .u32))), .one false (.pair (.int .i64) (.list (.int .i64))), .typed .job, .typed .job, .one false .job]⟩ (.seq (.seq (.region 0 [
    ⟨(some 50), .move (.tmp 12), none, 0, none⟩,
    ⟨(some 51), .move (.tmp 10), none, 0, none⟩,
    ⟨(some 52), .bin .lss (.tmp 50) (.tmp 51), none, 0, none⟩] []) (.cond (.tmp 52) (.skip) (.exit 2))) (.seq (.block 3 (.seq (.region 0 [
    ⟨(some 55), .move (.tmp 1), none, 0, (some ([], none))⟩,
    ⟨(some 56), .move (.tmp 12), none, 0, (some ([], none))⟩,
    ⟨(some 57), .indexSl 18 (.tmp 55) (.tmp 56), none, 0, (some ([], none))⟩,
    ⟨(some 58), .fieldAddr 0 (.tmp 57), none, 0, (some ([], none))⟩,
    ⟨(some 59), .load false 1 (.tmp 58), none, 0, (some ([], none))⟩,
    ⟨(some 60), .fieldAddr 0 (.tmp 11), none, 0, (some ([], none))⟩,
    ⟨(some 61), .load false 1 (.tmp 60), none, 0, (some ([], none))⟩,
    ⟨(some 62), .bin .eql (.tmp 59) (.tmp 61), none, 0, (some ([], none))⟩] []) (.cond (.tmp 62) (.seq (.region 0 [
    ⟨(some 6), .move (.const (.bool true)), none, 0, none⟩] []) (.ret)) (.skip)))) (.region 0 [
    ⟨(some 53), .move (.tmp 12), none, 0, none⟩,
    ⟨(some 54), .bin .add (.tmp 53) (.const (.int .i64 (1))), none, 0, none⟩,
    ⟨(some 12), .move (.tmp 54), none, 0, none⟩] [])))))) (.seq (.region 0 [
    ⟨(some 63), .fieldAddr 2 (.tmp 5), none, 0, none⟩,
    ⟨(some 64), .load false 1 (.tmp 63), none, 0, none⟩,
    ⟨(some 65), .move (.tmp 10), none, 0, none⟩,
    ⟨(some 66), .conv .u64 (.tmp 65), none, 0, none⟩,
    ⟨(some 67), .bin .shr (.tmp 64) (.tmp 66), none, 0, none⟩,
    ⟨(some 68), .bin .and (.tmp 67) (.const (.int .u32 (1))), none, 0, none⟩,
    ⟨(some 69), .bin .eql (.tmp 68) (.const (.int .u32 (1))), none, 0, none⟩] []) (.cond (.tmp 69) (.region 2 [
    ⟨(some 70), .move (.tmp 8), none, 0, none⟩,
    ⟨(some 71), .load true 18 (.tmp 11), none, 0, none⟩,
    ⟨(some 72), .buildSlice 18 1 true [.int .i64 (0), .int .i64 (0), .int .i64 (0), .int .i64 (0), .int .i64 (0), .int .i64 (0), .int .i64 (0), .int .i64 (0), .int .i64 (0), .zsl, .int .i64 (0), .bool false, .bool false, .int .i64 (0), .int .i64 (0), .int .i64 (0), .int .i64 (0), .int .i64 (0)] [(0, (.tmp 71))], none, 0, none⟩,
    ⟨(some 73), .append 18 152 true (.tmp 70) (.tmp 72), none, 1, none⟩,
    ⟨(some 8), .move (.tmp 73), none, 2, none⟩] []) (.skip)))))) (.region 0 [
    ⟨(some 74), .bin .add (.tmp 45) (.const (.int .i64 (1))), none, 0, none⟩,
    ⟨(some 45), .move (.tmp 74), none, 0, none⟩] []))))))) (.seq (.seq (.region 4 [
    ⟨(some 75), .load true 18 (.tmp 3), none, 0, none⟩,
    ⟨(some 76), .move (.tmp 1), none, 0, none⟩,
    ⟨(some 77), .load true 2 (.tmp 7), none, 0, none⟩,
    ⟨(some 78), .call (.func 17) [(false, (.tmp 75)), (false, (.tmp 76)), (false, (.tmp 77))] false 4, none, 0, none⟩,
    ⟨(some 79), .len (.tmp 78), none, 4, none⟩,
    ⟨(some 80), .move (.const (.int .i64 (0))), none, 4, none⟩] []) (.block 4 (.loop [3, 7, 8, 9, 78, 79, 80] ⟨[(3, (.ptr 0 0 0)), (7, (.ptr 1 0 0)), (8, (.slw 2 18)), (9, (.slw 3 18)), (80, (.v (.int .i64)))], [78, 79], [.one false .spec, .one false (.pair (.int .i64) (.list (.int .i64))), .typed .job, .typed .job]⟩ (.seq (.region 0 [
    ⟨(some 81), .bin .lss (.tmp 80) (.tmp 79), none, 0, none⟩] []) (.seq (.cond (.tmp 81) (.skip) (.exit 4)) (.seq (.block 5 (.seq (.region 1 [
    ⟨(some 82), .indexSl 18 (.tmp 78) (.tmp 80), none, 0, none⟩,
    ⟨(some 83), .load true 18 (.tmp 82), none, 0, none⟩,
    ⟨(some 14), .alloc [.int .i64 (0), .int .i64 (0), .int .i64 (0), .int .i64 (0), .int .i64 (0), .int .i64 (0), .int .i64 (0), .int .i64 (0), .int .i64 (0), .zsl, .int .i64 (0), .bool false, .bool false, .int .i64 (0), .int .i64 (0), .int .i64 (0), .int .i64 (0), .int .i64 (0)], none, 0, none⟩,
    ⟨none, .store 18 (.tmp 14) (.tmp 83), none, 1, none⟩] []) (.seq (.region 0 [
    ⟨(some 84), .move (.tmp 8), none, 0, none⟩,
    ⟨(some 85), .len (.tmp 84), none, 0, none⟩,
    ⟨(some 86), .move (.const (.int .i64 (0))), none, 0, none⟩] []) (.block 6 (.loop [3, 7, 8, 9, 14, 78, 79, 80, 84, 85, 86] ⟨[(3, (.ptr 0 0 0)), (7, (.ptr 1 0 0)), (8, (.slw 2 18)), (9, (.slw 3 18)), (14, (.ptr 4 0 0)), (84, (.slw 2 18)), (86, (.v (.int .i64)))], [78, 79, 80, 85], [.one false .spec, .one false (.pair (.int .i64) (.list (.int .i64))), .typed .job, .typed .job, .one false .job]⟩ (.seq (.region 0 [
    ⟨(some 87), .bin .lss (.tmp 86) (.tmp 85), none, 0, none⟩] []) (.seq (.cond (.tmp 87) (.skip) (.exit 6)) (.seq (.block 7 (.seq (.region 1 [
    ⟨(some 88), .indexSl 18 (.tmp 84) (.tmp 86), none, 0, none⟩,
    ⟨(some 89), .load true 18 (.tmp 88), none, 0, none⟩,
    ⟨(some 16), .alloc [.int .i64 (0), .int .i64 (0), .int .i64 (0), .int .i64 (0), .int .i64 (0), .int .i64 (0), .int .i64 (0), .int .i64 (0), .int .i64 (0), .zsl, .int .i64 (0), .bool false, .bool false, .int .i64 (0), .int .i64 (0), .int .i64 (0), .int .i64 (0), .int .i64 (0)], none, 0, none⟩,
    ⟨none, .store 18 (.tmp 16) (.tmp 89), none, 1, none⟩] []) (.seq (.region 0 [
    ⟨(some 90), .fieldAddr 0 (.tmp 16), none, 0, none⟩,
    ⟨(some 91), .load false 1 (.tmp 90), none, 0, none⟩,
    ⟨(some 92), .fieldAddr 0 (.tmp 14), none, 0, none⟩,
    ⟨(some 93), .load false 1 (.tmp 92), none, 0, none⟩,
    ⟨(some 94), .bin .eql (.tmp 91) (.tmp 93), none, 0, none⟩] []) (.cond (.tmp 94) (.region 2 [
    ⟨(some 95), .move (.tmp 9), none, 0, none⟩,
    ⟨(some 96), .load true 18 (.tmp 14), none, 0, none⟩,
    ⟨(some 97), .buildSlice 18 1 true [.int .i64 (0), .int .i64 (0), .int .i64 (0), .int .i64 (0), .int .i64 (0), .int .i64 (0), .int .i64 (0), .int .i64 (0), .int .i64 (0), .zsl, .int .i64 (0), .bool false, .bool false, .int .i64 (0), .int .i64 (0), .int .i64 (0), .int .i64 (0), .int .i64 (0)] [(0, (.tmp 96))], none, 0, none⟩,
    ⟨(some 98), .append 18 152 true (.tmp 95) (.tmp 97), none, 1, none⟩,
    ⟨(some 9), .move (.tmp 98), none, 2, none⟩] []) (.skip))))) (.region 0 [
    ⟨(some 99), .bin .add (.tmp 86) (.const (.int .i64 (1))), none, 0, none⟩,
    ⟨(some 86), .move (.tmp 99), none, 0, none⟩] []))))))))) (.region 0 [
    ⟨(some 100), .bin .add (.tmp 80) (.const (.int .i64 (1))), none, 0, none⟩,
    ⟨(some 80), .move (.tmp 100), none, 0, none⟩] []))))))) (.seq (.region 8 [
    ⟨(some 101), .load true 18 (.tmp 3), none, 0, none⟩,
    ⟨(some 102), .move (.tmp 8), none, 0, none⟩,
    ⟨(some 103), .load true 2 (.tmp 7), none, 0, none⟩,
    ⟨(some 104), .call (.func 17) [(false, (.tmp 101)), (false, (.tmp 102)), (false, (.tmp 103))] false 4, none, 0, none⟩,
    ⟨(some 105), .move (.tmp 9), none, 4, none⟩,
    ⟨(some 106), .call (.func 18) [(false, (.tmp 104)), (false, (.tmp 105))] false 4, none, 4, none⟩,
    ⟨(some 6), .move (.tmp 106), none, 8, none⟩] []) (.ret)))))))), [.tmp 6], true⟩
def s3 : Sig := ⟨(.cons (.v .spec) (.cons (.v (.list .job)) (.cons (.v (.pair (.int .i64) (.pair (.list (.int .i64)) (.int .u32)))) .nil))), [], ((.v .bool), []), []⟩
def l3_0 (all1 : (List Job)) (nx8 : (((Unit × (Unit × (Unit × (Unit × (Unit × (Int × Unit)))))) × (Spec × ((Int × ((List Int) × Int)) × ((Int × (List Int)) × ((List Job) × ((List Job) × Unit)))))) → Option Bool)) (z9 : Int) (nx17 : ((Unit × (Unit × (Unit × (Unit × (Unit × (Unit × (Int × Unit))))))) × (Spec × ((Int × ((List Int) × Int)) × ((Int × (List Int)) × ((List Job) × ((List Job) × (Job × Unit))))))) → Option Bool) (zk18 : Int) (z19 : Spec) (z20 : (Int × ((List Int) × Int))) (z21 : (Int × (List Int))) (z22 : (List Job)) (z23 : (List Job)) (z24 : Job) : Option Bool :=
  cond (decide (zk18 < z9))
  (cond (decide (0 ≤ zk18))
  (Option.bind (all1[Int.toNat zk18]?) fun y25 =>
  cond (decide (y25.id = z24.id))
  (some true)
  (nx17 (((), (), (), (), (), (), IntKind.wrap .i64 (zk18 + 1), ()), (z19, z20, z21, z22, z23, z24, ()))))
  (none))
  (cond (decide ((IntKind.wrap .u64 (z9)) < 0))
  (none)
  (let v26 := IntKind.wrap .u32 (((BitVec.ofInt 32 (Int.fdiv z20.2.2 (2 ^ (min (Int.toNat (IntKind.wrap .u64 (z9))) 32))) &&& BitVec.ofInt 32 1).toNat : Int))
  cond (decide (v26 = 1))
  (cond (smallB ((List.length z22) + 1) 152)
  (nx8 (((), (), (), (), (), IntKind.wrap .i64 (z9 + 1), ()), (z19, z20, z21, z22 ++ [z24], z23, ())))
  (none))
  (nx8 (((), (), (), (), (), IntKind.wrap .i64 (z9 + 1), ()), (z19, z20, z21, z22, z23, ())))))
def l3_1 (nx29 : (((Unit × (Unit × (Unit × (Unit × (Int × Unit))))) × (Spec × ((Int × (List Int)) × ((List Job) × ((List Job) × Unit))))) → Option Bool)) (z30 : Int) (z33 : (List Job)) (nx37 : ((Unit × (Unit × (Unit × (Unit × (Unit × (Unit × (Int × Unit))))))) × (Spec × ((Int × (List Int)) × ((List Job) × ((List Job) × (Job × Unit)))))) → Option Bool) (z38 : Int) (z39 : Spec) (z40 : (Int × (List Int))) (z41 : (List Job)) (z42 : (List Job)) (z43 : Job) : Option Bool :=
  cond (decide (z38 < (List.length z33 : Int)))
  (cond (decide (0 ≤ z38))
  (cond (decide ((Int.toNat z38) < (List.length z41)))
  (Option.bind (z41[Int.toNat z38]?) fun y44 =>
  cond (decide (y44.id = z43.id))
  (cond (smallB ((List.length z42) + 1) 152)
  (nx37 (((), (), (), (), (), (), IntKind.wrap .i64 (z38 + 1), ()), (z39, z40, z41, z42 ++ [z43], z43, ())))
  (none))
  (nx37 (((), (), (), (), (), (), IntKind.wrap .i64 (z38 + 1), ()), (z39, z40, z41, z42, z43, ()))))
  (none))
  (none))
  (nx29 (((), (), (), (), IntKind.wrap .i64 (z30 + 1), ()), (z39, z40, z41, z42, ())))
def l3_2 (L : Lp) (g17 : Spec → (List Job) → (Int × (List Int)) → Option (List Job)) (g18 : (List Job) → (List Job) → Option Bool) (r27 : (List Job)) (nx29 : ((Unit × (Unit × (Unit × (Unit × (Int × Unit))))) × (Spec × ((Int × (List Int)) × ((List Job) × ((List Job) × Unit))))) → Option Bool) (z30 : Int) (z31 : Spec) (z32 : (Int × (List Int))) (z33 : (List Job)) (z34 : (List Job)) : Option Bool :=
  cond (decide (z30 < (List.length r27 : Int)))
  (cond (decide (0 ≤ z30))
  (Option.bind (r27[Int.toNat z30]?) fun y35 =>
  L (fun (s36 : ((Unit × (Unit × (Unit × (Unit × (Unit × (Unit × (Int × Unit))))))) × (Spec × ((Int × (List Int)) × ((List Job) × ((List Job) × (Job × Unit))))))) nx37 => l3_1 nx29 z30 z33 nx37 s36.1.2.2.2.2.2.2.1 s36.2.1 s36.2.2.1 s36.2.2.2.1 s36.2.2.2.2.1 s36.2.2.2.2.2.1) (((), (), (), (), (), (), 0, ()), (z31, z32, z33, z34, y35, ())))
  (none))
  (Option.bind (g17 z31 z33 z32) fun r45 =>
  Option.bind (g18 r45 z34) fun r46 =>
  some r46)
def l3_3 (L : Lp) (g17 : Spec → (List Job) → (Int × (List Int)) → Option (List Job)) (g18 : (List Job) → (List Job) → Option Bool) (all1 : (List Job)) (nx8 : ((Unit × (Unit × (Unit × (Unit × (Unit × (Int × Unit)))))) × (Spec × ((Int × ((List Int) × Int)) × ((Int × (List Int)) × ((List Job) × ((List Job) × Unit)))))) → Option Bool) (z9 : Int) (z10 : Spec) (z11 : (Int × ((List Int) × Int))) (z12 : (Int × (List Int))) (z13 : (List Job)) (z14 : (List Job)) : Option Bool :=
  cond (decide (z9 < (List.length all1 : Int)))
  (cond (decide (0 ≤ z9))
  (Option.bind (all1[Int.toNat z9]?) fun y15 =>
  L (fun (s16 : ((Unit × (Unit × (Unit × (Unit × (Unit × (Unit × (Int × Unit))))))) × (Spec × ((Int × ((List Int) × Int)) × ((Int × (List Int)) × ((List Job) × ((List Job) × (Job × Unit)))))))) nx17 => l3_0 all1 nx8 z9 nx17 s16.1.2.2.2.2.2.2.1 s16.2.1 s16.2.2.1 s16.2.2.2.1 s16.2.2.2.2.1 s16.2.2.2.2.2.1 s16.2.2.2.2.2.2.1) (((), (), (), (), (), (), 0, ()), (z10, z11, z12, z13, z14, y15, ())))
  (none))
  (Option.bind (g17 z10 all1 z12) fun r27 =>
  L (fun (s28 : ((Unit × (Unit × (Unit × (Unit × (Int × Unit))))) × (Spec × ((Int × (List Int)) × ((List Job) × ((List Job) × Unit)))))) nx29 => l3_2 L g17 g18 r27 nx29 s28.1.2.2.2.2.1 s28.2.1 s28.2.2.1 s28.2.2.2.1 s28.2.2.2.2.1) (((), (), (), (), 0, ()), (z10, z12, z13, z14, ())))
def F3 (L : Lp) (g13 : Option Bool) (g14 : Spec → Option Bool) (g15 : (List Job) → Option Bool) (g16 : Spec → Option Bool) (g17 : Spec → (List Job) → (Int × (List Int)) → Option (List Job)) (g18 : (List Job) → (List Job) → Option Bool) (as0 : Spec) (all1 : (List Job)) (ax2 : (Int × ((List Int) × Int))) : Option Bool :=
  Option.bind (g13) fun r3 =>
  cond (!r3)
  (some false)
  (Option.bind (g14 as0) fun r4 =>
  cond (!r4)
  (some true)
  (Option.bind (g15 all1) fun r5 =>
  cond (!r5)
  (some true)
  (cond (decide (20 < (List.length ax2.2.1 : Int)))
  (some true)
  (Option.bind (g16 as0) fun r6 =>
  cond (!r6)
  (some true)
  (L (fun (s7 : ((Unit × (Unit × (Unit × (Unit × (Unit × (Int × Unit)))))) × (Spec × ((Int × ((List Int) × Int)) × ((Int × (List Int)) × ((List Job) × ((List Job) × Unit))))))) nx8 => l3_3 L g17 g18 all1 nx8 s7.1.2.2.2.2.2.1 s7.2.1 s7.2.2.1 s7.2.2.2.1 s7.2.2.2.2.1 s7.2.2.2.2.2.1) (((), (), (), (), (), 0, ()), (as0, ax2, (ax2.1, ax2.2.1), [], [], ())))))))
theorem e3 (L : Lp) (g13 : Option Bool) (g14 : Spec → Option Bool) (g15 : (List Job) → Option Bool) (g16 : Spec → Option Bool) (g17 : Spec → (List Job) → (Int × (List Int)) → Option (List Job)) (g18 : (List Job) → (List Job) → Option Bool) (x : s3.args.den) (h : denH s3.heap) : nrun [⟨13, s13, fun x h => g13 ⟩, ⟨14, s14, fun x h => g14 x.1⟩, ⟨15, s15, fun x h => g15 x.1⟩, ⟨16, s16, fun x h => g16 x.1⟩, ⟨17, s17, fun x h => g17 x.1 x.2.1 x.2.2.1⟩, ⟨18, s18, fun x h => g18 x.1 x.2.1⟩] L n3 s3 x h = F3 L g13 g14 g15 g16 g17 g18 x.1 x.2.1 x.2.2.1 := by kernel_rfl
def f3 : Spec → (List Job) → (Int × ((List Int) × Int)) → Option Bool := F3 (@LN LOOPS) f13 f14 f15 f16 f17 f18
@[reducible] def t3 : Ent := ⟨3, s3, fun x h => f3 x.1 x.2.1 x.2.2.1⟩
theorem k3 : chkNF Try.prog Try.f3 n3 = true := by kernel_rfl
theorem ok3 : NOk Try.prog t3 := NOk.body (T := [t13, t14, t15, t16, t17, t18]) mixed (nall_cons ok13 (nall_cons ok14 (nall_cons ok15 (nall_cons ok16 (nall_cons ok17 (nall_cons ok18 nall_nil)))))) (oneEach_of (by kernel_rfl)) Try.func3 k3 (by kernel_rfl) (fun x h => e3 _ _ _ _ _ _ _ x h)
end NM
end Go.Proofs.Ytacaeonoogkkaaa
