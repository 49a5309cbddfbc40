/-
  The plain forms of the functions that the statement reaches, and that each is its function's body. (Written by program.)
-/
import Derived.Test.YtofboijlcjgnnaaNmQ
import Derived.Test.YtofboijlcjgnnaaProg
import Derived.ProofKit
set_option linter.unusedVariables false
set_option maxRecDepth 100000
set_option maxHeartbeats 4000000
namespace Go.Proofs.Ytofboijlcjgnnaa
namespace NM
open AM
theorem mixed : Try.prog.follows .mixedOrders = true := by kernel_rfl
/- drayage/drayageref07.Small -/
def n103 : NFunc := ⟨23, .seq (.region 1 [
    ⟨(some 0), .alloc [.zsl, .zsl, .zsl, .int .i64 (0), .int .i64 (0), .int .i64 (0), .int .i64 (0), .int .i64 (0), .int .i64 (0), .int .i64 (0), .int .i64 (0), .int .i64 (0), .int .i64 (0), .int .i64 (0), .int .i64 (0), .int .i64 (0), .int .i64 (0), .int .i64 (0)], none, 0, none⟩] []) (.seq (.region 1 [
    ⟨(some 4), .build [.zsl, .zsl, .zsl, .int .i64 (0), .int .i64 (0), .int .i64 (0), .int .i64 (0), .int .i64 (0), .int .i64 (0), .int .i64 (0), .int .i64 (0), .int .i64 (0), .int .i64 (0), .int .i64 (0), .int .i64 (0), .int .i64 (0), .int .i64 (0), .int .i64 (0)] [(3, 1, (.const (.int .i64 (3)))), (8, 1, (.const (.int .i64 (4)))), (9, 1, (.const (.int .i64 (1)))), (10, 1, (.const (.int .i64 (12)))), (11, 1, (.const (.int .i64 (100)))), (12, 1, (.const (.int .i64 (50)))), (13, 1, (.const (.int .i64 (5)))), (14, 1, (.const (.int .i64 (4)))), (15, 1, (.const (.int .i64 (3)))), (16, 1, (.const (.int .i64 (6)))), (17, 1, (.const (.int .i64 (4))))], none, 0, none⟩,
    ⟨(some 1), .alloc [.zsl, .zsl, .zsl, .int .i64 (0), .int .i64 (0), .int .i64 (0), .int .i64 (0), .int .i64 (0), .int .i64 (0), .int .i64 (0), .int .i64 (0), .int .i64 (0), .int .i64 (0), .int .i64 (0), .int .i64 (0), .int .i64 (0), .int .i64 (0), .int .i64 (0)], none, 0, none⟩,
    ⟨none, .store 18 (.tmp 1) (.tmp 4), none, 1, none⟩] []) (.seq (.region 1 [
    ⟨(some 5), .build [.int .i64 (0), .int .i64 (0), .int .i64 (0), .int .i64 (0)] [(0, 1, (.const (.int .i64 (4)))), (1, 1, (.const (.int .i64 (8)))), (3, 1, (.const (.int .i64 (1))))], none, 0, none⟩,
    ⟨(some 6), .build [.int .i64 (0), .int .i64 (0), .int .i64 (0), .int .i64 (0)] [(0, 1, (.const (.int .i64 (8)))), (1, 1, (.const (.int .i64 (8)))), (2, 1, (.const (.int .i64 (1))))], none, 0, none⟩,
    ⟨(some 7), .buildSlice 4 2 true [.int .i64 (0), .int .i64 (0), .int .i64 (0), .int .i64 (0)] [(0, (.tmp 5)), (1, (.tmp 6))], none, 0, none⟩,
    ⟨(some 8), .fieldAddr 0 (.tmp 1), none, 1, none⟩,
    ⟨none, .store 1 (.tmp 8) (.tmp 7), none, 1, none⟩] []) (.seq (.region 3 [
    ⟨(some 9), .buildSlice 1 2 true [.int .i64 (0)] [(0, (.const (.int .i64 (0)))), (1, (.const (.int .i64 (1))))], none, 0, none⟩,
    ⟨(some 10), .buildSlice 1 1 true [.int .i64 (0)] [(0, (.const (.int .i64 (1))))], none, 1, none⟩,
    ⟨(some 11), .buildSlice 1 2 true [.zsl] [(0, (.tmp 9)), (1, (.tmp 10))], none, 2, none⟩,
    ⟨(some 12), .fieldAddr 1 (.tmp 1), none, 3, none⟩,
    ⟨none, .store 1 (.tmp 12) (.tmp 11), none, 3, none⟩] []) (.seq (.region 1 [
    ⟨(some 13), .build [.int .i64 (0), .zsl, .int .i64 (0), .int .i64 (0), .int .i64 (0), .int .i64 (0)] [(2, 1, (.const (.int .i64 (8)))), (3, 1, (.const (.int .i64 (4)))), (4, 1, (.const (.int .i64 (3)))), (5, 1, (.const (.int .i64 (1))))], none, 0, none⟩,
    ⟨(some 2), .alloc [.int .i64 (0), .zsl, .int .i64 (0), .int .i64 (0), .int .i64 (0), .int .i64 (0)], none, 0, none⟩,
    ⟨none, .store 6 (.tmp 2) (.tmp 13), none, 1, none⟩] []) (.seq (.region 2 [
    ⟨(some 14), .buildSlice 1 2 true [.int .i64 (0)] [(0, (.const (.int .i64 (0)))), (1, (.const (.int .i64 (1))))], none, 0, none⟩,
    ⟨(some 15), .build [.int .i64 (0), .zsl, .int .i64 (0), .int .i64 (0), .int .i64 (0), .int .i64 (0)] [(0, 1, (.const (.int .i64 (1)))), (1, 1, (.tmp 14)), (2, 1, (.const (.int .i64 (4)))), (3, 1, (.const (.int .i64 (2)))), (4, 1, (.const (.int .i64 (2)))), (5, 1, (.const (.int .i64 (5))))], none, 1, none⟩,
    ⟨(some 3), .alloc [.int .i64 (0), .zsl, .int .i64 (0), .int .i64 (0), .int .i64 (0), .int .i64 (0)], none, 1, none⟩,
    ⟨none, .store 6 (.tmp 3) (.tmp 15), none, 2, none⟩] []) (.seq (.region 1 [
    ⟨(some 16), .load true 6 (.tmp 2), none, 0, none⟩,
    ⟨(some 17), .load true 6 (.tmp 3), none, 0, none⟩,
    ⟨(some 18), .buildSlice 6 2 true [.int .i64 (0), .zsl, .int .i64 (0), .int .i64 (0), .int .i64 (0), .int .i64 (0)] [(0, (.tmp 16)), (1, (.tmp 17))], none, 0, none⟩,
    ⟨(some 19), .fieldAddr 2 (.tmp 1), none, 1, none⟩,
    ⟨none, .store 1 (.tmp 19) (.tmp 18), none, 1, none⟩] []) (.seq (.region 0 [
    ⟨(some 20), .build [.int .i64 (0), .int .i64 (0), .int .i64 (0), .int .i64 (0)] [(0, 1, (.const (.int .i64 (1)))), (1, 1, (.const (.int .i64 (2)))), (2, 1, (.const (.int .i64 (10)))), (3, 1, (.const (.int .i64 (3))))], none, 0, none⟩,
    ⟨(some 21), .fieldAddr 4 (.tmp 1), none, 0, none⟩,
    ⟨none, .store 4 (.tmp 21) (.tmp 20), none, 0, none⟩] []) (.seq (.region 0 [
    ⟨(some 22), .load true 18 (.tmp 1), none, 0, none⟩,
    ⟨none, .store 18 (.tmp 0) (.tmp 22), none, 0, none⟩] []) (.ret))))))))), [.cell true 18 0], true⟩
def s103 : Sig := ⟨.nil, [], ((.v .spec), []), []⟩
def F103 (L : Lp)   : Option Spec :=
  some (Spec.mk [Res.mk 4 8 0 1, Res.mk 8 8 1 0] [[0, 1], [1]] [Queue.mk 0 [] 8 4 3 1, Queue.mk 1 [0, 1] 4 2 2 5] 3 (Weights.mk 1 2 10 3) 4 1 12 100 50 5 4 3 6 4)
theorem e103 (L : Lp)  (x : s103.args.den) (h : denH s103.heap) : nrun [] L n103 s103 x h = F103 L   := by kernel_rfl
def f103 : Option Spec := F103 (@LN LOOPS) 
@[reducible] def t103 : Ent := ⟨103, s103, fun x h => f103 ⟩
theorem k103 : chkNF Try.prog Try.f103 n103 = true := by kernel_rfl
theorem ok103 : NOk Try.prog t103 := NOk.body (T := []) mixed nall_nil (oneEach_of (by kernel_rfl)) Try.func103 k103 (by kernel_rfl) (fun x h => e103 _  x h)
/- drayage/spec.within -/
def n134 : NFunc := ⟨12, .seq (.region 4 [
    ⟨(some 5), .box 1 (.tmp 1), none, 0, none⟩,
    ⟨(some 6), .box 1 (.tmp 2), none, 1, none⟩,
    ⟨(some 7), .box 1 (.tmp 3), none, 2, none⟩,
    ⟨(some 8), .alloc [.str [], .nilfn], none, 3, none⟩] []) (.seq (.region 0 [
    ⟨(some 9), .move (.tmp 0), none, 0, none⟩,
    ⟨(some 10), .makeFunc 142 [(.tmp 6), (.tmp 5), (.tmp 7)], none, 0, none⟩,
    ⟨(some 11), .build [.str [], .nilfn] [(0, 1, (.tmp 9)), (1, 1, (.tmp 10))], none, 0, none⟩,
    ⟨none, .store 2 (.tmp 8) (.tmp 11), none, 0, none⟩] []) (.ret)), [.cell true 2 8], true⟩
def s134 : Sig := ⟨(.cons (.v .str) (.cons (.v (.int .i64)) (.cons (.v (.int .i64)) (.cons (.v (.int .i64)) .nil)))), [], ((.agg (.cons (.v .str) (.cons (.fn 142 (.cons (.iptr (.cons (.v (.int .i64)) .nil) 0) (.cons (.iptr (.cons (.v (.int .i64)) .nil) 0) (.cons (.iptr (.cons (.v (.int .i64)) .nil) 0) .nil)))) .nil))), []), []⟩
def F134 (L : Lp)  (word0 : (List UInt8)) (an1 : Int) (lo2 : Int) (hi3 : Int) : Option ((List UInt8) × (((Int × Unit) × ((Int × Unit) × ((Int × Unit) × Unit))) × Unit)) :=
  some (word0, ((lo2, ()), (an1, ()), (hi3, ()), ()), ())
theorem e134 (L : Lp)  (x : s134.args.den) (h : denH s134.heap) : nrun [] L n134 s134 x h = F134 L  x.1 x.2.1 x.2.2.1 x.2.2.2.1 := by kernel_rfl
def f134 : (List UInt8) → Int → Int → Int → Option ((List UInt8) × (((Int × Unit) × ((Int × Unit) × ((Int × Unit) × Unit))) × Unit)) := F134 (@LN LOOPS) 
@[reducible] def t134 : Ent := ⟨134, s134, fun x h => f134 x.1 x.2.1 x.2.2.1 x.2.2.2.1⟩
theorem k134 : chkNF Try.prog Try.f134 n134 = true := by kernel_rfl
theorem ok134 : NOk Try.prog t134 := NOk.body (T := []) mixed nall_nil (oneEach_of (by kernel_rfl)) Try.func134 k134 (by kernel_rfl) (fun x h => e134 _  x h)
/- drayage/spec.rules -/
def n129 : NFunc := ⟨44, .seq (.region 1 [
    ⟨(some 1), .box 18 (.tmp 0), none, 0, none⟩,
    ⟨(some 2), .move (.const (.zsl)), none, 1, none⟩] []) (.seq (.region 41 [
    ⟨(some 3), .makeFunc 130 [(.tmp 1)], none, 0, (some [])⟩,
    ⟨(some 4), .build [.str [], .nilfn] [(0, 1, (.const (.str [78, 111, 100, 101, 115]))), (1, 1, (.tmp 3))], none, 0, (some [])⟩,
    ⟨(some 5), .makeFunc 132 [(.tmp 1)], none, 0, (some [])⟩,
    ⟨(some 6), .build [.str [], .nilfn] [(0, 1, (.const (.str [80, 97, 114, 116, 115]))), (1, 1, (.tmp 5))], none, 0, (some [])⟩,
    ⟨(some 7), .fieldAddr 3 (.tmp 1), none, 0, (some [])⟩,
    ⟨(some 8), .load false 1 (.tmp 7), none, 0, (some [])⟩,
    ⟨(some 9), .call (.func 134) [(false, (.const (.str [85, 115, 101, 114, 115]))), (false, (.tmp 8)), (false, (.const (.int .i64 (1)))), (false, (.const (.int .i64 (8))))] true 4, none, 0, (some [])⟩,
    ⟨(some 10), .makeFunc 135 [(.tmp 1)], none, 4, (some [])⟩,
    ⟨(some 11), .build [.str [], .nilfn] [(0, 1, (.const (.str [81, 117, 101, 117, 101, 115]))), (1, 1, (.tmp 10))], none, 4, (some [])⟩,
    ⟨(some 12), .makeFunc 137 [(.tmp 1)], none, 4, (some [])⟩,
    ⟨(some 13), .build [.str [], .nilfn] [(0, 1, (.const (.str [87, 101, 105, 103, 104, 116, 115]))), (1, 1, (.tmp 12))], none, 4, (some [])⟩,
    ⟨(some 14), .fieldAddr 8 (.tmp 1), none, 4, (some [])⟩,
    ⟨(some 15), .load false 1 (.tmp 14), none, 4, (some [])⟩,
    ⟨(some 16), .call (.func 134) [(false, (.const (.str [68, 101, 99, 97, 121]))), (false, (.tmp 15)), (false, (.const (.int .i64 (1)))), (false, (.const (.int .i64 (16))))] true 4, none, 4, (some [0, 1, 2, 3])⟩,
    ⟨(some 17), .makeFunc 139 [(.tmp 1)], none, 8, (some [])⟩,
    ⟨(some 18), .build [.str [], .nilfn] [(0, 1, (.const (.str [77, 111, 100, 101]))), (1, 1, (.tmp 17))], none, 8, (some [])⟩,
    ⟨(some 19), .fieldAddr 10 (.tmp 1), none, 8, (some [])⟩,
    ⟨(some 20), .load false 1 (.tmp 19), none, 8, (some [])⟩,
    ⟨(some 21), .call (.func 134) [(false, (.const (.str [74, 111, 98, 115]))), (false, (.tmp 20)), (false, (.const (.int .i64 (1)))), (false, (.const (.int .i64 (256))))] true 4, none, 8, (some [0, 1, 2, 3, 4, 5, 6, 7])⟩,
    ⟨(some 22), .fieldAddr 11 (.tmp 1), none, 12, (some [])⟩,
    ⟨(some 23), .load false 1 (.tmp 22), none, 12, (some [])⟩,
    ⟨(some 24), .call (.func 134) [(false, (.const (.str [73, 100, 115]))), (false, (.tmp 23)), (false, (.const (.int .i64 (1)))), (false, (.const (.int .i64 (1048576))))] true 4, none, 12, (some [0, 1, 2, 3, 4, 5, 6, 7, 8, 9, 10, 11])⟩,
    ⟨(some 25), .fieldAddr 12 (.tmp 1), none, 16, (some [])⟩,
    ⟨(some 26), .load false 1 (.tmp 25), none, 16, (some [])⟩,
    ⟨(some 27), .call (.func 134) [(false, (.const (.str [86, 101, 114, 115, 105, 111, 110, 115]))), (false, (.tmp 26)), (false, (.const (.int .i64 (1)))), (false, (.const (.int .i64 (65536))))] true 4, none, 16, (some [0, 1, 2, 3, 4, 5, 6, 7, 8, 9, 10, 11, 12, 13, 14, 15])⟩,
    ⟨(some 28), .fieldAddr 13 (.tmp 1), none, 20, (some [])⟩,
    ⟨(some 29), .load false 1 (.tmp 28), none, 20, (some [])⟩,
    ⟨(some 30), .call (.func 134) [(false, (.const (.str [76, 105, 110, 103, 101, 114]))), (false, (.tmp 29)), (false, (.const (.int .i64 (0)))), (false, (.const (.int .i64 (65536))))] true 4, none, 20, (some [0, 1, 2, 3, 4, 5, 6, 7, 8, 9, 10, 11, 12, 13, 14, 15, 16, 17, 18, 19])⟩,
    ⟨(some 31), .fieldAddr 14 (.tmp 1), none, 24, (some [])⟩,
    ⟨(some 32), .load false 1 (.tmp 31), none, 24, (some [])⟩,
    ⟨(some 33), .call (.func 134) [(false, (.const (.str [75, 101, 101, 112]))), (false, (.tmp 32)), (false, (.const (.int .i64 (1)))), (false, (.const (.int .i64 (16))))] true 4, none, 24, (some [0, 1, 2, 3, 4, 5, 6, 7, 8, 9, 10, 11, 12, 13, 14, 15, 16, 17, 18, 19, 20, 21, 22, 23])⟩,
    ⟨(some 34), .fieldAddr 15 (.tmp 1), none, 28, (some [])⟩,
    ⟨(some 35), .load false 1 (.tmp 34), none, 28, (some [])⟩,
    ⟨(some 36), .call (.func 134) [(false, (.const (.str [73, 110]))), (false, (.tmp 35)), (false, (.const (.int .i64 (1)))), (false, (.const (.int .i64 (8))))] true 4, none, 28, (some [0, 1, 2, 3, 4, 5, 6, 7, 8, 9, 10, 11, 12, 13, 14, 15, 16, 17, 18, 19, 20, 21, 22, 23, 24, 25, 26, 27])⟩,
    ⟨(some 37), .fieldAddr 16 (.tmp 1), none, 32, (some [])⟩,
    ⟨(some 38), .load false 1 (.tmp 37), none, 32, (some [])⟩,
    ⟨(some 39), .call (.func 134) [(false, (.const (.str [79, 117, 116]))), (false, (.tmp 38)), (false, (.const (.int .i64 (1)))), (false, (.const (.int .i64 (16))))] true 4, none, 32, (some [0, 1, 2, 3, 4, 5, 6, 7, 8, 9, 10, 11, 12, 13, 14, 15, 16, 17, 18, 19, 20, 21, 22, 23, 24, 25, 26, 27, 28, 29, 30, 31])⟩,
    ⟨(some 40), .fieldAddr 17 (.tmp 1), none, 36, (some [])⟩,
    ⟨(some 41), .load false 1 (.tmp 40), none, 36, (some [])⟩,
    ⟨(some 42), .call (.func 134) [(false, (.const (.str [67, 97, 99, 104, 101]))), (false, (.tmp 41)), (false, (.const (.int .i64 (0)))), (false, (.const (.int .i64 (16))))] false 4, none, 36, (some [0, 1, 2, 3, 4, 5, 6, 7, 8, 9, 10, 11, 12, 13, 14, 15, 16, 17, 18, 19, 20, 21, 22, 23, 24, 25, 26, 27, 28, 29, 30, 31, 32, 33, 34, 35])⟩,
    ⟨(some 43), .buildSlice 2 15 true [.str [], .nilfn] [(0, (.tmp 4)), (1, (.tmp 6)), (2, (.tmp 9)), (3, (.tmp 11)), (4, (.tmp 13)), (5, (.tmp 16)), (6, (.tmp 18)), (7, (.tmp 21)), (8, (.tmp 24)), (9, (.tmp 27)), (10, (.tmp 30)), (11, (.tmp 33)), (12, (.tmp 36)), (13, (.tmp 39)), (14, (.tmp 42))], none, 40, (some [0, 1, 2, 3, 4, 5, 6, 7, 8, 9, 10, 11, 12, 13, 14, 15, 16, 17, 18, 19, 20, 21, 22, 23, 24, 25, 26, 27, 28, 29, 30, 31, 32, 33, 34, 35, 36, 37, 38, 39])⟩,
    ⟨(some 2), .move (.tmp 43), none, 41, (some [0, 1, 2, 3, 4, 5, 6, 7, 8, 9, 10, 11, 12, 13, 14, 15, 16, 17, 18, 19, 20, 21, 22, 23, 24, 25, 26, 27, 28, 29, 30, 31, 32, 33, 34, 35, 36, 37, 38, 39, 40])⟩] []) (.ret)), [.tmp 2], true⟩
def s129 : Sig := ⟨(.cons (.v .spec) .nil), [], ((.rows 2 (.cons (.cons (.v .str) (.cons (.fn 130 (.cons (.iptr (.cons (.v (.list .res)) (.cons (.v (.list (.list (.int .i64)))) (.cons (.v (.list .queue)) (.cons (.v (.int .i64)) (.cons (.v (.int .i64)) (.cons (.v (.int .i64)) (.cons (.v (.int .i64)) (.cons (.v (.int .i64)) (.cons (.v (.int .i64)) (.cons (.v (.int .i64)) (.cons (.v (.int .i64)) (.cons (.v (.int .i64)) (.cons (.v (.int .i64)) (.cons (.v (.int .i64)) (.cons (.v (.int .i64)) (.cons (.v (.int .i64)) (.cons (.v (.int .i64)) (.cons (.v (.int .i64)) .nil)))))))))))))))))) 0) .nil)) .nil)) (.cons (.cons (.v .str) (.cons (.fn 132 (.cons (.iptr (.cons (.v (.list .res)) (.cons (.v (.list (.list (.int .i64)))) (.cons (.v (.list .queue)) (.cons (.v (.int .i64)) (.cons (.v (.int .i64)) (.cons (.v (.int .i64)) (.cons (.v (.int .i64)) (.cons (.v (.int .i64)) (.cons (.v (.int .i64)) (.cons (.v (.int .i64)) (.cons (.v (.int .i64)) (.cons (.v (.int .i64)) (.cons (.v (.int .i64)) (.cons (.v (.int .i64)) (.cons (.v (.int .i64)) (.cons (.v (.int .i64)) (.cons (.v (.int .i64)) (.cons (.v (.int .i64)) .nil)))))))))))))))))) 0) .nil)) .nil)) (.cons (.cons (.v .str) (.cons (.fn 142 (.cons (.iptr (.cons (.v (.int .i64)) .nil) 0) (.cons (.iptr (.cons (.v (.int .i64)) .nil) 0) (.cons (.iptr (.cons (.v (.int .i64)) .nil) 0) .nil)))) .nil)) (.cons (.cons (.v .str) (.cons (.fn 135 (.cons (.iptr (.cons (.v (.list .res)) (.cons (.v (.list (.list (.int .i64)))) (.cons (.v (.list .queue)) (.cons (.v (.int .i64)) (.cons (.v (.int .i64)) (.cons (.v (.int .i64)) (.cons (.v (.int .i64)) (.cons (.v (.int .i64)) (.cons (.v (.int .i64)) (.cons (.v (.int .i64)) (.cons (.v (.int .i64)) (.cons (.v (.int .i64)) (.cons (.v (.int .i64)) (.cons (.v (.int .i64)) (.cons (.v (.int .i64)) (.cons (.v (.int .i64)) (.cons (.v (.int .i64)) (.cons (.v (.int .i64)) .nil)))))))))))))))))) 0) .nil)) .nil)) (.cons (.cons (.v .str) (.cons (.fn 137 (.cons (.iptr (.cons (.v (.list .res)) (.cons (.v (.list (.list (.int .i64)))) (.cons (.v (.list .queue)) (.cons (.v (.int .i64)) (.cons (.v (.int .i64)) (.cons (.v (.int .i64)) (.cons (.v (.int .i64)) (.cons (.v (.int .i64)) (.cons (.v (.int .i64)) (.cons (.v (.int .i64)) (.cons (.v (.int .i64)) (.cons (.v (.int .i64)) (.cons (.v (.int .i64)) (.cons (.v (.int .i64)) (.cons (.v (.int .i64)) (.cons (.v (.int .i64)) (.cons (.v (.int .i64)) (.cons (.v (.int .i64)) .nil)))))))))))))))))) 0) .nil)) .nil)) (.cons (.cons (.v .str) (.cons (.fn 142 (.cons (.iptr (.cons (.v (.int .i64)) .nil) 0) (.cons (.iptr (.cons (.v (.int .i64)) .nil) 0) (.cons (.iptr (.cons (.v (.int .i64)) .nil) 0) .nil)))) .nil)) (.cons (.cons (.v .str) (.cons (.fn 139 (.cons (.iptr (.cons (.v (.list .res)) (.cons (.v (.list (.list (.int .i64)))) (.cons (.v (.list .queue)) (.cons (.v (.int .i64)) (.cons (.v (.int .i64)) (.cons (.v (.int .i64)) (.cons (.v (.int .i64)) (.cons (.v (.int .i64)) (.cons (.v (.int .i64)) (.cons (.v (.int .i64)) (.cons (.v (.int .i64)) (.cons (.v (.int .i64)) (.cons (.v (.int .i64)) (.cons (.v (.int .i64)) (.cons (.v (.int .i64)) (.cons (.v (.int .i64)) (.cons (.v (.int .i64)) (.cons (.v (.int .i64)) .nil)))))))))))))))))) 0) .nil)) .nil)) (.cons (.cons (.v .str) (.cons (.fn 142 (.cons (.iptr (.cons (.v (.int .i64)) .nil) 0) (.cons (.iptr (.cons (.v (.int .i64)) .nil) 0) (.cons (.iptr (.cons (.v (.int .i64)) .nil) 0) .nil)))) .nil)) (.cons (.cons (.v .str) (.cons (.fn 142 (.cons (.iptr (.cons (.v (.int .i64)) .nil) 0) (.cons (.iptr (.cons (.v (.int .i64)) .nil) 0) (.cons (.iptr (.cons (.v (.int .i64)) .nil) 0) .nil)))) .nil)) (.cons (.cons (.v .str) (.cons (.fn 142 (.cons (.iptr (.cons (.v (.int .i64)) .nil) 0) (.cons (.iptr (.cons (.v (.int .i64)) .nil) 0) (.cons (.iptr (.cons (.v (.int .i64)) .nil) 0) .nil)))) .nil)) (.cons (.cons (.v .str) (.cons (.fn 142 (.cons (.iptr (.cons (.v (.int .i64)) .nil) 0) (.cons (.iptr (.cons (.v (.int .i64)) .nil) 0) (.cons (.iptr (.cons (.v (.int .i64)) .nil) 0) .nil)))) .nil)) (.cons (.cons (.v .str) (.cons (.fn 142 (.cons (.iptr (.cons (.v (.int .i64)) .nil) 0) (.cons (.iptr (.cons (.v (.int .i64)) .nil) 0) (.cons (.iptr (.cons (.v (.int .i64)) .nil) 0) .nil)))) .nil)) (.cons (.cons (.v .str) (.cons (.fn 142 (.cons (.iptr (.cons (.v (.int .i64)) .nil) 0) (.cons (.iptr (.cons (.v (.int .i64)) .nil) 0) (.cons (.iptr (.cons (.v (.int .i64)) .nil) 0) .nil)))) .nil)) (.cons (.cons (.v .str) (.cons (.fn 142 (.cons (.iptr (.cons (.v (.int .i64)) .nil) 0) (.cons (.iptr (.cons (.v (.int .i64)) .nil) 0) (.cons (.iptr (.cons (.v (.int .i64)) .nil) 0) .nil)))) .nil)) (.cons (.cons (.v .str) (.cons (.fn 142 (.cons (.iptr (.cons (.v (.int .i64)) .nil) 0) (.cons (.iptr (.cons (.v (.int .i64)) .nil) 0) (.cons (.iptr (.cons (.v (.int .i64)) .nil) 0) .nil)))) .nil)) .nil)))))))))))))))), []), []⟩
def F129 (L : Lp) (g134 : (List UInt8) → Int → Int → Int → Option ((List UInt8) × (((Int × Unit) × ((Int × Unit) × ((Int × Unit) × Unit))) × Unit))) (as0 : Spec) : Option (((List UInt8) × ((((List Res) × ((List (List Int)) × ((List Queue) × (Int × (Int × (Int × (Int × (Int × (Int × (Int × (Int × (Int × (Int × (Int × (Int × (Int × (Int × (Int × Unit)))))))))))))))))) × Unit) × Unit)) × (((List UInt8) × ((((List Res) × ((List (List Int)) × ((List Queue) × (Int × (Int × (Int × (Int × (Int × (Int × (Int × (Int × (Int × (Int × (Int × (Int × (Int × (Int × (Int × Unit)))))))))))))))))) × Unit) × Unit)) × (((List UInt8) × (((Int × Unit) × ((Int × Unit) × ((Int × Unit) × Unit))) × Unit)) × (((List UInt8) × ((((List Res) × ((List (List Int)) × ((List Queue) × (Int × (Int × (Int × (Int × (Int × (Int × (Int × (Int × (Int × (Int × (Int × (Int × (Int × (Int × (Int × Unit)))))))))))))))))) × Unit) × Unit)) × (((List UInt8) × ((((List Res) × ((List (List Int)) × ((List Queue) × (Int × (Int × (Int × (Int × (Int × (Int × (Int × (Int × (Int × (Int × (Int × (Int × (Int × (Int × (Int × Unit)))))))))))))))))) × Unit) × Unit)) × (((List UInt8) × (((Int × Unit) × ((Int × Unit) × ((Int × Unit) × Unit))) × Unit)) × (((List UInt8) × ((((List Res) × ((List (List Int)) × ((List Queue) × (Int × (Int × (Int × (Int × (Int × (Int × (Int × (Int × (Int × (Int × (Int × (Int × (Int × (Int × (Int × Unit)))))))))))))))))) × Unit) × Unit)) × (((List UInt8) × (((Int × Unit) × ((Int × Unit) × ((Int × Unit) × Unit))) × Unit)) × (((List UInt8) × (((Int × Unit) × ((Int × Unit) × ((Int × Unit) × Unit))) × Unit)) × (((List UInt8) × (((Int × Unit) × ((Int × Unit) × ((Int × Unit) × Unit))) × Unit)) × (((List UInt8) × (((Int × Unit) × ((Int × Unit) × ((Int × Unit) × Unit))) × Unit)) × (((List UInt8) × (((Int × Unit) × ((Int × Unit) × ((Int × Unit) × Unit))) × Unit)) × (((List UInt8) × (((Int × Unit) × ((Int × Unit) × ((Int × Unit) × Unit))) × Unit)) × (((List UInt8) × (((Int × Unit) × ((Int × Unit) × ((Int × Unit) × Unit))) × Unit)) × (((List UInt8) × (((Int × Unit) × ((Int × Unit) × ((Int × Unit) × Unit))) × Unit)) × Unit))))))))))))))) :=
  Option.bind (g134 ([85, 115, 101, 114, 115] : List UInt8) as0.users 1 8) fun r1 =>
  Option.bind (g134 ([68, 101, 99, 97, 121] : List UInt8) as0.decay 1 16) fun r2 =>
  Option.bind (g134 ([74, 111, 98, 115] : List UInt8) as0.jobs 1 256) fun r3 =>
  Option.bind (g134 ([73, 100, 115] : List UInt8) as0.ids 1 1048576) fun r4 =>
  Option.bind (g134 ([86, 101, 114, 115, 105, 111, 110, 115] : List UInt8) as0.versions 1 65536) fun r5 =>
  Option.bind (g134 ([76, 105, 110, 103, 101, 114] : List UInt8) as0.linger 0 65536) fun r6 =>
  Option.bind (g134 ([75, 101, 101, 112] : List UInt8) as0.keep 1 16) fun r7 =>
  Option.bind (g134 ([73, 110] : List UInt8) as0.inn 1 8) fun r8 =>
  Option.bind (g134 ([79, 117, 116] : List UInt8) as0.out 1 16) fun r9 =>
  Option.bind (g134 ([67, 97, 99, 104, 101] : List UInt8) as0.cache 0 16) fun r10 =>
  some ((([78, 111, 100, 101, 115] : List UInt8), ((as0.nodes, as0.parts, as0.queues, as0.users, as0.weights.age, as0.weights.size, as0.weights.qos, as0.weights.share, as0.decay, as0.mode, as0.jobs, as0.ids, as0.versions, as0.linger, as0.keep, as0.inn, as0.out, as0.cache, ()), ()), ()), ((([80, 97, 114, 116, 115] : List UInt8), ((as0.nodes, as0.parts, as0.queues, as0.users, as0.weights.age, as0.weights.size, as0.weights.qos, as0.weights.share, as0.decay, as0.mode, as0.jobs, as0.ids, as0.versions, as0.linger, as0.keep, as0.inn, as0.out, as0.cache, ()), ()), ()), ((r1.1, ((r1.2.1.1.1, ()), (r1.2.1.2.1.1, ()), (r1.2.1.2.2.1.1, ()), ()), ()), ((([81, 117, 101, 117, 101, 115] : List UInt8), ((as0.nodes, as0.parts, as0.queues, as0.users, as0.weights.age, as0.weights.size, as0.weights.qos, as0.weights.share, as0.decay, as0.mode, as0.jobs, as0.ids, as0.versions, as0.linger, as0.keep, as0.inn, as0.out, as0.cache, ()), ()), ()), ((([87, 101, 105, 103, 104, 116, 115] : List UInt8), ((as0.nodes, as0.parts, as0.queues, as0.users, as0.weights.age, as0.weights.size, as0.weights.qos, as0.weights.share, as0.decay, as0.mode, as0.jobs, as0.ids, as0.versions, as0.linger, as0.keep, as0.inn, as0.out, as0.cache, ()), ()), ()), ((r2.1, ((r2.2.1.1.1, ()), (r2.2.1.2.1.1, ()), (r2.2.1.2.2.1.1, ()), ()), ()), ((([77, 111, 100, 101] : List UInt8), ((as0.nodes, as0.parts, as0.queues, as0.users, as0.weights.age, as0.weights.size, as0.weights.qos, as0.weights.share, as0.decay, as0.mode, as0.jobs, as0.ids, as0.versions, as0.linger, as0.keep, as0.inn, as0.out, as0.cache, ()), ()), ()), ((r3.1, ((r3.2.1.1.1, ()), (r3.2.1.2.1.1, ()), (r3.2.1.2.2.1.1, ()), ()), ()), ((r4.1, ((r4.2.1.1.1, ()), (r4.2.1.2.1.1, ()), (r4.2.1.2.2.1.1, ()), ()), ()), ((r5.1, ((r5.2.1.1.1, ()), (r5.2.1.2.1.1, ()), (r5.2.1.2.2.1.1, ()), ()), ()), ((r6.1, ((r6.2.1.1.1, ()), (r6.2.1.2.1.1, ()), (r6.2.1.2.2.1.1, ()), ()), ()), ((r7.1, ((r7.2.1.1.1, ()), (r7.2.1.2.1.1, ()), (r7.2.1.2.2.1.1, ()), ()), ()), ((r8.1, ((r8.2.1.1.1, ()), (r8.2.1.2.1.1, ()), (r8.2.1.2.2.1.1, ()), ()), ()), ((r9.1, ((r9.2.1.1.1, ()), (r9.2.1.2.1.1, ()), (r9.2.1.2.2.1.1, ()), ()), ()), ((r10.1, ((r10.2.1.1.1, ()), (r10.2.1.2.1.1, ()), (r10.2.1.2.2.1.1, ()), ()), ()), ())))))))))))))))
theorem e129 (L : Lp) (g134 : (List UInt8) → Int → Int → Int → Option ((List UInt8) × (((Int × Unit) × ((Int × Unit) × ((Int × Unit) × Unit))) × Unit))) (x : s129.args.den) (h : denH s129.heap) : nrun [⟨134, s134, fun x h => g134 x.1 x.2.1 x.2.2.1 x.2.2.2.1⟩] L n129 s129 x h = F129 L g134 x.1 := by kernel_rfl
def f129 : Spec → Option (((List UInt8) × ((((List Res) × ((List (List Int)) × ((List Queue) × (Int × (Int × (Int × (Int × (Int × (Int × (Int × (Int × (Int × (Int × (Int × (Int × (Int × (Int × (Int × Unit)))))))))))))))))) × Unit) × Unit)) × (((List UInt8) × ((((List Res) × ((List (List Int)) × ((List Queue) × (Int × (Int × (Int × (Int × (Int × (Int × (Int × (Int × (Int × (Int × (Int × (Int × (Int × (Int × (Int × Unit)))))))))))))))))) × Unit) × Unit)) × (((List UInt8) × (((Int × Unit) × ((Int × Unit) × ((Int × Unit) × Unit))) × Unit)) × (((List UInt8) × ((((List Res) × ((List (List Int)) × ((List Queue) × (Int × (Int × (Int × (Int × (Int × (Int × (Int × (Int × (Int × (Int × (Int × (Int × (Int × (Int × (Int × Unit)))))))))))))))))) × Unit) × Unit)) × (((List UInt8) × ((((List Res) × ((List (List Int)) × ((List Queue) × (Int × (Int × (Int × (Int × (Int × (Int × (Int × (Int × (Int × (Int × (Int × (Int × (Int × (Int × (Int × Unit)))))))))))))))))) × Unit) × Unit)) × (((List UInt8) × (((Int × Unit) × ((Int × Unit) × ((Int × Unit) × Unit))) × Unit)) × (((List UInt8) × ((((List Res) × ((List (List Int)) × ((List Queue) × (Int × (Int × (Int × (Int × (Int × (Int × (Int × (Int × (Int × (Int × (Int × (Int × (Int × (Int × (Int × Unit)))))))))))))))))) × Unit) × Unit)) × (((List UInt8) × (((Int × Unit) × ((Int × Unit) × ((Int × Unit) × Unit))) × Unit)) × (((List UInt8) × (((Int × Unit) × ((Int × Unit) × ((Int × Unit) × Unit))) × Unit)) × (((List UInt8) × (((Int × Unit) × ((Int × Unit) × ((Int × Unit) × Unit))) × Unit)) × (((List UInt8) × (((Int × Unit) × ((Int × Unit) × ((Int × Unit) × Unit))) × Unit)) × (((List UInt8) × (((Int × Unit) × ((Int × Unit) × ((Int × Unit) × Unit))) × Unit)) × (((List UInt8) × (((Int × Unit) × ((Int × Unit) × ((Int × Unit) × Unit))) × Unit)) × (((List UInt8) × (((Int × Unit) × ((Int × Unit) × ((Int × Unit) × Unit))) × Unit)) × (((List UInt8) × (((Int × Unit) × ((Int × Unit) × ((Int × Unit) × Unit))) × Unit)) × Unit))))))))))))))) := F129 (@LN LOOPS) f134
@[reducible] def t129 : Ent := ⟨129, s129, fun x h => f129 x.1⟩
theorem k129 : chkNF Try.prog Try.f129 n129 = true := by kernel_rfl
theorem ok129 : NOk Try.prog t129 := NOk.body (T := [t134]) mixed (nall_cons ok134 nall_nil) (oneEach_of (by kernel_rfl)) Try.func129 k129 (by kernel_rfl) (fun x h => e129 _ _ x h)
/- drayage/vec.numbers -/
def n143 : NFunc := ⟨12, .seq (.region 2 [
    ⟨(some 1), .box 4 (.tmp 0), none, 0, none⟩,
    ⟨(some 2), .alloc [.int .i64 (0), .int .i64 (0), .int .i64 (0), .int .i64 (0)], none, 1, none⟩] []) (.seq (.region 0 [
    ⟨(some 3), .fieldAddr 0 (.tmp 1), none, 0, none⟩,
    ⟨(some 4), .load false 1 (.tmp 3), none, 0, none⟩,
    ⟨(some 5), .fieldAddr 1 (.tmp 1), none, 0, none⟩,
    ⟨(some 6), .load false 1 (.tmp 5), none, 0, none⟩,
    ⟨(some 7), .fieldAddr 2 (.tmp 1), none, 0, none⟩,
    ⟨(some 8), .load false 1 (.tmp 7), none, 0, none⟩,
    ⟨(some 9), .fieldAddr 3 (.tmp 1), none, 0, none⟩,
    ⟨(some 10), .load false 1 (.tmp 9), none, 0, none⟩,
    ⟨(some 11), .build [.int .i64 (0), .int .i64 (0), .int .i64 (0), .int .i64 (0)] [(0, 1, (.tmp 4)), (1, 1, (.tmp 6)), (2, 1, (.tmp 8)), (3, 1, (.tmp 10))], none, 0, none⟩,
    ⟨none, .store 4 (.tmp 2) (.tmp 11), none, 0, none⟩] []) (.ret)), [.cell true 4 2], true⟩
def s143 : Sig := ⟨(.cons (.v .res) .nil), [], ((.v (.pair (.int .i64) (.pair (.int .i64) (.pair (.int .i64) (.int .i64))))), []), []⟩
def F143 (L : Lp)  (a0 : Res) : Option (Int × (Int × (Int × Int))) :=
  some (a0.cpu, (a0.mem, (a0.gpu, a0.lic)))
theorem e143 (L : Lp)  (x : s143.args.den) (h : denH s143.heap) : nrun [] L n143 s143 x h = F143 L  x.1 := by kernel_rfl
def f143 : Res → Option (Int × (Int × (Int × Int))) := F143 (@LN LOOPS) 
@[reducible] def t143 : Ent := ⟨143, s143, fun x h => f143 x.1⟩
theorem k143 : chkNF Try.prog Try.f143 n143 = true := by kernel_rfl
theorem ok143 : NOk Try.prog t143 := NOk.body (T := []) mixed nall_nil (oneEach_of (by kernel_rfl)) Try.func143 k143 (by kernel_rfl) (fun x h => e143 _  x h)
/- drayage/vec.Right -/
def n140 : NFunc := ⟨17, .seq (.region 1 [
    ⟨(some 1), .box 4 (.tmp 0), none, 0, none⟩,
    ⟨(some 2), .move (.const (.bool false)), none, 1, none⟩] []) (.seq (.seq (.region 4 [
    ⟨(some 5), .load true 4 (.tmp 1), none, 0, none⟩,
    ⟨(some 6), .call (.func 143) [(false, (.tmp 5))] false 4, none, 0, none⟩,
    ⟨(some 7), .move (.const (.int .i64 (0))), none, 4, none⟩] []) (.block 0 (.loopU [6, 7] 5 (.seq (.region 0 [
    ⟨(some 8), .bin .lss (.tmp 7) (.const (.int .i64 (4))), none, 0, none⟩] []) (.seq (.cond (.tmp 8) (.skip) (.exit 0)) (.seq (.block 1 (.seq (.region 0 [
    ⟨(some 9), .indexVal false 4 1 (.tmp 6) (.tmp 7), none, 0, none⟩,
    ⟨(some 4), .move (.tmp 9), none, 0, none⟩] []) (.seq (.region 0 [
    ⟨(some 10), .move (.tmp 4), none, 0, none⟩,
    ⟨(some 11), .bin .lss (.tmp 10) (.const (.int .i64 (0))), none, 0, none⟩,
    ⟨(some 12), .move (.tmp 11), none, 0, none⟩,
    ⟨(some 13), .move (.tmp 4), (some (12, false)), 0, none⟩,
    ⟨(some 14), .bin .gtr (.tmp 13) (.const (.int .i64 (1048576))), (some (12, false)), 0, none⟩,
    ⟨(some 15), .pick (.tmp 12) (.const (.bool true)) (.tmp 14), none, 0, none⟩] []) (.cond (.tmp 15) (.seq (.region 0 [
    ⟨(some 2), .move (.const (.bool false)), none, 0, none⟩] []) (.ret)) (.skip))))) (.region 0 [
    ⟨(some 16), .bin .add (.tmp 7) (.const (.int .i64 (1))), none, 0, none⟩,
    ⟨(some 7), .move (.tmp 16), none, 0, none⟩] []))))))) (.seq (.region 0 [
    ⟨(some 2), .move (.const (.bool true)), none, 0, none⟩] []) (.ret))), [.tmp 2], true⟩
def s140 : Sig := ⟨(.cons (.v .res) .nil), [], ((.v .bool), []), []⟩
def F140 (L : Lp) (g143 : Res → Option (Int × (Int × (Int × Int)))) (a0 : Res) : Option Bool :=
  Option.bind (g143 a0) fun r1 =>
  cond (decide (r1.1 < 0))
    (some false)
    (cond (decide (1048576 < r1.1))
      (some false)
      (cond (decide (r1.2.1 < 0))
        (some false)
        (cond (decide (1048576 < r1.2.1))
          (some false)
          (cond (decide (r1.2.2.1 < 0))
            (some false)
            (cond (decide (1048576 < r1.2.2.1))
              (some false)
              (cond (decide (r1.2.2.2 < 0))
                (some false)
                (cond (decide (1048576 < r1.2.2.2))
                  (some false)
                  (some true))))))))
theorem e140 (L : Lp) (g143 : Res → Option (Int × (Int × (Int × Int)))) (x : s140.args.den) (h : denH s140.heap) : nrun [⟨143, s143, fun x h => g143 x.1⟩] L n140 s140 x h = F140 L g143 x.1 := by kernel_rfl
def f140 : Res → Option Bool := F140 (@LN LOOPS) f143
@[reducible] def t140 : Ent := ⟨140, s140, fun x h => f140 x.1⟩
theorem k140 : chkNF Try.prog Try.f140 n140 = true := by kernel_rfl
theorem ok140 : NOk Try.prog t140 := NOk.body (T := [t143]) mixed (nall_cons ok143 nall_nil) (oneEach_of (by kernel_rfl)) Try.func140 k140 (by kernel_rfl) (fun x h => e140 _ _ x h)
/- drayage/spec.nodesRight -/
def n131 : NFunc := ⟨26, .seq (.region 1 [
    ⟨(some 1), .box 18 (.tmp 0), none, 0, none⟩,
    ⟨(some 2), .move (.const (.bool false)), none, 1, none⟩] []) (.seq (.seq (.region 0 [
    ⟨(some 5), .fieldAddr 0 (.tmp 1), none, 0, none⟩,
    ⟨(some 6), .load false 1 (.tmp 5), none, 0, none⟩,
    ⟨(some 7), .len (.tmp 6), none, 0, none⟩,
    ⟨(some 8), .bin .lss (.tmp 7) (.const (.int .i64 (1))), none, 0, none⟩,
    ⟨(some 9), .move (.tmp 8), none, 0, none⟩,
    ⟨(some 10), .fieldAddr 0 (.tmp 1), (some (9, false)), 0, none⟩,
    ⟨(some 11), .load false 1 (.tmp 10), (some (9, false)), 0, none⟩,
    ⟨(some 12), .len (.tmp 11), (some (9, false)), 0, none⟩,
    ⟨(some 13), .bin .gtr (.tmp 12) (.const (.int .i64 (16))), (some (9, false)), 0, none⟩,
    ⟨(some 14), .pick (.tmp 9) (.const (.bool true)) (.tmp 13), none, 0, none⟩] []) (.cond (.tmp 14) (.seq (.region 0 [
    ⟨(some 2), .move (.const (.bool false)), none, 0, none⟩] []) (.ret)) (.skip))) (.seq (.seq (.region 0 [
    ⟨(some 15), .fieldAddr 0 (.tmp 1), none, 0, none⟩,
    ⟨(some 16), .load false 1 (.tmp 15), none, 0, none⟩,
    ⟨(some 17), .len (.tmp 16), none, 0, none⟩,
    ⟨(some 18), .move (.const (.int .i64 (0))), none, 0, none⟩] []) (.block 0 (.loop [16, 17, 18] ⟨[(18, (.v (.int .i64)))], [16, 17], []⟩ (.seq (.region 0 [
    ⟨(some 19), .bin .lss (.tmp 18) (.tmp 17), none, 0, none⟩] []) (.seq (.cond (.tmp 19) (.skip) (.exit 0)) (.seq (.block 1 (.seq (.region 1 [
    ⟨(some 20), .indexSl 4 (.tmp 16) (.tmp 18), none, 0, none⟩,
    ⟨(some 21), .load true 4 (.tmp 20), none, 0, none⟩,
    ⟨(some 4), .alloc [.int .i64 (0), .int .i64 (0), .int .i64 (0), .int .i64 (0)], none, 0, none⟩,
    ⟨none, .store 4 (.tmp 4) (.tmp 21), none, 1, none⟩] []) (.seq (.region 4 [
    ⟨(some 22), .load true 4 (.tmp 4), none, 0, none⟩,
    ⟨(some 23), .call (.func 140) [(false, (.tmp 22))] false 4, none, 0, none⟩,
    ⟨(some 24), .un .not (.tmp 23), none, 4, none⟩] []) (.cond (.tmp 24) (.seq (.region 0 [
    ⟨(some 2), .move (.const (.bool false)), none, 0, none⟩] []) (.ret)) (.skip))))) (.region 0 [
    ⟨(some 25), .bin .add (.tmp 18) (.const (.int .i64 (1))), none, 0, none⟩,
    ⟨(some 18), .move (.tmp 25), none, 0, none⟩] []))))))) (.seq (.region 0 [
    ⟨(some 2), .move (.const (.bool true)), none, 0, none⟩] []) (.ret)))), [.tmp 2], true⟩
def s131 : Sig := ⟨(.cons (.v .spec) .nil), [], ((.v .bool), []), []⟩
def l131_0 (g140 : Res → Option Bool) (as0 : Spec) (next : ((Int × Unit) × Unit) → Option Bool) (z2 : Int) : Option Bool :=
  cond (decide (z2 < (List.length as0.nodes : Int)))
    (cond (decide (0 ≤ z2))
      (Option.bind (as0.nodes[Int.toNat z2]?) fun y3 =>
      Option.bind (g140 y3) fun r4 =>
      cond (!r4)
        (some false)
        (next ((IntKind.wrap .i64 (z2 + 1), ()), ())))
      (none))
    (some true)
def F131 (L : Lp) (g140 : Res → Option Bool) (as0 : Spec) : Option Bool :=
  cond (decide ((List.length as0.nodes : Int) < 1))
    (some false)
    (cond (decide (16 < (List.length as0.nodes : Int)))
      (some false)
      (L (fun (s1 : ((Int × Unit) × Unit)) next => l131_0 g140 as0 next s1.1.1) ((0, ()), ())))
theorem e131 (L : Lp) (g140 : Res → Option Bool) (x : s131.args.den) (h : denH s131.heap) : nrun [⟨140, s140, fun x h => g140 x.1⟩] L n131 s131 x h = F131 L g140 x.1 := by kernel_rfl
def f131 : Spec → Option Bool := F131 (@LN LOOPS) f140
@[reducible] def t131 : Ent := ⟨131, s131, fun x h => f131 x.1⟩
theorem k131 : chkNF Try.prog Try.f131 n131 = true := by kernel_rfl
theorem ok131 : NOk Try.prog t131 := NOk.body (T := [t140]) mixed (nall_cons ok140 nall_nil) (oneEach_of (by kernel_rfl)) Try.func131 k131 (by kernel_rfl) (fun x h => e131 _ _ x h)
/- drayage/spec.rules$1 -/
def n130 : NFunc := ⟨4, .seq (.region 0 [
    ⟨(some 1), .move (.const (.bool false)), none, 0, none⟩] []) (.seq (.region 4 [
    ⟨(some 2), .load true 18 (.tmp 0), none, 0, none⟩,
    ⟨(some 3), .call (.func 131) [(false, (.tmp 2))] false 4, none, 0, none⟩,
    ⟨(some 1), .move (.tmp 3), none, 4, none⟩] []) (.ret)), [.tmp 1], true⟩
def s130 : Sig := ⟨(.cons (.iptr (.cons (.v (.list .res)) (.cons (.v (.list (.list (.int .i64)))) (.cons (.v (.list .queue)) (.cons (.v (.int .i64)) (.cons (.v (.int .i64)) (.cons (.v (.int .i64)) (.cons (.v (.int .i64)) (.cons (.v (.int .i64)) (.cons (.v (.int .i64)) (.cons (.v (.int .i64)) (.cons (.v (.int .i64)) (.cons (.v (.int .i64)) (.cons (.v (.int .i64)) (.cons (.v (.int .i64)) (.cons (.v (.int .i64)) (.cons (.v (.int .i64)) (.cons (.v (.int .i64)) (.cons (.v (.int .i64)) .nil)))))))))))))))))) 0) .nil), [], ((.v .bool), []), []⟩
def F130 (L : Lp) (g131 : Spec → Option Bool) (a0 : (List Res)) (a1 : (List (List Int))) (a2 : (List Queue)) (a3 : Int) (a4 : Int) (a5 : Int) (a6 : Int) (a7 : Int) (a8 : Int) (a9 : Int) (a10 : Int) (a11 : Int) (a12 : Int) (a13 : Int) (a14 : Int) (a15 : Int) (a16 : Int) (a17 : Int) : Option Bool :=
  Option.bind (g131 (Spec.mk a0 a1 a2 a3 (Weights.mk a4 a5 a6 a7) a8 a9 a10 a11 a12 a13 a14 a15 a16 a17)) fun r18 =>
  some r18
theorem e130 (L : Lp) (g131 : Spec → Option Bool) (x : s130.args.den) (h : denH s130.heap) : nrun [⟨131, s131, fun x h => g131 x.1⟩] L n130 s130 x h = F130 L g131 x.1.1 x.1.2.1 x.1.2.2.1 x.1.2.2.2.1 x.1.2.2.2.2.1 x.1.2.2.2.2.2.1 x.1.2.2.2.2.2.2.1 x.1.2.2.2.2.2.2.2.1 x.1.2.2.2.2.2.2.2.2.1 x.1.2.2.2.2.2.2.2.2.2.1 x.1.2.2.2.2.2.2.2.2.2.2.1 x.1.2.2.2.2.2.2.2.2.2.2.2.1 x.1.2.2.2.2.2.2.2.2.2.2.2.2.1 x.1.2.2.2.2.2.2.2.2.2.2.2.2.2.1 x.1.2.2.2.2.2.2.2.2.2.2.2.2.2.2.1 x.1.2.2.2.2.2.2.2.2.2.2.2.2.2.2.2.1 x.1.2.2.2.2.2.2.2.2.2.2.2.2.2.2.2.2.1 x.1.2.2.2.2.2.2.2.2.2.2.2.2.2.2.2.2.2.1 := by kernel_rfl
def f130 : (List Res) → (List (List Int)) → (List Queue) → Int → Int → Int → Int → Int → Int → Int → Int → Int → Int → Int → Int → Int → Int → Int → Option Bool := F130 (@LN LOOPS) f131
@[reducible] def t130 : Ent := ⟨130, s130, fun x h => f130 x.1.1 x.1.2.1 x.1.2.2.1 x.1.2.2.2.1 x.1.2.2.2.2.1 x.1.2.2.2.2.2.1 x.1.2.2.2.2.2.2.1 x.1.2.2.2.2.2.2.2.1 x.1.2.2.2.2.2.2.2.2.1 x.1.2.2.2.2.2.2.2.2.2.1 x.1.2.2.2.2.2.2.2.2.2.2.1 x.1.2.2.2.2.2.2.2.2.2.2.2.1 x.1.2.2.2.2.2.2.2.2.2.2.2.2.1 x.1.2.2.2.2.2.2.2.2.2.2.2.2.2.1 x.1.2.2.2.2.2.2.2.2.2.2.2.2.2.2.1 x.1.2.2.2.2.2.2.2.2.2.2.2.2.2.2.2.1 x.1.2.2.2.2.2.2.2.2.2.2.2.2.2.2.2.2.1 x.1.2.2.2.2.2.2.2.2.2.2.2.2.2.2.2.2.2.1⟩
theorem k130 : chkNF Try.prog Try.f130 n130 = true := by kernel_rfl
theorem ok130 : NOk Try.prog t130 := NOk.body (T := [t131]) mixed (nall_cons ok131 nall_nil) (oneEach_of (by kernel_rfl)) Try.func130 k130 (by kernel_rfl) (fun x h => e130 _ _ x h)
/- drayage/spec.ascending -/
def n141 : NFunc := ⟨24, .seq (.region 0 [
    ⟨(some 4), .move (.const (.bool false)), none, 0, none⟩] []) (.seq (.region 0 [
    ⟨(some 5), .move (.const (.int .i64 (-1))), none, 0, none⟩] []) (.seq (.seq (.region 0 [
    ⟨(some 8), .move (.tmp 0), none, 0, none⟩,
    ⟨(some 9), .len (.tmp 8), none, 0, none⟩,
    ⟨(some 10), .move (.const (.int .i64 (0))), none, 0, none⟩] []) (.block 0 (.loop [1, 5, 8, 9, 10] ⟨[(5, (.v (.int .i64))), (10, (.v (.int .i64)))], [1, 8, 9], []⟩ (.seq (.region 0 [
    ⟨(some 11), .bin .lss (.tmp 10) (.tmp 9), none, 0, none⟩] []) (.seq (.cond (.tmp 11) (.skip) (.exit 0)) (.seq (.block 1 (.seq (.region 0 [
    ⟨(some 12), .indexSl 1 (.tmp 8) (.tmp 10), none, 0, none⟩,
    ⟨(some 13), .load false 1 (.tmp 12), none, 0, none⟩,
    ⟨(some 7), .move (.tmp 13), none, 0, none⟩] []) (.seq (.seq (.region 0 [
    ⟨(some 14), .move (.tmp 7), none, 0, none⟩,
    ⟨(some 15), .move (.tmp 5), none, 0, none⟩,
    ⟨(some 16), .bin .leq (.tmp 14) (.tmp 15), none, 0, none⟩,
    ⟨(some 17), .move (.tmp 16), none, 0, none⟩,
    ⟨(some 18), .move (.tmp 7), (some (17, false)), 0, none⟩,
    ⟨(some 19), .move (.tmp 1), (some (17, false)), 0, none⟩,
    ⟨(some 20), .bin .geq (.tmp 18) (.tmp 19), (some (17, false)), 0, none⟩,
    ⟨(some 21), .pick (.tmp 17) (.const (.bool true)) (.tmp 20), none, 0, none⟩] []) (.cond (.tmp 21) (.seq (.region 0 [
    ⟨(some 4), .move (.const (.bool false)), none, 0, none⟩] []) (.ret)) (.skip))) (.region 0 [
    ⟨(some 22), .move (.tmp 7), none, 0, none⟩,
    ⟨(some 5), .move (.tmp 22), none, 0, none⟩] [])))) (.region 0 [
    ⟨(some 23), .bin .add (.tmp 10) (.const (.int .i64 (1))), none, 0, none⟩,
    ⟨(some 10), .move (.tmp 23), none, 0, none⟩] []))))))) (.seq (.region 0 [
    ⟨(some 4), .move (.const (.bool true)), none, 0, none⟩] []) (.ret)))), [.tmp 4], true⟩
def s141 : Sig := ⟨(.cons (.v (.list (.int .i64))) (.cons (.v (.int .i64)) .nil)), [], ((.v .bool), []), []⟩
def l141_0 (al0 : (List Int)) (end1 : Int) (next : ((Int × (Int × Unit)) × Unit) → Option Bool) (last3 : Int) (z4 : Int) : Option Bool :=
  cond (decide (z4 < (List.length al0 : Int)))
    (cond (decide (0 ≤ z4))
      (Option.bind (al0[Int.toNat z4]?) fun y5 =>
      cond (decide (y5 ≤ last3))
        (some false)
        (cond (decide (end1 ≤ y5))
          (some false)
          (next ((y5, IntKind.wrap .i64 (z4 + 1), ()), ()))))
      (none))
    (some true)
def F141 (L : Lp)  (al0 : (List Int)) (end1 : Int) : Option Bool :=
  L (fun (s2 : ((Int × (Int × Unit)) × Unit)) next => l141_0 al0 end1 next s2.1.1 s2.1.2.1) (((-1), 0, ()), ())
theorem e141 (L : Lp)  (x : s141.args.den) (h : denH s141.heap) : nrun [] L n141 s141 x h = F141 L  x.1 x.2.1 := by kernel_rfl
def f141 : (List Int) → Int → Option Bool := F141 (@LN LOOPS) 
@[reducible] def t141 : Ent := ⟨141, s141, fun x h => f141 x.1 x.2.1⟩
theorem k141 : chkNF Try.prog Try.f141 n141 = true := by kernel_rfl
theorem ok141 : NOk Try.prog t141 := NOk.body (T := []) mixed nall_nil (oneEach_of (by kernel_rfl)) Try.func141 k141 (by kernel_rfl) (fun x h => e141 _  x h)
/- drayage/spec.partsRight -/
def n133 : NFunc := ⟨34, .seq (.region 1 [
    ⟨(some 1), .box 18 (.tmp 0), none, 0, none⟩,
    ⟨(some 2), .move (.const (.bool false)), none, 1, none⟩] []) (.seq (.seq (.region 0 [
    ⟨(some 5), .fieldAddr 1 (.tmp 1), none, 0, none⟩,
    ⟨(some 6), .load false 1 (.tmp 5), none, 0, none⟩,
    ⟨(some 7), .len (.tmp 6), none, 0, none⟩,
    ⟨(some 8), .bin .lss (.tmp 7) (.const (.int .i64 (1))), none, 0, none⟩,
    ⟨(some 9), .move (.tmp 8), none, 0, none⟩,
    ⟨(some 10), .fieldAddr 1 (.tmp 1), (some (9, false)), 0, none⟩,
    ⟨(some 11), .load false 1 (.tmp 10), (some (9, false)), 0, none⟩,
    ⟨(some 12), .len (.tmp 11), (some (9, false)), 0, none⟩,
    ⟨(some 13), .bin .gtr (.tmp 12) (.const (.int .i64 (8))), (some (9, false)), 0, none⟩,
    ⟨(some 14), .pick (.tmp 9) (.const (.bool true)) (.tmp 13), none, 0, none⟩] []) (.cond (.tmp 14) (.seq (.region 0 [
    ⟨(some 2), .move (.const (.bool false)), none, 0, none⟩] []) (.ret)) (.skip))) (.seq (.seq (.region 0 [
    ⟨(some 15), .fieldAddr 1 (.tmp 1), none, 0, none⟩,
    ⟨(some 16), .load false 1 (.tmp 15), none, 0, none⟩,
    ⟨(some 17), .len (.tmp 16), none, 0, none⟩,
    ⟨(some 18), .move (.const (.int .i64 (0))), none, 0, none⟩] []) (.block 0 (.loop [1, 16, 17, 18] ⟨[(1, (.ptr 0 0 0)), (18, (.v (.int .i64)))], [16, 17], [.one false .spec]⟩ (.seq (.region 0 [
    ⟨(some 19), .bin .lss (.tmp 18) (.tmp 17), none, 0, none⟩] []) (.seq (.cond (.tmp 19) (.skip) (.exit 0)) (.seq (.block 1 (.seq (.region 0 [
    ⟨(some 20), .indexSl 1 (.tmp 16) (.tmp 18), none, 0, none⟩,
    ⟨(some 21), .load false 1 (.tmp 20), none, 0, none⟩,
    ⟨(some 4), .move (.tmp 21), none, 0, none⟩] []) (.seq (.region 4 [
    ⟨(some 22), .move (.tmp 4), none, 0, none⟩,
    ⟨(some 23), .len (.tmp 22), none, 0, none⟩,
    ⟨(some 24), .bin .lss (.tmp 23) (.const (.int .i64 (1))), none, 0, none⟩,
    ⟨(some 25), .move (.tmp 24), none, 0, none⟩,
    ⟨(some 26), .move (.tmp 4), (some (25, false)), 0, none⟩,
    ⟨(some 27), .fieldAddr 0 (.tmp 1), (some (25, false)), 0, none⟩,
    ⟨(some 28), .load false 1 (.tmp 27), (some (25, false)), 0, none⟩,
    ⟨(some 29), .len (.tmp 28), (some (25, false)), 0, none⟩,
    ⟨(some 30), .call (.func 141) [(false, (.tmp 26)), (false, (.tmp 29))] false 4, (some (25, false)), 0, none⟩,
    ⟨(some 31), .un .not (.tmp 30), (some (25, false)), 4, none⟩,
    ⟨(some 32), .pick (.tmp 25) (.const (.bool true)) (.tmp 31), none, 4, none⟩] []) (.cond (.tmp 32) (.seq (.region 0 [
    ⟨(some 2), .move (.const (.bool false)), none, 0, none⟩] []) (.ret)) (.skip))))) (.region 0 [
    ⟨(some 33), .bin .add (.tmp 18) (.const (.int .i64 (1))), none, 0, none⟩,
    ⟨(some 18), .move (.tmp 33), none, 0, none⟩] []))))))) (.seq (.region 0 [
    ⟨(some 2), .move (.const (.bool true)), none, 0, none⟩] []) (.ret)))), [.tmp 2], true⟩
def s133 : Sig := ⟨(.cons (.v .spec) .nil), [], ((.v .bool), []), []⟩
def l133_0 (g141 : (List Int) → Int → Option Bool) (as0 : Spec) (next : ((Unit × (Int × Unit)) × (Spec × Unit)) → Option Bool) (z2 : Int) (z3 : Spec) : Option Bool :=
  cond (decide (z2 < (List.length as0.parts : Int)))
    (cond (decide (0 ≤ z2))
      (Option.bind (as0.parts[Int.toNat z2]?) fun y4 =>
      cond (decide ((List.length y4 : Int) < 1))
        (some false)
        (Option.bind (g141 y4 (List.length z3.nodes : Int)) fun r5 =>
        cond (!r5)
          (some false)
          (next (((), IntKind.wrap .i64 (z2 + 1), ()), (z3, ())))))
      (none))
    (some true)
def F133 (L : Lp) (g141 : (List Int) → Int → Option Bool) (as0 : Spec) : Option Bool :=
  cond (decide ((List.length as0.parts : Int) < 1))
    (some false)
    (cond (decide (8 < (List.length as0.parts : Int)))
      (some false)
      (L (fun (s1 : ((Unit × (Int × Unit)) × (Spec × Unit))) next => l133_0 g141 as0 next s1.1.2.1 s1.2.1) (((), 0, ()), (as0, ()))))
theorem e133 (L : Lp) (g141 : (List Int) → Int → Option Bool) (x : s133.args.den) (h : denH s133.heap) : nrun [⟨141, s141, fun x h => g141 x.1 x.2.1⟩] L n133 s133 x h = F133 L g141 x.1 := by kernel_rfl
def f133 : Spec → Option Bool := F133 (@LN LOOPS) f141
@[reducible] def t133 : Ent := ⟨133, s133, fun x h => f133 x.1⟩
theorem k133 : chkNF Try.prog Try.f133 n133 = true := by kernel_rfl
theorem ok133 : NOk Try.prog t133 := NOk.body (T := [t141]) mixed (nall_cons ok141 nall_nil) (oneEach_of (by kernel_rfl)) Try.func133 k133 (by kernel_rfl) (fun x h => e133 _ _ x h)
/- drayage/spec.rules$2 -/
def n132 : NFunc := ⟨4, .seq (.region 0 [
    ⟨(some 1), .move (.const (.bool false)), none, 0, none⟩] []) (.seq (.region 4 [
    ⟨(some 2), .load true 18 (.tmp 0), none, 0, none⟩,
    ⟨(some 3), .call (.func 133) [(false, (.tmp 2))] false 4, none, 0, none⟩,
    ⟨(some 1), .move (.tmp 3), none, 4, none⟩] []) (.ret)), [.tmp 1], true⟩
def s132 : Sig := ⟨(.cons (.iptr (.cons (.v (.list .res)) (.cons (.v (.list (.list (.int .i64)))) (.cons (.v (.list .queue)) (.cons (.v (.int .i64)) (.cons (.v (.int .i64)) (.cons (.v (.int .i64)) (.cons (.v (.int .i64)) (.cons (.v (.int .i64)) (.cons (.v (.int .i64)) (.cons (.v (.int .i64)) (.cons (.v (.int .i64)) (.cons (.v (.int .i64)) (.cons (.v (.int .i64)) (.cons (.v (.int .i64)) (.cons (.v (.int .i64)) (.cons (.v (.int .i64)) (.cons (.v (.int .i64)) (.cons (.v (.int .i64)) .nil)))))))))))))))))) 0) .nil), [], ((.v .bool), []), []⟩
def F132 (L : Lp) (g133 : Spec → Option Bool) (a0 : (List Res)) (a1 : (List (List Int))) (a2 : (List Queue)) (a3 : Int) (a4 : Int) (a5 : Int) (a6 : Int) (a7 : Int) (a8 : Int) (a9 : Int) (a10 : Int) (a11 : Int) (a12 : Int) (a13 : Int) (a14 : Int) (a15 : Int) (a16 : Int) (a17 : Int) : Option Bool :=
  Option.bind (g133 (Spec.mk a0 a1 a2 a3 (Weights.mk a4 a5 a6 a7) a8 a9 a10 a11 a12 a13 a14 a15 a16 a17)) fun r18 =>
  some r18
theorem e132 (L : Lp) (g133 : Spec → Option Bool) (x : s132.args.den) (h : denH s132.heap) : nrun [⟨133, s133, fun x h => g133 x.1⟩] L n132 s132 x h = F132 L g133 x.1.1 x.1.2.1 x.1.2.2.1 x.1.2.2.2.1 x.1.2.2.2.2.1 x.1.2.2.2.2.2.1 x.1.2.2.2.2.2.2.1 x.1.2.2.2.2.2.2.2.1 x.1.2.2.2.2.2.2.2.2.1 x.1.2.2.2.2.2.2.2.2.2.1 x.1.2.2.2.2.2.2.2.2.2.2.1 x.1.2.2.2.2.2.2.2.2.2.2.2.1 x.1.2.2.2.2.2.2.2.2.2.2.2.2.1 x.1.2.2.2.2.2.2.2.2.2.2.2.2.2.1 x.1.2.2.2.2.2.2.2.2.2.2.2.2.2.2.1 x.1.2.2.2.2.2.2.2.2.2.2.2.2.2.2.2.1 x.1.2.2.2.2.2.2.2.2.2.2.2.2.2.2.2.2.1 x.1.2.2.2.2.2.2.2.2.2.2.2.2.2.2.2.2.2.1 := by kernel_rfl
def f132 : (List Res) → (List (List Int)) → (List Queue) → Int → Int → Int → Int → Int → Int → Int → Int → Int → Int → Int → Int → Int → Int → Int → Option Bool := F132 (@LN LOOPS) f133
@[reducible] def t132 : Ent := ⟨132, s132, fun x h => f132 x.1.1 x.1.2.1 x.1.2.2.1 x.1.2.2.2.1 x.1.2.2.2.2.1 x.1.2.2.2.2.2.1 x.1.2.2.2.2.2.2.1 x.1.2.2.2.2.2.2.2.1 x.1.2.2.2.2.2.2.2.2.1 x.1.2.2.2.2.2.2.2.2.2.1 x.1.2.2.2.2.2.2.2.2.2.2.1 x.1.2.2.2.2.2.2.2.2.2.2.2.1 x.1.2.2.2.2.2.2.2.2.2.2.2.2.1 x.1.2.2.2.2.2.2.2.2.2.2.2.2.2.1 x.1.2.2.2.2.2.2.2.2.2.2.2.2.2.2.1 x.1.2.2.2.2.2.2.2.2.2.2.2.2.2.2.2.1 x.1.2.2.2.2.2.2.2.2.2.2.2.2.2.2.2.2.1 x.1.2.2.2.2.2.2.2.2.2.2.2.2.2.2.2.2.2.1⟩
theorem k132 : chkNF Try.prog Try.f132 n132 = true := by kernel_rfl
theorem ok132 : NOk Try.prog t132 := NOk.body (T := [t133]) mixed (nall_cons ok133 nall_nil) (oneEach_of (by kernel_rfl)) Try.func132 k132 (by kernel_rfl) (fun x h => e132 _ _ x h)
/- drayage/spec.within$1 -/
def n142 : NFunc := ⟨12, .seq (.region 0 [
    ⟨(some 3), .move (.const (.bool false)), none, 0, none⟩] []) (.seq (.region 0 [
    ⟨(some 4), .load false 1 (.tmp 0), none, 0, none⟩,
    ⟨(some 5), .load false 1 (.tmp 1), none, 0, none⟩,
    ⟨(some 6), .bin .leq (.tmp 4) (.tmp 5), none, 0, none⟩,
    ⟨(some 7), .move (.tmp 6), none, 0, none⟩,
    ⟨(some 8), .load false 1 (.tmp 1), (some (7, true)), 0, none⟩,
    ⟨(some 9), .load false 1 (.tmp 2), (some (7, true)), 0, none⟩,
    ⟨(some 10), .bin .leq (.tmp 8) (.tmp 9), (some (7, true)), 0, none⟩,
    ⟨(some 11), .pick (.tmp 7) (.tmp 10) (.const (.bool false)), none, 0, none⟩,
    ⟨(some 3), .move (.tmp 11), none, 0, none⟩] []) (.ret)), [.tmp 3], true⟩
def s142 : Sig := ⟨(.cons (.iptr (.cons (.v (.int .i64)) .nil) 0) (.cons (.iptr (.cons (.v (.int .i64)) .nil) 0) (.cons (.iptr (.cons (.v (.int .i64)) .nil) 0) .nil))), [], ((.v .bool), []), []⟩
def F142 (L : Lp)  (a0 : Int) (a1 : Int) (a2 : Int) : Option Bool :=
  cond (decide (a0 ≤ a1))
    (some (decide (a1 ≤ a2)))
    (some false)
theorem e142 (L : Lp)  (x : s142.args.den) (h : denH s142.heap) : nrun [] L n142 s142 x h = F142 L  x.1.1 x.2.1.1 x.2.2.1.1 := by kernel_rfl
def f142 : Int → Int → Int → Option Bool := F142 (@LN LOOPS) 
@[reducible] def t142 : Ent := ⟨142, s142, fun x h => f142 x.1.1 x.2.1.1 x.2.2.1.1⟩
theorem k142 : chkNF Try.prog Try.f142 n142 = true := by kernel_rfl
theorem ok142 : NOk Try.prog t142 := NOk.body (T := []) mixed nall_nil (oneEach_of (by kernel_rfl)) Try.func142 k142 (by kernel_rfl) (fun x h => e142 _  x h)
/- drayage/spec.queuesRight -/
def n136 : NFunc := ⟨69, .seq (.region 1 [
    ⟨(some 1), .box 18 (.tmp 0), none, 0, none⟩,
    ⟨(some 2), .move (.const (.bool false)), none, 1, none⟩] []) (.seq (.seq (.region 0 [
    ⟨(some 7), .fieldAddr 2 (.tmp 1), none, 0, none⟩,
    ⟨(some 8), .load false 1 (.tmp 7), none, 0, none⟩,
    ⟨(some 9), .len (.tmp 8), none, 0, none⟩,
    ⟨(some 10), .bin .lss (.tmp 9) (.const (.int .i64 (1))), none, 0, none⟩,
    ⟨(some 11), .move (.tmp 10), none, 0, none⟩,
    ⟨(some 12), .fieldAddr 2 (.tmp 1), (some (11, false)), 0, none⟩,
    ⟨(some 13), .load false 1 (.tmp 12), (some (11, false)), 0, none⟩,
    ⟨(some 14), .len (.tmp 13), (some (11, false)), 0, none⟩,
    ⟨(some 15), .bin .gtr (.tmp 14) (.const (.int .i64 (8))), (some (11, false)), 0, none⟩,
    ⟨(some 16), .pick (.tmp 11) (.const (.bool true)) (.tmp 15), none, 0, none⟩] []) (.cond (.tmp 16) (.seq (.region 0 [
    ⟨(some 2), .move (.const (.bool false)), none, 0, none⟩] []) (.ret)) (.skip))) (.seq (.seq (.region 0 [
    ⟨(some 17), .fieldAddr 2 (.tmp 1), none, 0, none⟩,
    ⟨(some 18), .load false 1 (.tmp 17), none, 0, none⟩,
    ⟨(some 19), .len (.tmp 18), none, 0, none⟩,
    ⟨(some 20), .move (.const (.int .i64 (0))), none, 0, none⟩] []) (.block 0 (.loop [1, 18, 19, 20] ⟨[(1, (.ptr 0 0 0)), (20, (.v (.int .i64)))], [18, 19], [.one false .spec]⟩ (.seq (.region 0 [
    ⟨(some 21), .bin .lss (.tmp 20) (.tmp 19), none, 0, none⟩] []) (.seq (.cond (.tmp 21) (.skip) (.exit 0)) (.seq (.block 1 (.seq (.region 1 [
    ⟨(some 22), .indexSl 6 (.tmp 18) (.tmp 20), none, 0, none⟩,
    ⟨(some 23), .load true 6 (.tmp 22), none, 0, none⟩,
    ⟨(some 4), .alloc [.int .i64 (0), .zsl, .int .i64 (0), .int .i64 (0), .int .i64 (0), .int .i64 (0)], none, 0, none⟩,
    ⟨none, .store 6 (.tmp 4) (.tmp 23), none, 1, none⟩] []) (.seq (.seq (.region 4 [
    ⟨(some 24), .fieldAddr 0 (.tmp 4), none, 0, none⟩,
    ⟨(some 25), .load false 1 (.tmp 24), none, 0, none⟩,
    ⟨(some 26), .bin .lss (.tmp 25) (.const (.int .i64 (0))), none, 0, none⟩,
    ⟨(some 27), .move (.tmp 26), none, 0, none⟩,
    ⟨(some 28), .fieldAddr 0 (.tmp 4), (some (27, false)), 0, none⟩,
    ⟨(some 29), .load false 1 (.tmp 28), (some (27, false)), 0, none⟩,
    ⟨(some 30), .fieldAddr 1 (.tmp 1), (some (27, false)), 0, none⟩,
    ⟨(some 31), .load false 1 (.tmp 30), (some (27, false)), 0, none⟩,
    ⟨(some 32), .len (.tmp 31), (some (27, false)), 0, none⟩,
    ⟨(some 33), .bin .geq (.tmp 29) (.tmp 32), (some (27, false)), 0, none⟩,
    ⟨(some 34), .pick (.tmp 27) (.const (.bool true)) (.tmp 33), none, 0, none⟩,
    ⟨(some 35), .move (.tmp 34), none, 0, none⟩,
    ⟨(some 36), .fieldAddr 1 (.tmp 4), (some (35, false)), 0, none⟩,
    ⟨(some 37), .load false 1 (.tmp 36), (some (35, false)), 0, none⟩,
    ⟨(some 38), .fieldAddr 3 (.tmp 1), (some (35, false)), 0, none⟩,
    ⟨(some 39), .load false 1 (.tmp 38), (some (35, false)), 0, none⟩,
    ⟨(some 40), .call (.func 141) [(false, (.tmp 37)), (false, (.tmp 39))] false 4, (some (35, false)), 0, none⟩,
    ⟨(some 41), .un .not (.tmp 40), (some (35, false)), 4, none⟩,
    ⟨(some 42), .pick (.tmp 35) (.const (.bool true)) (.tmp 41), none, 4, none⟩] []) (.cond (.tmp 42) (.seq (.region 0 [
    ⟨(some 2), .move (.const (.bool false)), none, 0, none⟩] []) (.ret)) (.skip))) (.seq (.seq (.region 0 [
    ⟨(some 43), .fieldAddr 2 (.tmp 4), none, 0, none⟩,
    ⟨(some 44), .load false 1 (.tmp 43), none, 0, none⟩,
    ⟨(some 45), .fieldAddr 3 (.tmp 4), none, 0, none⟩,
    ⟨(some 46), .load false 1 (.tmp 45), none, 0, none⟩,
    ⟨(some 47), .fieldAddr 4 (.tmp 4), none, 0, none⟩,
    ⟨(some 48), .load false 1 (.tmp 47), none, 0, none⟩,
    ⟨(some 49), .build [.int .i64 (0), .int .i64 (0), .int .i64 (0)] [(0, 1, (.tmp 44)), (1, 1, (.tmp 46)), (2, 1, (.tmp 48))], none, 0, none⟩,
    ⟨(some 50), .move (.const (.int .i64 (0))), none, 0, none⟩] []) (.block 2 (.loopU [1, 4, 18, 19, 20, 49, 50] 4 (.seq (.region 0 [
    ⟨(some 51), .bin .lss (.tmp 50) (.const (.int .i64 (3))), none, 0, none⟩] []) (.seq (.cond (.tmp 51) (.skip) (.exit 2)) (.seq (.block 3 (.seq (.region 0 [
    ⟨(some 52), .indexVal false 3 1 (.tmp 49) (.tmp 50), none, 0, none⟩,
    ⟨(some 6), .move (.tmp 52), none, 0, none⟩] []) (.seq (.region 0 [
    ⟨(some 53), .move (.tmp 6), none, 0, none⟩,
    ⟨(some 54), .bin .lss (.tmp 53) (.const (.int .i64 (1))), none, 0, none⟩,
    ⟨(some 55), .move (.tmp 54), none, 0, none⟩,
    ⟨(some 56), .move (.tmp 6), (some (55, false)), 0, none⟩,
    ⟨(some 57), .bin .gtr (.tmp 56) (.const (.int .i64 (256))), (some (55, false)), 0, none⟩,
    ⟨(some 58), .pick (.tmp 55) (.const (.bool true)) (.tmp 57), none, 0, none⟩] []) (.cond (.tmp 58) (.seq (.region 0 [
    ⟨(some 2), .move (.const (.bool false)), none, 0, none⟩] []) (.ret)) (.skip))))) (.region 0 [
    ⟨(some 59), .bin .add (.tmp 50) (.const (.int .i64 (1))), none, 0, none⟩,
    ⟨(some 50), .move (.tmp 59), none, 0, none⟩] []))))))) (.seq (.region 0 [
    ⟨(some 60), .fieldAddr 5 (.tmp 4), none, 0, none⟩,
    ⟨(some 61), .load false 1 (.tmp 60), none, 0, none⟩,
    ⟨(some 62), .bin .lss (.tmp 61) (.const (.int .i64 (0))), none, 0, none⟩,
    ⟨(some 63), .move (.tmp 62), none, 0, none⟩,
    ⟨(some 64), .fieldAddr 5 (.tmp 4), (some (63, false)), 0, none⟩,
    ⟨(some 65), .load false 1 (.tmp 64), (some (63, false)), 0, none⟩,
    ⟨(some 66), .bin .gtr (.tmp 65) (.const (.int .i64 (100))), (some (63, false)), 0, none⟩,
    ⟨(some 67), .pick (.tmp 63) (.const (.bool true)) (.tmp 66), none, 0, none⟩] []) (.cond (.tmp 67) (.seq (.region 0 [
    ⟨(some 2), .move (.const (.bool false)), none, 0, none⟩] []) (.ret)) (.skip))))))) (.region 0 [
    ⟨(some 68), .bin .add (.tmp 20) (.const (.int .i64 (1))), none, 0, none⟩,
    ⟨(some 20), .move (.tmp 68), none, 0, none⟩] []))))))) (.seq (.region 0 [
    ⟨(some 2), .move (.const (.bool true)), none, 0, none⟩] []) (.ret)))), [.tmp 2], true⟩
def s136 : Sig := ⟨(.cons (.v .spec) .nil), [], ((.v .bool), []), []⟩
def l136_0 (g141 : (List Int) → Int → Option Bool) (as0 : Spec) (next : ((Unit × (Int × Unit)) × (Spec × Unit)) → Option Bool) (z2 : Int) (z3 : Spec) : Option Bool :=
  cond (decide (z2 < (List.length as0.queues : Int)))
    (cond (decide (0 ≤ z2))
      (Option.bind (as0.queues[Int.toNat z2]?) fun y4 =>
      cond (decide (y4.part < 0))
        (some false)
        (cond (decide ((List.length z3.parts : Int) ≤ y4.part))
          (some false)
          (Option.bind (g141 y4.users z3.users) fun r5 =>
          cond (!r5)
            (some false)
            (cond (decide (y4.maxJobs < 1))
              (some false)
              (cond (decide (256 < y4.maxJobs))
                (some false)
                (cond (decide (y4.maxRun < 1))
                  (some false)
                  (cond (decide (256 < y4.maxRun))
                    (some false)
                    (cond (decide (y4.maxUser < 1))
                      (some false)
                      (cond (decide (256 < y4.maxUser))
                        (some false)
                        (cond (decide (y4.qos < 0))
                          (some false)
                          (cond (decide (100 < y4.qos))
                            (some false)
                            (next (((), IntKind.wrap .i64 (z2 + 1), ()), (z3, ()))))))))))))))
      (none))
    (some true)
def F136 (L : Lp) (g141 : (List Int) → Int → Option Bool) (as0 : Spec) : Option Bool :=
  cond (decide ((List.length as0.queues : Int) < 1))
    (some false)
    (cond (decide (8 < (List.length as0.queues : Int)))
      (some false)
      (L (fun (s1 : ((Unit × (Int × Unit)) × (Spec × Unit))) next => l136_0 g141 as0 next s1.1.2.1 s1.2.1) (((), 0, ()), (as0, ()))))
theorem e136 (L : Lp) (g141 : (List Int) → Int → Option Bool) (x : s136.args.den) (h : denH s136.heap) : nrun [⟨141, s141, fun x h => g141 x.1 x.2.1⟩] L n136 s136 x h = F136 L g141 x.1 := by kernel_rfl
def f136 : Spec → Option Bool := F136 (@LN LOOPS) f141
@[reducible] def t136 : Ent := ⟨136, s136, fun x h => f136 x.1⟩
theorem k136 : chkNF Try.prog Try.f136 n136 = true := by kernel_rfl
theorem ok136 : NOk Try.prog t136 := NOk.body (T := [t141]) mixed (nall_cons ok141 nall_nil) (oneEach_of (by kernel_rfl)) Try.func136 k136 (by kernel_rfl) (fun x h => e136 _ _ x h)
/- drayage/spec.rules$3 -/
def n135 : NFunc := ⟨4, .seq (.region 0 [
    ⟨(some 1), .move (.const (.bool false)), none, 0, none⟩] []) (.seq (.region 4 [
    ⟨(some 2), .load true 18 (.tmp 0), none, 0, none⟩,
    ⟨(some 3), .call (.func 136) [(false, (.tmp 2))] false 4, none, 0, none⟩,
    ⟨(some 1), .move (.tmp 3), none, 4, none⟩] []) (.ret)), [.tmp 1], true⟩
def s135 : Sig := ⟨(.cons (.iptr (.cons (.v (.list .res)) (.cons (.v (.list (.list (.int .i64)))) (.cons (.v (.list .queue)) (.cons (.v (.int .i64)) (.cons (.v (.int .i64)) (.cons (.v (.int .i64)) (.cons (.v (.int .i64)) (.cons (.v (.int .i64)) (.cons (.v (.int .i64)) (.cons (.v (.int .i64)) (.cons (.v (.int .i64)) (.cons (.v (.int .i64)) (.cons (.v (.int .i64)) (.cons (.v (.int .i64)) (.cons (.v (.int .i64)) (.cons (.v (.int .i64)) (.cons (.v (.int .i64)) (.cons (.v (.int .i64)) .nil)))))))))))))))))) 0) .nil), [], ((.v .bool), []), []⟩
def F135 (L : Lp) (g136 : Spec → Option Bool) (a0 : (List Res)) (a1 : (List (List Int))) (a2 : (List Queue)) (a3 : Int) (a4 : Int) (a5 : Int) (a6 : Int) (a7 : Int) (a8 : Int) (a9 : Int) (a10 : Int) (a11 : Int) (a12 : Int) (a13 : Int) (a14 : Int) (a15 : Int) (a16 : Int) (a17 : Int) : Option Bool :=
  Option.bind (g136 (Spec.mk a0 a1 a2 a3 (Weights.mk a4 a5 a6 a7) a8 a9 a10 a11 a12 a13 a14 a15 a16 a17)) fun r18 =>
  some r18
theorem e135 (L : Lp) (g136 : Spec → Option Bool) (x : s135.args.den) (h : denH s135.heap) : nrun [⟨136, s136, fun x h => g136 x.1⟩] L n135 s135 x h = F135 L g136 x.1.1 x.1.2.1 x.1.2.2.1 x.1.2.2.2.1 x.1.2.2.2.2.1 x.1.2.2.2.2.2.1 x.1.2.2.2.2.2.2.1 x.1.2.2.2.2.2.2.2.1 x.1.2.2.2.2.2.2.2.2.1 x.1.2.2.2.2.2.2.2.2.2.1 x.1.2.2.2.2.2.2.2.2.2.2.1 x.1.2.2.2.2.2.2.2.2.2.2.2.1 x.1.2.2.2.2.2.2.2.2.2.2.2.2.1 x.1.2.2.2.2.2.2.2.2.2.2.2.2.2.1 x.1.2.2.2.2.2.2.2.2.2.2.2.2.2.2.1 x.1.2.2.2.2.2.2.2.2.2.2.2.2.2.2.2.1 x.1.2.2.2.2.2.2.2.2.2.2.2.2.2.2.2.2.1 x.1.2.2.2.2.2.2.2.2.2.2.2.2.2.2.2.2.2.1 := by kernel_rfl
def f135 : (List Res) → (List (List Int)) → (List Queue) → Int → Int → Int → Int → Int → Int → Int → Int → Int → Int → Int → Int → Int → Int → Int → Option Bool := F135 (@LN LOOPS) f136
@[reducible] def t135 : Ent := ⟨135, s135, fun x h => f135 x.1.1 x.1.2.1 x.1.2.2.1 x.1.2.2.2.1 x.1.2.2.2.2.1 x.1.2.2.2.2.2.1 x.1.2.2.2.2.2.2.1 x.1.2.2.2.2.2.2.2.1 x.1.2.2.2.2.2.2.2.2.1 x.1.2.2.2.2.2.2.2.2.2.1 x.1.2.2.2.2.2.2.2.2.2.2.1 x.1.2.2.2.2.2.2.2.2.2.2.2.1 x.1.2.2.2.2.2.2.2.2.2.2.2.2.1 x.1.2.2.2.2.2.2.2.2.2.2.2.2.2.1 x.1.2.2.2.2.2.2.2.2.2.2.2.2.2.2.1 x.1.2.2.2.2.2.2.2.2.2.2.2.2.2.2.2.1 x.1.2.2.2.2.2.2.2.2.2.2.2.2.2.2.2.2.1 x.1.2.2.2.2.2.2.2.2.2.2.2.2.2.2.2.2.2.1⟩
theorem k135 : chkNF Try.prog Try.f135 n135 = true := by kernel_rfl
theorem ok135 : NOk Try.prog t135 := NOk.body (T := [t136]) mixed (nall_cons ok136 nall_nil) (oneEach_of (by kernel_rfl)) Try.func135 k135 (by kernel_rfl) (fun x h => e135 _ _ x h)
/- drayage/spec.weightsRight -/
def n138 : NFunc := ⟨24, .seq (.region 1 [
    ⟨(some 1), .box 4 (.tmp 0), none, 0, none⟩,
    ⟨(some 2), .move (.const (.bool false)), none, 1, none⟩] []) (.seq (.seq (.region 0 [
    ⟨(some 5), .fieldAddr 0 (.tmp 1), none, 0, none⟩,
    ⟨(some 6), .load false 1 (.tmp 5), none, 0, none⟩,
    ⟨(some 7), .fieldAddr 1 (.tmp 1), none, 0, none⟩,
    ⟨(some 8), .load false 1 (.tmp 7), none, 0, none⟩,
    ⟨(some 9), .fieldAddr 2 (.tmp 1), none, 0, none⟩,
    ⟨(some 10), .load false 1 (.tmp 9), none, 0, none⟩,
    ⟨(some 11), .fieldAddr 3 (.tmp 1), none, 0, none⟩,
    ⟨(some 12), .load false 1 (.tmp 11), none, 0, none⟩,
    ⟨(some 13), .build [.int .i64 (0), .int .i64 (0), .int .i64 (0), .int .i64 (0)] [(0, 1, (.tmp 6)), (1, 1, (.tmp 8)), (2, 1, (.tmp 10)), (3, 1, (.tmp 12))], none, 0, none⟩,
    ⟨(some 14), .move (.const (.int .i64 (0))), none, 0, none⟩] []) (.block 0 (.loopU [13, 14] 5 (.seq (.region 0 [
    ⟨(some 15), .bin .lss (.tmp 14) (.const (.int .i64 (4))), none, 0, none⟩] []) (.seq (.cond (.tmp 15) (.skip) (.exit 0)) (.seq (.block 1 (.seq (.region 0 [
    ⟨(some 16), .indexVal false 4 1 (.tmp 13) (.tmp 14), none, 0, none⟩,
    ⟨(some 4), .move (.tmp 16), none, 0, none⟩] []) (.seq (.region 0 [
    ⟨(some 17), .move (.tmp 4), none, 0, none⟩,
    ⟨(some 18), .bin .lss (.tmp 17) (.const (.int .i64 (0))), none, 0, none⟩,
    ⟨(some 19), .move (.tmp 18), none, 0, none⟩,
    ⟨(some 20), .move (.tmp 4), (some (19, false)), 0, none⟩,
    ⟨(some 21), .bin .gtr (.tmp 20) (.const (.int .i64 (1000))), (some (19, false)), 0, none⟩,
    ⟨(some 22), .pick (.tmp 19) (.const (.bool true)) (.tmp 21), none, 0, none⟩] []) (.cond (.tmp 22) (.seq (.region 0 [
    ⟨(some 2), .move (.const (.bool false)), none, 0, none⟩] []) (.ret)) (.skip))))) (.region 0 [
    ⟨(some 23), .bin .add (.tmp 14) (.const (.int .i64 (1))), none, 0, none⟩,
    ⟨(some 14), .move (.tmp 23), none, 0, none⟩] []))))))) (.seq (.region 0 [
    ⟨(some 2), .move (.const (.bool true)), none, 0, none⟩] []) (.ret))), [.tmp 2], true⟩
def s138 : Sig := ⟨(.cons (.v .weights) .nil), [], ((.v .bool), []), []⟩
def F138 (L : Lp)  (w0 : Weights) : Option Bool :=
  cond (decide (w0.age < 0))
    (some false)
    (cond (decide (1000 < w0.age))
      (some false)
      (cond (decide (w0.size < 0))
        (some false)
        (cond (decide (1000 < w0.size))
          (some false)
          (cond (decide (w0.qos < 0))
            (some false)
            (cond (decide (1000 < w0.qos))
              (some false)
              (cond (decide (w0.share < 0))
                (some false)
                (cond (decide (1000 < w0.share))
                  (some false)
                  (some true))))))))
theorem e138 (L : Lp)  (x : s138.args.den) (h : denH s138.heap) : nrun [] L n138 s138 x h = F138 L  x.1 := by kernel_rfl
def f138 : Weights → Option Bool := F138 (@LN LOOPS) 
@[reducible] def t138 : Ent := ⟨138, s138, fun x h => f138 x.1⟩
theorem k138 : chkNF Try.prog Try.f138 n138 = true := by kernel_rfl
theorem ok138 : NOk Try.prog t138 := NOk.body (T := []) mixed nall_nil (oneEach_of (by kernel_rfl)) Try.func138 k138 (by kernel_rfl) (fun x h => e138 _  x h)
/- drayage/spec.rules$4 -/
def n137 : NFunc := ⟨5, .seq (.region 0 [
    ⟨(some 1), .move (.const (.bool false)), none, 0, none⟩] []) (.seq (.region 4 [
    ⟨(some 2), .fieldAddr 4 (.tmp 0), none, 0, none⟩,
    ⟨(some 3), .load true 4 (.tmp 2), none, 0, none⟩,
    ⟨(some 4), .call (.func 138) [(false, (.tmp 3))] false 4, none, 0, none⟩,
    ⟨(some 1), .move (.tmp 4), none, 4, none⟩] []) (.ret)), [.tmp 1], true⟩
def s137 : Sig := ⟨(.cons (.iptr (.cons (.v (.list .res)) (.cons (.v (.list (.list (.int .i64)))) (.cons (.v (.list .queue)) (.cons (.v (.int .i64)) (.cons (.v (.int .i64)) (.cons (.v (.int .i64)) (.cons (.v (.int .i64)) (.cons (.v (.int .i64)) (.cons (.v (.int .i64)) (.cons (.v (.int .i64)) (.cons (.v (.int .i64)) (.cons (.v (.int .i64)) (.cons (.v (.int .i64)) (.cons (.v (.int .i64)) (.cons (.v (.int .i64)) (.cons (.v (.int .i64)) (.cons (.v (.int .i64)) (.cons (.v (.int .i64)) .nil)))))))))))))))))) 0) .nil), [], ((.v .bool), []), []⟩
def F137 (L : Lp) (g138 : Weights → Option Bool) (a0 : (List Res)) (a1 : (List (List Int))) (a2 : (List Queue)) (a3 : Int) (a4 : Int) (a5 : Int) (a6 : Int) (a7 : Int) (a8 : Int) (a9 : Int) (a10 : Int) (a11 : Int) (a12 : Int) (a13 : Int) (a14 : Int) (a15 : Int) (a16 : Int) (a17 : Int) : Option Bool :=
  Option.bind (g138 (Weights.mk a4 a5 a6 a7)) fun r18 =>
  some r18
theorem e137 (L : Lp) (g138 : Weights → Option Bool) (x : s137.args.den) (h : denH s137.heap) : nrun [⟨138, s138, fun x h => g138 x.1⟩] L n137 s137 x h = F137 L g138 x.1.1 x.1.2.1 x.1.2.2.1 x.1.2.2.2.1 x.1.2.2.2.2.1 x.1.2.2.2.2.2.1 x.1.2.2.2.2.2.2.1 x.1.2.2.2.2.2.2.2.1 x.1.2.2.2.2.2.2.2.2.1 x.1.2.2.2.2.2.2.2.2.2.1 x.1.2.2.2.2.2.2.2.2.2.2.1 x.1.2.2.2.2.2.2.2.2.2.2.2.1 x.1.2.2.2.2.2.2.2.2.2.2.2.2.1 x.1.2.2.2.2.2.2.2.2.2.2.2.2.2.1 x.1.2.2.2.2.2.2.2.2.2.2.2.2.2.2.1 x.1.2.2.2.2.2.2.2.2.2.2.2.2.2.2.2.1 x.1.2.2.2.2.2.2.2.2.2.2.2.2.2.2.2.2.1 x.1.2.2.2.2.2.2.2.2.2.2.2.2.2.2.2.2.2.1 := by kernel_rfl
def f137 : (List Res) → (List (List Int)) → (List Queue) → Int → Int → Int → Int → Int → Int → Int → Int → Int → Int → Int → Int → Int → Int → Int → Option Bool := F137 (@LN LOOPS) f138
@[reducible] def t137 : Ent := ⟨137, s137, fun x h => f137 x.1.1 x.1.2.1 x.1.2.2.1 x.1.2.2.2.1 x.1.2.2.2.2.1 x.1.2.2.2.2.2.1 x.1.2.2.2.2.2.2.1 x.1.2.2.2.2.2.2.2.1 x.1.2.2.2.2.2.2.2.2.1 x.1.2.2.2.2.2.2.2.2.2.1 x.1.2.2.2.2.2.2.2.2.2.2.1 x.1.2.2.2.2.2.2.2.2.2.2.2.1 x.1.2.2.2.2.2.2.2.2.2.2.2.2.1 x.1.2.2.2.2.2.2.2.2.2.2.2.2.2.1 x.1.2.2.2.2.2.2.2.2.2.2.2.2.2.2.1 x.1.2.2.2.2.2.2.2.2.2.2.2.2.2.2.2.1 x.1.2.2.2.2.2.2.2.2.2.2.2.2.2.2.2.2.1 x.1.2.2.2.2.2.2.2.2.2.2.2.2.2.2.2.2.2.1⟩
theorem k137 : chkNF Try.prog Try.f137 n137 = true := by kernel_rfl
theorem ok137 : NOk Try.prog t137 := NOk.body (T := [t138]) mixed (nall_cons ok138 nall_nil) (oneEach_of (by kernel_rfl)) Try.func137 k137 (by kernel_rfl) (fun x h => e137 _ _ x h)
/- drayage/spec.rules$5 -/
def n139 : NFunc := ⟨10, .seq (.region 0 [
    ⟨(some 1), .move (.const (.bool false)), none, 0, none⟩] []) (.seq (.region 0 [
    ⟨(some 2), .fieldAddr 9 (.tmp 0), none, 0, none⟩,
    ⟨(some 3), .load false 1 (.tmp 2), none, 0, none⟩,
    ⟨(some 4), .bin .eql (.tmp 3) (.const (.int .i64 (1))), none, 0, none⟩,
    ⟨(some 5), .move (.tmp 4), none, 0, none⟩,
    ⟨(some 6), .fieldAddr 9 (.tmp 0), (some (5, false)), 0, none⟩,
    ⟨(some 7), .load false 1 (.tmp 6), (some (5, false)), 0, none⟩,
    ⟨(some 8), .bin .eql (.tmp 7) (.const (.int .i64 (2))), (some (5, false)), 0, none⟩,
    ⟨(some 9), .pick (.tmp 5) (.const (.bool true)) (.tmp 8), none, 0, none⟩,
    ⟨(some 1), .move (.tmp 9), none, 0, none⟩] []) (.ret)), [.tmp 1], true⟩
def s139 : Sig := ⟨(.cons (.iptr (.cons (.v (.list .res)) (.cons (.v (.list (.list (.int .i64)))) (.cons (.v (.list .queue)) (.cons (.v (.int .i64)) (.cons (.v (.int .i64)) (.cons (.v (.int .i64)) (.cons (.v (.int .i64)) (.cons (.v (.int .i64)) (.cons (.v (.int .i64)) (.cons (.v (.int .i64)) (.cons (.v (.int .i64)) (.cons (.v (.int .i64)) (.cons (.v (.int .i64)) (.cons (.v (.int .i64)) (.cons (.v (.int .i64)) (.cons (.v (.int .i64)) (.cons (.v (.int .i64)) (.cons (.v (.int .i64)) .nil)))))))))))))))))) 0) .nil), [], ((.v .bool), []), []⟩
def F139 (L : Lp)  (a0 : (List Res)) (a1 : (List (List Int))) (a2 : (List Queue)) (a3 : Int) (a4 : Int) (a5 : Int) (a6 : Int) (a7 : Int) (a8 : Int) (a9 : Int) (a10 : Int) (a11 : Int) (a12 : Int) (a13 : Int) (a14 : Int) (a15 : Int) (a16 : Int) (a17 : Int) : Option Bool :=
  cond (decide (a9 = 1))
    (some true)
    (some (decide (a9 = 2)))
theorem e139 (L : Lp)  (x : s139.args.den) (h : denH s139.heap) : nrun [] L n139 s139 x h = F139 L  x.1.1 x.1.2.1 x.1.2.2.1 x.1.2.2.2.1 x.1.2.2.2.2.1 x.1.2.2.2.2.2.1 x.1.2.2.2.2.2.2.1 x.1.2.2.2.2.2.2.2.1 x.1.2.2.2.2.2.2.2.2.1 x.1.2.2.2.2.2.2.2.2.2.1 x.1.2.2.2.2.2.2.2.2.2.2.1 x.1.2.2.2.2.2.2.2.2.2.2.2.1 x.1.2.2.2.2.2.2.2.2.2.2.2.2.1 x.1.2.2.2.2.2.2.2.2.2.2.2.2.2.1 x.1.2.2.2.2.2.2.2.2.2.2.2.2.2.2.1 x.1.2.2.2.2.2.2.2.2.2.2.2.2.2.2.2.1 x.1.2.2.2.2.2.2.2.2.2.2.2.2.2.2.2.2.1 x.1.2.2.2.2.2.2.2.2.2.2.2.2.2.2.2.2.2.1 := by kernel_rfl
def f139 : (List Res) → (List (List Int)) → (List Queue) → Int → Int → Int → Int → Int → Int → Int → Int → Int → Int → Int → Int → Int → Int → Int → Option Bool := F139 (@LN LOOPS) 
@[reducible] def t139 : Ent := ⟨139, s139, fun x h => f139 x.1.1 x.1.2.1 x.1.2.2.1 x.1.2.2.2.1 x.1.2.2.2.2.1 x.1.2.2.2.2.2.1 x.1.2.2.2.2.2.2.1 x.1.2.2.2.2.2.2.2.1 x.1.2.2.2.2.2.2.2.2.1 x.1.2.2.2.2.2.2.2.2.2.1 x.1.2.2.2.2.2.2.2.2.2.2.1 x.1.2.2.2.2.2.2.2.2.2.2.2.1 x.1.2.2.2.2.2.2.2.2.2.2.2.2.1 x.1.2.2.2.2.2.2.2.2.2.2.2.2.2.1 x.1.2.2.2.2.2.2.2.2.2.2.2.2.2.2.1 x.1.2.2.2.2.2.2.2.2.2.2.2.2.2.2.2.1 x.1.2.2.2.2.2.2.2.2.2.2.2.2.2.2.2.2.1 x.1.2.2.2.2.2.2.2.2.2.2.2.2.2.2.2.2.2.1⟩
theorem k139 : chkNF Try.prog Try.f139 n139 = true := by kernel_rfl
theorem ok139 : NOk Try.prog t139 := NOk.body (T := []) mixed nall_nil (oneEach_of (by kernel_rfl)) Try.func139 k139 (by kernel_rfl) (fun x h => e139 _  x h)
/- drayage/spec.Flaw -/
def n127 : NFunc := ⟨19, .seq (.region 1 [
    ⟨(some 1), .box 18 (.tmp 0), none, 0, none⟩,
    ⟨(some 2), .move (.const (.str [])), none, 1, none⟩] []) (.seq (.seq (.region 4 [
    ⟨(some 5), .load true 18 (.tmp 1), none, 0, none⟩,
    ⟨(some 6), .call (.func 129) [(false, (.tmp 5))] false 4, none, 0, none⟩,
    ⟨(some 7), .len (.tmp 6), none, 4, none⟩,
    ⟨(some 8), .move (.const (.int .i64 (0))), none, 4, none⟩] []) (.block 0 (.loopU [6, 7, 8] 16 (.seq (.region 0 [
    ⟨(some 9), .bin .lss (.tmp 8) (.tmp 7), none, 0, none⟩] []) (.seq (.cond (.tmp 9) (.skip) (.exit 0)) (.seq (.block 1 (.seq (.region 1 [
    ⟨(some 10), .indexSl 2 (.tmp 6) (.tmp 8), none, 0, none⟩,
    ⟨(some 11), .load true 2 (.tmp 10), none, 0, none⟩,
    ⟨(some 4), .alloc [.str [], .nilfn], none, 0, none⟩,
    ⟨none, .store 2 (.tmp 4) (.tmp 11), none, 1, none⟩] []) (.seq (.region 4 [
    ⟨(some 12), .fieldAddr 1 (.tmp 4), none, 0, none⟩,
    ⟨(some 13), .load false 1 (.tmp 12), none, 0, none⟩,
    ⟨(some 14), .call (.tmp 13) [] false 4, none, 0, none⟩,
    ⟨(some 15), .un .not (.tmp 14), none, 4, none⟩] []) (.cond (.tmp 15) (.seq (.region 0 [
    ⟨(some 16), .fieldAddr 0 (.tmp 4), none, 0, none⟩,
    ⟨(some 17), .load false 1 (.tmp 16), none, 0, none⟩,
    ⟨(some 2), .move (.tmp 17), none, 0, none⟩] []) (.ret)) (.skip))))) (.region 0 [
    ⟨(some 18), .bin .add (.tmp 8) (.const (.int .i64 (1))), none, 0, none⟩,
    ⟨(some 8), .move (.tmp 18), none, 0, none⟩] []))))))) (.seq (.region 0 [
    ⟨(some 2), .move (.const (.str [])), none, 0, none⟩] []) (.ret))), [.tmp 2], true⟩
def s127 : Sig := ⟨(.cons (.v .spec) .nil), [], ((.v .str), []), []⟩
def F127 (L : Lp) (g129 : Spec → Option (((List UInt8) × ((((List Res) × ((List (List Int)) × ((List Queue) × (Int × (Int × (Int × (Int × (Int × (Int × (Int × (Int × (Int × (Int × (Int × (Int × (Int × (Int × (Int × Unit)))))))))))))))))) × Unit) × Unit)) × (((List UInt8) × ((((List Res) × ((List (List Int)) × ((List Queue) × (Int × (Int × (Int × (Int × (Int × (Int × (Int × (Int × (Int × (Int × (Int × (Int × (Int × (Int × (Int × Unit)))))))))))))))))) × Unit) × Unit)) × (((List UInt8) × (((Int × Unit) × ((Int × Unit) × ((Int × Unit) × Unit))) × Unit)) × (((List UInt8) × ((((List Res) × ((List (List Int)) × ((List Queue) × (Int × (Int × (Int × (Int × (Int × (Int × (Int × (Int × (Int × (Int × (Int × (Int × (Int × (Int × (Int × Unit)))))))))))))))))) × Unit) × Unit)) × (((List UInt8) × ((((List Res) × ((List (List Int)) × ((List Queue) × (Int × (Int × (Int × (Int × (Int × (Int × (Int × (Int × (Int × (Int × (Int × (Int × (Int × (Int × (Int × Unit)))))))))))))))))) × Unit) × Unit)) × (((List UInt8) × (((Int × Unit) × ((Int × Unit) × ((Int × Unit) × Unit))) × Unit)) × (((List UInt8) × ((((List Res) × ((List (List Int)) × ((List Queue) × (Int × (Int × (Int × (Int × (Int × (Int × (Int × (Int × (Int × (Int × (Int × (Int × (Int × (Int × (Int × Unit)))))))))))))))))) × Unit) × Unit)) × (((List UInt8) × (((Int × Unit) × ((Int × Unit) × ((Int × Unit) × Unit))) × Unit)) × (((List UInt8) × (((Int × Unit) × ((Int × Unit) × ((Int × Unit) × Unit))) × Unit)) × (((List UInt8) × (((Int × Unit) × ((Int × Unit) × ((Int × Unit) × Unit))) × Unit)) × (((List UInt8) × (((Int × Unit) × ((Int × Unit) × ((Int × Unit) × Unit))) × Unit)) × (((List UInt8) × (((Int × Unit) × ((Int × Unit) × ((Int × Unit) × Unit))) × Unit)) × (((List UInt8) × (((Int × Unit) × ((Int × Unit) × ((Int × Unit) × Unit))) × Unit)) × (((List UInt8) × (((Int × Unit) × ((Int × Unit) × ((Int × Unit) × Unit))) × Unit)) × (((List UInt8) × (((Int × Unit) × ((Int × Unit) × ((Int × Unit) × Unit))) × Unit)) × Unit)))))))))))))))) (g130 : (List Res) → (List (List Int)) → (List Queue) → Int → Int → Int → Int → Int → Int → Int → Int → Int → Int → Int → Int → Int → Int → Int → Option Bool) (g132 : (List Res) → (List (List Int)) → (List Queue) → Int → Int → Int → Int → Int → Int → Int → Int → Int → Int → Int → Int → Int → Int → Int → Option Bool) (g142 : Int → Int → Int → Option Bool) (g135 : (List Res) → (List (List Int)) → (List Queue) → Int → Int → Int → Int → Int → Int → Int → Int → Int → Int → Int → Int → Int → Int → Int → Option Bool) (g137 : (List Res) → (List (List Int)) → (List Queue) → Int → Int → Int → Int → Int → Int → Int → Int → Int → Int → Int → Int → Int → Int → Int → Option Bool) (g139 : (List Res) → (List (List Int)) → (List Queue) → Int → Int → Int → Int → Int → Int → Int → Int → Int → Int → Int → Int → Int → Int → Int → Option Bool) (as0 : Spec) : Option (List UInt8) :=
  Option.bind (g129 as0) fun r1 =>
  Option.bind (g130 r1.1.2.1.1.1 r1.1.2.1.1.2.1 r1.1.2.1.1.2.2.1 r1.1.2.1.1.2.2.2.1 r1.1.2.1.1.2.2.2.2.1 r1.1.2.1.1.2.2.2.2.2.1 r1.1.2.1.1.2.2.2.2.2.2.1 r1.1.2.1.1.2.2.2.2.2.2.2.1 r1.1.2.1.1.2.2.2.2.2.2.2.2.1 r1.1.2.1.1.2.2.2.2.2.2.2.2.2.1 r1.1.2.1.1.2.2.2.2.2.2.2.2.2.2.1 r1.1.2.1.1.2.2.2.2.2.2.2.2.2.2.2.1 r1.1.2.1.1.2.2.2.2.2.2.2.2.2.2.2.2.1 r1.1.2.1.1.2.2.2.2.2.2.2.2.2.2.2.2.2.1 r1.1.2.1.1.2.2.2.2.2.2.2.2.2.2.2.2.2.2.1 r1.1.2.1.1.2.2.2.2.2.2.2.2.2.2.2.2.2.2.2.1 r1.1.2.1.1.2.2.2.2.2.2.2.2.2.2.2.2.2.2.2.2.1 r1.1.2.1.1.2.2.2.2.2.2.2.2.2.2.2.2.2.2.2.2.2.1) fun r2 =>
  cond (!r2)
    (some r1.1.1)
    (Option.bind (g132 r1.2.1.2.1.1.1 r1.2.1.2.1.1.2.1 r1.2.1.2.1.1.2.2.1 r1.2.1.2.1.1.2.2.2.1 r1.2.1.2.1.1.2.2.2.2.1 r1.2.1.2.1.1.2.2.2.2.2.1 r1.2.1.2.1.1.2.2.2.2.2.2.1 r1.2.1.2.1.1.2.2.2.2.2.2.2.1 r1.2.1.2.1.1.2.2.2.2.2.2.2.2.1 r1.2.1.2.1.1.2.2.2.2.2.2.2.2.2.1 r1.2.1.2.1.1.2.2.2.2.2.2.2.2.2.2.1 r1.2.1.2.1.1.2.2.2.2.2.2.2.2.2.2.2.1 r1.2.1.2.1.1.2.2.2.2.2.2.2.2.2.2.2.2.1 r1.2.1.2.1.1.2.2.2.2.2.2.2.2.2.2.2.2.2.1 r1.2.1.2.1.1.2.2.2.2.2.2.2.2.2.2.2.2.2.2.1 r1.2.1.2.1.1.2.2.2.2.2.2.2.2.2.2.2.2.2.2.2.1 r1.2.1.2.1.1.2.2.2.2.2.2.2.2.2.2.2.2.2.2.2.2.1 r1.2.1.2.1.1.2.2.2.2.2.2.2.2.2.2.2.2.2.2.2.2.2.1) fun r3 =>
    cond (!r3)
      (some r1.2.1.1)
      (Option.bind (g142 r1.2.2.1.2.1.1.1 r1.2.2.1.2.1.2.1.1 r1.2.2.1.2.1.2.2.1.1) fun r4 =>
      cond (!r4)
        (some r1.2.2.1.1)
        (Option.bind (g135 r1.2.2.2.1.2.1.1.1 r1.2.2.2.1.2.1.1.2.1 r1.2.2.2.1.2.1.1.2.2.1 r1.2.2.2.1.2.1.1.2.2.2.1 r1.2.2.2.1.2.1.1.2.2.2.2.1 r1.2.2.2.1.2.1.1.2.2.2.2.2.1 r1.2.2.2.1.2.1.1.2.2.2.2.2.2.1 r1.2.2.2.1.2.1.1.2.2.2.2.2.2.2.1 r1.2.2.2.1.2.1.1.2.2.2.2.2.2.2.2.1 r1.2.2.2.1.2.1.1.2.2.2.2.2.2.2.2.2.1 r1.2.2.2.1.2.1.1.2.2.2.2.2.2.2.2.2.2.1 r1.2.2.2.1.2.1.1.2.2.2.2.2.2.2.2.2.2.2.1 r1.2.2.2.1.2.1.1.2.2.2.2.2.2.2.2.2.2.2.2.1 r1.2.2.2.1.2.1.1.2.2.2.2.2.2.2.2.2.2.2.2.2.1 r1.2.2.2.1.2.1.1.2.2.2.2.2.2.2.2.2.2.2.2.2.2.1 r1.2.2.2.1.2.1.1.2.2.2.2.2.2.2.2.2.2.2.2.2.2.2.1 r1.2.2.2.1.2.1.1.2.2.2.2.2.2.2.2.2.2.2.2.2.2.2.2.1 r1.2.2.2.1.2.1.1.2.2.2.2.2.2.2.2.2.2.2.2.2.2.2.2.2.1) fun r5 =>
        cond (!r5)
          (some r1.2.2.2.1.1)
          (Option.bind (g137 r1.2.2.2.2.1.2.1.1.1 r1.2.2.2.2.1.2.1.1.2.1 r1.2.2.2.2.1.2.1.1.2.2.1 r1.2.2.2.2.1.2.1.1.2.2.2.1 r1.2.2.2.2.1.2.1.1.2.2.2.2.1 r1.2.2.2.2.1.2.1.1.2.2.2.2.2.1 r1.2.2.2.2.1.2.1.1.2.2.2.2.2.2.1 r1.2.2.2.2.1.2.1.1.2.2.2.2.2.2.2.1 r1.2.2.2.2.1.2.1.1.2.2.2.2.2.2.2.2.1 r1.2.2.2.2.1.2.1.1.2.2.2.2.2.2.2.2.2.1 r1.2.2.2.2.1.2.1.1.2.2.2.2.2.2.2.2.2.2.1 r1.2.2.2.2.1.2.1.1.2.2.2.2.2.2.2.2.2.2.2.1 r1.2.2.2.2.1.2.1.1.2.2.2.2.2.2.2.2.2.2.2.2.1 r1.2.2.2.2.1.2.1.1.2.2.2.2.2.2.2.2.2.2.2.2.2.1 r1.2.2.2.2.1.2.1.1.2.2.2.2.2.2.2.2.2.2.2.2.2.2.1 r1.2.2.2.2.1.2.1.1.2.2.2.2.2.2.2.2.2.2.2.2.2.2.2.1 r1.2.2.2.2.1.2.1.1.2.2.2.2.2.2.2.2.2.2.2.2.2.2.2.2.1 r1.2.2.2.2.1.2.1.1.2.2.2.2.2.2.2.2.2.2.2.2.2.2.2.2.2.1) fun r6 =>
          cond (!r6)
            (some r1.2.2.2.2.1.1)
            (Option.bind (g142 r1.2.2.2.2.2.1.2.1.1.1 r1.2.2.2.2.2.1.2.1.2.1.1 r1.2.2.2.2.2.1.2.1.2.2.1.1) fun r7 =>
            cond (!r7)
              (some r1.2.2.2.2.2.1.1)
              (Option.bind (g139 r1.2.2.2.2.2.2.1.2.1.1.1 r1.2.2.2.2.2.2.1.2.1.1.2.1 r1.2.2.2.2.2.2.1.2.1.1.2.2.1 r1.2.2.2.2.2.2.1.2.1.1.2.2.2.1 r1.2.2.2.2.2.2.1.2.1.1.2.2.2.2.1 r1.2.2.2.2.2.2.1.2.1.1.2.2.2.2.2.1 r1.2.2.2.2.2.2.1.2.1.1.2.2.2.2.2.2.1 r1.2.2.2.2.2.2.1.2.1.1.2.2.2.2.2.2.2.1 r1.2.2.2.2.2.2.1.2.1.1.2.2.2.2.2.2.2.2.1 r1.2.2.2.2.2.2.1.2.1.1.2.2.2.2.2.2.2.2.2.1 r1.2.2.2.2.2.2.1.2.1.1.2.2.2.2.2.2.2.2.2.2.1 r1.2.2.2.2.2.2.1.2.1.1.2.2.2.2.2.2.2.2.2.2.2.1 r1.2.2.2.2.2.2.1.2.1.1.2.2.2.2.2.2.2.2.2.2.2.2.1 r1.2.2.2.2.2.2.1.2.1.1.2.2.2.2.2.2.2.2.2.2.2.2.2.1 r1.2.2.2.2.2.2.1.2.1.1.2.2.2.2.2.2.2.2.2.2.2.2.2.2.1 r1.2.2.2.2.2.2.1.2.1.1.2.2.2.2.2.2.2.2.2.2.2.2.2.2.2.1 r1.2.2.2.2.2.2.1.2.1.1.2.2.2.2.2.2.2.2.2.2.2.2.2.2.2.2.1 r1.2.2.2.2.2.2.1.2.1.1.2.2.2.2.2.2.2.2.2.2.2.2.2.2.2.2.2.1) fun r8 =>
              cond (!r8)
                (some r1.2.2.2.2.2.2.1.1)
                (Option.bind (g142 r1.2.2.2.2.2.2.2.1.2.1.1.1 r1.2.2.2.2.2.2.2.1.2.1.2.1.1 r1.2.2.2.2.2.2.2.1.2.1.2.2.1.1) fun r9 =>
                cond (!r9)
                  (some r1.2.2.2.2.2.2.2.1.1)
                  (Option.bind (g142 r1.2.2.2.2.2.2.2.2.1.2.1.1.1 r1.2.2.2.2.2.2.2.2.1.2.1.2.1.1 r1.2.2.2.2.2.2.2.2.1.2.1.2.2.1.1) fun r10 =>
                  cond (!r10)
                    (some r1.2.2.2.2.2.2.2.2.1.1)
                    (Option.bind (g142 r1.2.2.2.2.2.2.2.2.2.1.2.1.1.1 r1.2.2.2.2.2.2.2.2.2.1.2.1.2.1.1 r1.2.2.2.2.2.2.2.2.2.1.2.1.2.2.1.1) fun r11 =>
                    cond (!r11)
                      (some r1.2.2.2.2.2.2.2.2.2.1.1)
                      (Option.bind (g142 r1.2.2.2.2.2.2.2.2.2.2.1.2.1.1.1 r1.2.2.2.2.2.2.2.2.2.2.1.2.1.2.1.1 r1.2.2.2.2.2.2.2.2.2.2.1.2.1.2.2.1.1) fun r12 =>
                      cond (!r12)
                        (some r1.2.2.2.2.2.2.2.2.2.2.1.1)
                        (Option.bind (g142 r1.2.2.2.2.2.2.2.2.2.2.2.1.2.1.1.1 r1.2.2.2.2.2.2.2.2.2.2.2.1.2.1.2.1.1 r1.2.2.2.2.2.2.2.2.2.2.2.1.2.1.2.2.1.1) fun r13 =>
                        cond (!r13)
                          (some r1.2.2.2.2.2.2.2.2.2.2.2.1.1)
                          (Option.bind (g142 r1.2.2.2.2.2.2.2.2.2.2.2.2.1.2.1.1.1 r1.2.2.2.2.2.2.2.2.2.2.2.2.1.2.1.2.1.1 r1.2.2.2.2.2.2.2.2.2.2.2.2.1.2.1.2.2.1.1) fun r14 =>
                          cond (!r14)
                            (some r1.2.2.2.2.2.2.2.2.2.2.2.2.1.1)
                            (Option.bind (g142 r1.2.2.2.2.2.2.2.2.2.2.2.2.2.1.2.1.1.1 r1.2.2.2.2.2.2.2.2.2.2.2.2.2.1.2.1.2.1.1 r1.2.2.2.2.2.2.2.2.2.2.2.2.2.1.2.1.2.2.1.1) fun r15 =>
                            cond (!r15)
                              (some r1.2.2.2.2.2.2.2.2.2.2.2.2.2.1.1)
                              (Option.bind (g142 r1.2.2.2.2.2.2.2.2.2.2.2.2.2.2.1.2.1.1.1 r1.2.2.2.2.2.2.2.2.2.2.2.2.2.2.1.2.1.2.1.1 r1.2.2.2.2.2.2.2.2.2.2.2.2.2.2.1.2.1.2.2.1.1) fun r16 =>
                              cond (!r16)
                                (some r1.2.2.2.2.2.2.2.2.2.2.2.2.2.2.1.1)
                                (some ([] : List UInt8))))))))))))))))
theorem e127 (L : Lp) (g129 : Spec → Option (((List UInt8) × ((((List Res) × ((List (List Int)) × ((List Queue) × (Int × (Int × (Int × (Int × (Int × (Int × (Int × (Int × (Int × (Int × (Int × (Int × (Int × (Int × (Int × Unit)))))))))))))))))) × Unit) × Unit)) × (((List UInt8) × ((((List Res) × ((List (List Int)) × ((List Queue) × (Int × (Int × (Int × (Int × (Int × (Int × (Int × (Int × (Int × (Int × (Int × (Int × (Int × (Int × (Int × Unit)))))))))))))))))) × Unit) × Unit)) × (((List UInt8) × (((Int × Unit) × ((Int × Unit) × ((Int × Unit) × Unit))) × Unit)) × (((List UInt8) × ((((List Res) × ((List (List Int)) × ((List Queue) × (Int × (Int × (Int × (Int × (Int × (Int × (Int × (Int × (Int × (Int × (Int × (Int × (Int × (Int × (Int × Unit)))))))))))))))))) × Unit) × Unit)) × (((List UInt8) × ((((List Res) × ((List (List Int)) × ((List Queue) × (Int × (Int × (Int × (Int × (Int × (Int × (Int × (Int × (Int × (Int × (Int × (Int × (Int × (Int × (Int × Unit)))))))))))))))))) × Unit) × Unit)) × (((List UInt8) × (((Int × Unit) × ((Int × Unit) × ((Int × Unit) × Unit))) × Unit)) × (((List UInt8) × ((((List Res) × ((List (List Int)) × ((List Queue) × (Int × (Int × (Int × (Int × (Int × (Int × (Int × (Int × (Int × (Int × (Int × (Int × (Int × (Int × (Int × Unit)))))))))))))))))) × Unit) × Unit)) × (((List UInt8) × (((Int × Unit) × ((Int × Unit) × ((Int × Unit) × Unit))) × Unit)) × (((List UInt8) × (((Int × Unit) × ((Int × Unit) × ((Int × Unit) × Unit))) × Unit)) × (((List UInt8) × (((Int × Unit) × ((Int × Unit) × ((Int × Unit) × Unit))) × Unit)) × (((List UInt8) × (((Int × Unit) × ((Int × Unit) × ((Int × Unit) × Unit))) × Unit)) × (((List UInt8) × (((Int × Unit) × ((Int × Unit) × ((Int × Unit) × Unit))) × Unit)) × (((List UInt8) × (((Int × Unit) × ((Int × Unit) × ((Int × Unit) × Unit))) × Unit)) × (((List UInt8) × (((Int × Unit) × ((Int × Unit) × ((Int × Unit) × Unit))) × Unit)) × (((List UInt8) × (((Int × Unit) × ((Int × Unit) × ((Int × Unit) × Unit))) × Unit)) × Unit)))))))))))))))) (g130 : (List Res) → (List (List Int)) → (List Queue) → Int → Int → Int → Int → Int → Int → Int → Int → Int → Int → Int → Int → Int → Int → Int → Option Bool) (g132 : (List Res) → (List (List Int)) → (List Queue) → Int → Int → Int → Int → Int → Int → Int → Int → Int → Int → Int → Int → Int → Int → Int → Option Bool) (g142 : Int → Int → Int → Option Bool) (g135 : (List Res) → (List (List Int)) → (List Queue) → Int → Int → Int → Int → Int → Int → Int → Int → Int → Int → Int → Int → Int → Int → Int → Option Bool) (g137 : (List Res) → (List (List Int)) → (List Queue) → Int → Int → Int → Int → Int → Int → Int → Int → Int → Int → Int → Int → Int → Int → Int → Option Bool) (g139 : (List Res) → (List (List Int)) → (List Queue) → Int → Int → Int → Int → Int → Int → Int → Int → Int → Int → Int → Int → Int → Int → Int → Option Bool) (x : s127.args.den) (h : denH s127.heap) : nrun [⟨129, s129, fun x h => g129 x.1⟩, ⟨130, s130, fun x h => g130 x.1.1 x.1.2.1 x.1.2.2.1 x.1.2.2.2.1 x.1.2.2.2.2.1 x.1.2.2.2.2.2.1 x.1.2.2.2.2.2.2.1 x.1.2.2.2.2.2.2.2.1 x.1.2.2.2.2.2.2.2.2.1 x.1.2.2.2.2.2.2.2.2.2.1 x.1.2.2.2.2.2.2.2.2.2.2.1 x.1.2.2.2.2.2.2.2.2.2.2.2.1 x.1.2.2.2.2.2.2.2.2.2.2.2.2.1 x.1.2.2.2.2.2.2.2.2.2.2.2.2.2.1 x.1.2.2.2.2.2.2.2.2.2.2.2.2.2.2.1 x.1.2.2.2.2.2.2.2.2.2.2.2.2.2.2.2.1 x.1.2.2.2.2.2.2.2.2.2.2.2.2.2.2.2.2.1 x.1.2.2.2.2.2.2.2.2.2.2.2.2.2.2.2.2.2.1⟩, ⟨132, s132, fun x h => g132 x.1.1 x.1.2.1 x.1.2.2.1 x.1.2.2.2.1 x.1.2.2.2.2.1 x.1.2.2.2.2.2.1 x.1.2.2.2.2.2.2.1 x.1.2.2.2.2.2.2.2.1 x.1.2.2.2.2.2.2.2.2.1 x.1.2.2.2.2.2.2.2.2.2.1 x.1.2.2.2.2.2.2.2.2.2.2.1 x.1.2.2.2.2.2.2.2.2.2.2.2.1 x.1.2.2.2.2.2.2.2.2.2.2.2.2.1 x.1.2.2.2.2.2.2.2.2.2.2.2.2.2.1 x.1.2.2.2.2.2.2.2.2.2.2.2.2.2.2.1 x.1.2.2.2.2.2.2.2.2.2.2.2.2.2.2.2.1 x.1.2.2.2.2.2.2.2.2.2.2.2.2.2.2.2.2.1 x.1.2.2.2.2.2.2.2.2.2.2.2.2.2.2.2.2.2.1⟩, ⟨142, s142, fun x h => g142 x.1.1 x.2.1.1 x.2.2.1.1⟩, ⟨135, s135, fun x h => g135 x.1.1 x.1.2.1 x.1.2.2.1 x.1.2.2.2.1 x.1.2.2.2.2.1 x.1.2.2.2.2.2.1 x.1.2.2.2.2.2.2.1 x.1.2.2.2.2.2.2.2.1 x.1.2.2.2.2.2.2.2.2.1 x.1.2.2.2.2.2.2.2.2.2.1 x.1.2.2.2.2.2.2.2.2.2.2.1 x.1.2.2.2.2.2.2.2.2.2.2.2.1 x.1.2.2.2.2.2.2.2.2.2.2.2.2.1 x.1.2.2.2.2.2.2.2.2.2.2.2.2.2.1 x.1.2.2.2.2.2.2.2.2.2.2.2.2.2.2.1 x.1.2.2.2.2.2.2.2.2.2.2.2.2.2.2.2.1 x.1.2.2.2.2.2.2.2.2.2.2.2.2.2.2.2.2.1 x.1.2.2.2.2.2.2.2.2.2.2.2.2.2.2.2.2.2.1⟩, ⟨137, s137, fun x h => g137 x.1.1 x.1.2.1 x.1.2.2.1 x.1.2.2.2.1 x.1.2.2.2.2.1 x.1.2.2.2.2.2.1 x.1.2.2.2.2.2.2.1 x.1.2.2.2.2.2.2.2.1 x.1.2.2.2.2.2.2.2.2.1 x.1.2.2.2.2.2.2.2.2.2.1 x.1.2.2.2.2.2.2.2.2.2.2.1 x.1.2.2.2.2.2.2.2.2.2.2.2.1 x.1.2.2.2.2.2.2.2.2.2.2.2.2.1 x.1.2.2.2.2.2.2.2.2.2.2.2.2.2.1 x.1.2.2.2.2.2.2.2.2.2.2.2.2.2.2.1 x.1.2.2.2.2.2.2.2.2.2.2.2.2.2.2.2.1 x.1.2.2.2.2.2.2.2.2.2.2.2.2.2.2.2.2.1 x.1.2.2.2.2.2.2.2.2.2.2.2.2.2.2.2.2.2.1⟩, ⟨139, s139, fun x h => g139 x.1.1 x.1.2.1 x.1.2.2.1 x.1.2.2.2.1 x.1.2.2.2.2.1 x.1.2.2.2.2.2.1 x.1.2.2.2.2.2.2.1 x.1.2.2.2.2.2.2.2.1 x.1.2.2.2.2.2.2.2.2.1 x.1.2.2.2.2.2.2.2.2.2.1 x.1.2.2.2.2.2.2.2.2.2.2.1 x.1.2.2.2.2.2.2.2.2.2.2.2.1 x.1.2.2.2.2.2.2.2.2.2.2.2.2.1 x.1.2.2.2.2.2.2.2.2.2.2.2.2.2.1 x.1.2.2.2.2.2.2.2.2.2.2.2.2.2.2.1 x.1.2.2.2.2.2.2.2.2.2.2.2.2.2.2.2.1 x.1.2.2.2.2.2.2.2.2.2.2.2.2.2.2.2.2.1 x.1.2.2.2.2.2.2.2.2.2.2.2.2.2.2.2.2.2.1⟩] L n127 s127 x h = F127 L g129 g130 g132 g142 g135 g137 g139 x.1 := by kernel_rfl
def f127 : Spec → Option (List UInt8) := F127 (@LN LOOPS) f129 f130 f132 f142 f135 f137 f139
@[reducible] def t127 : Ent := ⟨127, s127, fun x h => f127 x.1⟩
theorem k127 : chkNF Try.prog Try.f127 n127 = true := by kernel_rfl
theorem ok127 : NOk Try.prog t127 := NOk.body (T := [t129, t130, t132, t142, t135, t137, t139]) mixed (nall_cons ok129 (nall_cons ok130 (nall_cons ok132 (nall_cons ok142 (nall_cons ok135 (nall_cons ok137 (nall_cons ok139 nall_nil))))))) (oneEach_of (by kernel_rfl)) Try.func127 k127 (by kernel_rfl) (fun x h => e127 _ _ _ _ _ _ _ _ x h)
/- drayage/spec.Right -/
def n122 : NFunc := ⟨6, .seq (.region 1 [
    ⟨(some 1), .box 18 (.tmp 0), none, 0, none⟩,
    ⟨(some 2), .move (.const (.bool false)), none, 1, none⟩] []) (.seq (.region 4 [
    ⟨(some 3), .load true 18 (.tmp 1), none, 0, none⟩,
    ⟨(some 4), .call (.func 127) [(false, (.tmp 3))] false 4, none, 0, none⟩,
    ⟨(some 5), .bin .eql (.tmp 4) (.const (.str [])), none, 4, none⟩,
    ⟨(some 2), .move (.tmp 5), none, 4, none⟩] []) (.ret)), [.tmp 2], true⟩
def s122 : Sig := ⟨(.cons (.v .spec) .nil), [], ((.v .bool), []), []⟩
def F122 (L : Lp) (g127 : Spec → Option (List UInt8)) (as0 : Spec) : Option Bool :=
  Option.bind (g127 as0) fun r1 =>
  some (decide (r1 = ([] : List UInt8)))
theorem e122 (L : Lp) (g127 : Spec → Option (List UInt8)) (x : s122.args.den) (h : denH s122.heap) : nrun [⟨127, s127, fun x h => g127 x.1⟩] L n122 s122 x h = F122 L g127 x.1 := by kernel_rfl
def f122 : Spec → Option Bool := F122 (@LN LOOPS) f127
@[reducible] def t122 : Ent := ⟨122, s122, fun x h => f122 x.1⟩
theorem k122 : chkNF Try.prog Try.f122 n122 = true := by kernel_rfl
theorem ok122 : NOk Try.prog t122 := NOk.body (T := [t127]) mixed (nall_cons ok127 nall_nil) (oneEach_of (by kernel_rfl)) Try.func122 k122 (by kernel_rfl) (fun x h => e122 _ _ x h)
/- drayage/nat.Hold[int] -/
def n80 : NFunc := ⟨16, .seq (.region 0 [
    ⟨(some 6), .move (.const (.int .i64 (0))), none, 0, none⟩] []) (.seq (.seq (.region 0 [
    ⟨(some 7), .move (.tmp 0), none, 0, none⟩,
    ⟨(some 8), .move (.tmp 1), none, 0, none⟩,
    ⟨(some 9), .bin .lss (.tmp 7) (.tmp 8), none, 0, none⟩] []) (.cond (.tmp 9) (.seq (.region 0 [
    ⟨(some 10), .move (.tmp 1), none, 0, none⟩,
    ⟨(some 6), .move (.tmp 10), none, 0, none⟩] []) (.ret)) (.skip))) (.seq (.seq (.region 0 [
    ⟨(some 11), .move (.tmp 0), none, 0, none⟩,
    ⟨(some 12), .move (.tmp 2), none, 0, none⟩,
    ⟨(some 13), .bin .gtr (.tmp 11) (.tmp 12), none, 0, none⟩] []) (.cond (.tmp 13) (.seq (.region 0 [
    ⟨(some 14), .move (.tmp 2), none, 0, none⟩,
    ⟨(some 6), .move (.tmp 14), none, 0, none⟩] []) (.ret)) (.skip))) (.seq (.region 0 [
    ⟨(some 15), .move (.tmp 0), none, 0, none⟩,
    ⟨(some 6), .move (.tmp 15), none, 0, none⟩] []) (.ret)))), [.tmp 6], true⟩
def s80 : Sig := ⟨(.cons (.v (.int .i64)) (.cons (.v (.int .i64)) (.cons (.v (.int .i64)) .nil))), [], ((.v (.int .i64)), []), []⟩
def F80 (L : Lp)  (an0 : Int) (lo1 : Int) (hi2 : Int) : Option Int :=
  cond (decide (an0 < lo1))
    (some lo1)
    (cond (decide (hi2 < an0))
      (some hi2)
      (some an0))
theorem e80 (L : Lp)  (x : s80.args.den) (h : denH s80.heap) : nrun [] L n80 s80 x h = F80 L  x.1 x.2.1 x.2.2.1 := by kernel_rfl
def f80 : Int → Int → Int → Option Int := F80 (@LN LOOPS) 
@[reducible] def t80 : Ent := ⟨80, s80, fun x h => f80 x.1 x.2.1 x.2.2.1⟩
theorem k80 : chkNF Try.prog Try.f80 n80 = true := by kernel_rfl
theorem ok80 : NOk Try.prog t80 := NOk.body (T := []) mixed nall_nil (oneEach_of (by kernel_rfl)) Try.func80 k80 (by kernel_rfl) (fun x h => e80 _  x h)
/- drayage/share.Factor -/
def n78 : NFunc := ⟨7, .seq (.region 0 [
    ⟨(some 2), .move (.const (.int .i64 (0))), none, 0, none⟩] []) (.seq (.region 4 [
    ⟨(some 3), .move (.tmp 0), none, 0, none⟩,
    ⟨(some 4), .call (.func 80) [(false, (.tmp 3)), (false, (.const (.int .i64 (0)))), (false, (.const (.int .i64 (1099511627776))))] false 4, none, 0, none⟩,
    ⟨(some 5), .bin .quo (.tmp 4) (.const (.int .i64 (16))), none, 4, none⟩,
    ⟨(some 6), .minmax false (.tmp 5) (.const (.int .i64 (4096))), none, 4, none⟩,
    ⟨(some 2), .move (.tmp 6), none, 4, none⟩] []) (.ret)), [.tmp 2], true⟩
def s78 : Sig := ⟨(.cons (.v (.int .i64)) .nil), [], ((.v (.int .i64)), []), []⟩
def F78 (L : Lp) (g80 : Int → Int → Int → Option Int) (an0 : Int) : Option Int :=
  Option.bind (g80 an0 0 1099511627776) fun r1 =>
  let v2 := if 4096 < (IntKind.wrap .i64 (Int.tdiv r1 16)) then 4096 else (IntKind.wrap .i64 (Int.tdiv r1 16))
  some v2
theorem e78 (L : Lp) (g80 : Int → Int → Int → Option Int) (x : s78.args.den) (h : denH s78.heap) : nrun [⟨80, s80, fun x h => g80 x.1 x.2.1 x.2.2.1⟩] L n78 s78 x h = F78 L g80 x.1 := by kernel_rfl
def f78 : Int → Option Int := F78 (@LN LOOPS) f80
@[reducible] def t78 : Ent := ⟨78, s78, fun x h => f78 x.1⟩
theorem k78 : chkNF Try.prog Try.f78 n78 = true := by kernel_rfl
theorem ok78 : NOk Try.prog t78 := NOk.body (T := [t80]) mixed (nall_cons ok80 nall_nil) (oneEach_of (by kernel_rfl)) Try.func78 k78 (by kernel_rfl) (fun x h => e78 _ _ x h)
/- drayage/prio.age -/
def n123 : NFunc := ⟨15, .seq (.region 0 [
    ⟨(some 4), .move (.const (.int .i64 (0))), none, 0, none⟩] []) (.seq (.seq (.region 0 [
    ⟨(some 5), .move (.tmp 0), none, 0, none⟩,
    ⟨(some 6), .move (.tmp 1), none, 0, none⟩,
    ⟨(some 7), .bin .leq (.tmp 5) (.tmp 6), none, 0, none⟩] []) (.cond (.tmp 7) (.seq (.region 0 [
    ⟨(some 4), .move (.const (.int .i64 (0))), none, 0, none⟩] []) (.ret)) (.skip))) (.seq (.region 0 [
    ⟨(some 8), .move (.tmp 0), none, 0, none⟩,
    ⟨(some 9), .conv .u64 (.tmp 8), none, 0, none⟩,
    ⟨(some 10), .move (.tmp 1), none, 0, none⟩,
    ⟨(some 11), .conv .u64 (.tmp 10), none, 0, none⟩,
    ⟨(some 12), .bin .sub (.tmp 9) (.tmp 11), none, 0, none⟩,
    ⟨(some 13), .minmax false (.tmp 12) (.const (.int .u64 (4096))), none, 0, none⟩,
    ⟨(some 14), .conv .i64 (.tmp 13), none, 0, none⟩,
    ⟨(some 4), .move (.tmp 14), none, 0, none⟩] []) (.ret))), [.tmp 4], true⟩
def s123 : Sig := ⟨(.cons (.v (.int .i64)) (.cons (.v (.int .i64)) .nil)), [], ((.v (.int .i64)), []), []⟩
def F123 (L : Lp)  (now0 : Int) (born1 : Int) : Option Int :=
  cond (decide (now0 ≤ born1))
    (some 0)
    (let v2 := if 4096 < (IntKind.wrap .u64 ((IntKind.wrap .u64 (now0)) - (IntKind.wrap .u64 (born1)))) then 4096 else (IntKind.wrap .u64 ((IntKind.wrap .u64 (now0)) - (IntKind.wrap .u64 (born1))))
    some (IntKind.wrap .i64 (v2)))
theorem e123 (L : Lp)  (x : s123.args.den) (h : denH s123.heap) : nrun [] L n123 s123 x h = F123 L  x.1 x.2.1 := by kernel_rfl
def f123 : Int → Int → Option Int := F123 (@LN LOOPS) 
@[reducible] def t123 : Ent := ⟨123, s123, fun x h => f123 x.1 x.2.1⟩
theorem k123 : chkNF Try.prog Try.f123 n123 = true := by kernel_rfl
theorem ok123 : NOk Try.prog t123 := NOk.body (T := []) mixed nall_nil (oneEach_of (by kernel_rfl)) Try.func123 k123 (by kernel_rfl) (fun x h => e123 _  x h)
/- drayage/prio.Parts -/
def n109 : NFunc := ⟨75, .seq (.region 3 [
    ⟨(some 4), .box 18 (.tmp 0), none, 0, none⟩,
    ⟨(some 5), .box 18 (.tmp 1), none, 1, none⟩,
    ⟨(some 8), .alloc [.int .i64 (0), .int .i64 (0), .int .i64 (0), .int .i64 (0)], none, 2, none⟩] []) (.seq (.seq (.region 4 [
    ⟨(some 11), .load true 18 (.tmp 4), none, 0, none⟩,
    ⟨(some 12), .call (.func 122) [(false, (.tmp 11))] false 4, none, 0, none⟩,
    ⟨(some 13), .un .not (.tmp 12), none, 4, none⟩] []) (.cond (.tmp 13) (.seq (.region 0 [
    ⟨(some 14), .build [.int .i64 (0), .int .i64 (0), .int .i64 (0), .int .i64 (0)] [], none, 0, none⟩,
    ⟨none, .store 4 (.tmp 8) (.tmp 14), none, 0, none⟩] []) (.ret)) (.skip))) (.seq (.region 0 [
    ⟨(some 9), .move (.const (.int .i64 (0))), none, 0, none⟩,
    ⟨(some 10), .move (.const (.int .i64 (0))), none, 0, none⟩] []) (.seq (.meet [8, 4, 9, 5, 2, 3, 10] [] ⟨[(4, (.ptr 0 0 0)), (5, (.ptr 1 0 0)), (8, (.ptr 2 0 0)), (9, (.v (.int .i64)))], [2, 3, 10], [.one false .spec, .one false .job, .one false (.pair (.int .i64) (.pair (.int .i64) (.pair (.int .i64) (.int .i64))))]⟩ (.seq (.region 0 [
    ⟨(some 15), .fieldAddr 2 (.tmp 5), none, 0, none⟩,
    ⟨(some 16), .load false 1 (.tmp 15), none, 0, none⟩,
    ⟨(some 17), .bin .geq (.tmp 16) (.const (.int .i64 (0))), none, 0, none⟩,
    ⟨(some 18), .move (.tmp 17), none, 0, none⟩,
    ⟨(some 19), .fieldAddr 2 (.tmp 5), (some (18, true)), 0, none⟩,
    ⟨(some 20), .load false 1 (.tmp 19), (some (18, true)), 0, none⟩,
    ⟨(some 21), .fieldAddr 2 (.tmp 4), (some (18, true)), 0, none⟩,
    ⟨(some 22), .load false 1 (.tmp 21), (some (18, true)), 0, none⟩,
    ⟨(some 23), .len (.tmp 22), (some (18, true)), 0, none⟩,
    ⟨(some 24), .bin .lss (.tmp 20) (.tmp 23), (some (18, true)), 0, none⟩,
    ⟨(some 25), .pick (.tmp 18) (.tmp 24) (.const (.bool false)), none, 0, none⟩] []) (.cond (.tmp 25) (.region 0 [
    ⟨(some 26), .fieldAddr 2 (.tmp 4), none, 0, none⟩,
    ⟨(some 27), .load false 1 (.tmp 26), none, 0, none⟩,
    ⟨(some 28), .fieldAddr 2 (.tmp 5), none, 0, none⟩,
    ⟨(some 29), .load false 1 (.tmp 28), none, 0, none⟩,
    ⟨(some 30), .indexSl 6 (.tmp 27) (.tmp 29), none, 0, none⟩,
    ⟨(some 31), .fieldAddr 5 (.tmp 30), none, 0, none⟩,
    ⟨(some 32), .load false 1 (.tmp 31), none, 0, none⟩,
    ⟨(some 9), .move (.tmp 32), none, 0, none⟩] []) (.skip)))) (.seq (.meet [8, 10, 4, 9, 5, 2] [] ⟨[(4, (.ptr 0 0 0)), (5, (.ptr 1 0 0)), (8, (.ptr 2 0 0)), (10, (.v (.int .i64)))], [2, 9], [.one false .spec, .one false .job, .one false (.pair (.int .i64) (.pair (.int .i64) (.pair (.int .i64) (.int .i64))))]⟩ (.seq (.region 0 [
    ⟨(some 33), .fieldAddr 1 (.tmp 5), none, 0, none⟩,
    ⟨(some 34), .load false 1 (.tmp 33), none, 0, none⟩,
    ⟨(some 35), .bin .geq (.tmp 34) (.const (.int .i64 (0))), none, 0, none⟩,
    ⟨(some 36), .move (.tmp 35), none, 0, none⟩,
    ⟨(some 37), .fieldAddr 1 (.tmp 5), (some (36, true)), 0, none⟩,
    ⟨(some 38), .load false 1 (.tmp 37), (some (36, true)), 0, none⟩,
    ⟨(some 39), .move (.tmp 3), (some (36, true)), 0, none⟩,
    ⟨(some 40), .len (.tmp 39), (some (36, true)), 0, none⟩,
    ⟨(some 41), .bin .lss (.tmp 38) (.tmp 40), (some (36, true)), 0, none⟩,
    ⟨(some 42), .pick (.tmp 36) (.tmp 41) (.const (.bool false)), none, 0, none⟩] []) (.cond (.tmp 42) (.region 4 [
    ⟨(some 43), .move (.tmp 3), none, 0, none⟩,
    ⟨(some 44), .fieldAddr 1 (.tmp 5), none, 0, none⟩,
    ⟨(some 45), .load false 1 (.tmp 44), none, 0, none⟩,
    ⟨(some 46), .indexSl 1 (.tmp 43) (.tmp 45), none, 0, none⟩,
    ⟨(some 47), .load false 1 (.tmp 46), none, 0, none⟩,
    ⟨(some 48), .call (.func 78) [(false, (.tmp 47))] false 4, none, 0, none⟩,
    ⟨(some 10), .move (.tmp 48), none, 4, none⟩] []) (.skip)))) (.seq (.region 8 [
    ⟨(some 49), .fieldAddr 4 (.tmp 4), none, 0, (some [])⟩,
    ⟨(some 50), .fieldAddr 0 (.tmp 49), none, 0, (some [])⟩,
    ⟨(some 51), .load false 1 (.tmp 50), none, 0, (some [])⟩,
    ⟨(some 52), .move (.tmp 2), none, 0, (some [])⟩,
    ⟨(some 53), .fieldAddr 14 (.tmp 5), none, 0, (some [])⟩,
    ⟨(some 54), .load false 1 (.tmp 53), none, 0, (some [])⟩,
    ⟨(some 55), .call (.func 123) [(false, (.tmp 52)), (false, (.tmp 54))] true 4, none, 0, (some [])⟩,
    ⟨(some 56), .bin .mul (.tmp 51) (.tmp 55), none, 4, (some [0, 1, 2, 3])⟩,
    ⟨(some 57), .fieldAddr 4 (.tmp 4), none, 4, (some [])⟩,
    ⟨(some 58), .fieldAddr 1 (.tmp 57), none, 4, (some [])⟩,
    ⟨(some 59), .load false 1 (.tmp 58), none, 4, (some [])⟩,
    ⟨(some 60), .fieldAddr 3 (.tmp 5), none, 4, (some [])⟩,
    ⟨(some 61), .load false 1 (.tmp 60), none, 4, (some [])⟩,
    ⟨(some 62), .call (.func 80) [(false, (.tmp 61)), (false, (.const (.int .i64 (0)))), (false, (.const (.int .i64 (64))))] true 4, none, 4, (some [0, 1, 2, 3])⟩,
    ⟨(some 63), .bin .mul (.tmp 59) (.tmp 62), none, 8, (some [0, 1, 2, 3, 4, 5, 6, 7])⟩,
    ⟨(some 64), .fieldAddr 4 (.tmp 4), none, 8, (some [])⟩,
    ⟨(some 65), .fieldAddr 2 (.tmp 64), none, 8, (some [])⟩,
    ⟨(some 66), .load false 1 (.tmp 65), none, 8, (some [])⟩,
    ⟨(some 67), .move (.tmp 9), none, 8, (some [])⟩,
    ⟨(some 68), .bin .mul (.tmp 66) (.tmp 67), none, 8, (some [])⟩,
    ⟨(some 69), .fieldAddr 4 (.tmp 4), none, 8, (some [])⟩,
    ⟨(some 70), .fieldAddr 3 (.tmp 69), none, 8, (some [])⟩,
    ⟨(some 71), .load false 1 (.tmp 70), none, 8, (some [])⟩,
    ⟨(some 72), .move (.tmp 10), none, 8, (some [])⟩,
    ⟨(some 73), .bin .mul (.tmp 71) (.tmp 72), none, 8, (some [])⟩,
    ⟨(some 74), .build [.int .i64 (0), .int .i64 (0), .int .i64 (0), .int .i64 (0)] [(0, 1, (.tmp 56)), (1, 1, (.tmp 63)), (2, 1, (.tmp 68)), (3, 1, (.tmp 73))], none, 8, (some [0, 1, 2, 3, 4, 5, 6, 7])⟩,
    ⟨none, .store 4 (.tmp 8) (.tmp 74), none, 8, (some [0, 1, 2, 3, 4, 5, 6, 7])⟩] []) (.ret)))))), [.cell true 4 8], true⟩
def s109 : Sig := ⟨(.cons (.v .spec) (.cons (.v .job) (.cons (.v (.int .i64)) (.cons (.v (.list (.int .i64))) .nil)))), [], ((.v (.pair (.int .i64) (.pair (.int .i64) (.pair (.int .i64) (.int .i64))))), []), []⟩
def F109 (L : Lp) (g122 : Spec → Option Bool) (g78 : Int → Option Int) (g123 : Int → Int → Option Int) (g80 : Int → Int → Int → Option Int) (as0 : Spec) (j1 : Job) (now2 : Int) (use3 : (List Int)) : Option (Int × (Int × (Int × Int))) :=
  Option.bind (g122 as0) fun r4 =>
  cond (!r4)
    (some (0, (0, (0, 0))))
    (Option.bind (α := ((Unit × (Unit × (Unit × (Int × Unit)))) × (Spec × (Job × ((Int × (Int × (Int × Int))) × Unit)))))
      (cond (decide (0 ≤ j1.queue))
        (cond (decide (j1.queue < (List.length as0.queues : Int)))
          (cond (decide (0 ≤ j1.queue))
            (Option.bind (as0.queues[Int.toNat j1.queue]?) fun y5 =>
            some (((), (), (), y5.qos, ()), (as0, j1, (0, (0, (0, 0))), ())))
            (none))
          (some (((), (), (), 0, ()), (as0, j1, (0, (0, (0, 0))), ()))))
        (some (((), (), (), 0, ()), (as0, j1, (0, (0, (0, 0))), ())))) fun x6 =>
    Option.bind (α := ((Unit × (Unit × (Unit × (Int × Unit)))) × (Spec × (Job × ((Int × (Int × (Int × Int))) × Unit)))))
      (cond (decide (0 ≤ x6.2.2.1.user))
        (cond (decide (x6.2.2.1.user < (List.length use3 : Int)))
          (cond (decide (0 ≤ x6.2.2.1.user))
            (Option.bind (use3[Int.toNat x6.2.2.1.user]?) fun y7 =>
            Option.bind (g78 y7) fun r8 =>
            some (((), (), (), r8, ()), (x6.2.1, x6.2.2.1, x6.2.2.2.1, ())))
            (none))
          (some (((), (), (), 0, ()), (x6.2.1, x6.2.2.1, x6.2.2.2.1, ()))))
        (some (((), (), (), 0, ()), (x6.2.1, x6.2.2.1, x6.2.2.2.1, ())))) fun x9 =>
    Option.bind (g123 now2 x9.2.2.1.born) fun r10 =>
    Option.bind (g80 x9.2.2.1.many 0 64) fun r11 =>
    some (IntKind.wrap .i64 (x9.2.1.weights.age * r10), (IntKind.wrap .i64 (x9.2.1.weights.size * r11), (IntKind.wrap .i64 (x9.2.1.weights.qos * x6.1.2.2.2.1), IntKind.wrap .i64 (x9.2.1.weights.share * x9.1.2.2.2.1)))))
theorem e109 (L : Lp) (g122 : Spec → Option Bool) (g78 : Int → Option Int) (g123 : Int → Int → Option Int) (g80 : Int → Int → Int → Option Int) (x : s109.args.den) (h : denH s109.heap) : nrun [⟨122, s122, fun x h => g122 x.1⟩, ⟨78, s78, fun x h => g78 x.1⟩, ⟨123, s123, fun x h => g123 x.1 x.2.1⟩, ⟨80, s80, fun x h => g80 x.1 x.2.1 x.2.2.1⟩] L n109 s109 x h = F109 L g122 g78 g123 g80 x.1 x.2.1 x.2.2.1 x.2.2.2.1 := by kernel_rfl
def f109 : Spec → Job → Int → (List Int) → Option (Int × (Int × (Int × Int))) := F109 (@LN LOOPS) f122 f78 f123 f80
@[reducible] def t109 : Ent := ⟨109, s109, fun x h => f109 x.1 x.2.1 x.2.2.1 x.2.2.2.1⟩
theorem k109 : chkNF Try.prog Try.f109 n109 = true := by kernel_rfl
theorem ok109 : NOk Try.prog t109 := NOk.body (T := [t122, t78, t123, t80]) mixed (nall_cons ok122 (nall_cons ok78 (nall_cons ok123 (nall_cons ok80 nall_nil)))) (oneEach_of (by kernel_rfl)) Try.func109 k109 (by kernel_rfl) (fun x h => e109 _ _ _ _ _ x h)
/- drayage/prio.Of -/
def n71 : NFunc := ⟨26, .seq (.region 2 [
    ⟨(some 4), .box 18 (.tmp 0), none, 0, none⟩,
    ⟨(some 5), .box 18 (.tmp 1), none, 1, none⟩,
    ⟨(some 8), .move (.const (.int .i64 (0))), none, 2, none⟩] []) (.seq (.region 5 [
    ⟨(some 10), .load true 18 (.tmp 4), none, 0, none⟩,
    ⟨(some 11), .load true 18 (.tmp 5), none, 0, none⟩,
    ⟨(some 12), .move (.tmp 2), none, 0, none⟩,
    ⟨(some 13), .move (.tmp 3), none, 0, none⟩,
    ⟨(some 14), .call (.func 109) [(false, (.tmp 10)), (false, (.tmp 11)), (false, (.tmp 12)), (false, (.tmp 13))] false 4, none, 0, none⟩,
    ⟨(some 9), .alloc [.int .i64 (0), .int .i64 (0), .int .i64 (0), .int .i64 (0)], none, 4, none⟩,
    ⟨none, .store 4 (.tmp 9) (.tmp 14), none, 5, none⟩] []) (.seq (.region 0 [
    ⟨(some 15), .indexArr 4 1 (.tmp 9) (.const (.int .i64 (0))), none, 0, none⟩,
    ⟨(some 16), .load false 1 (.tmp 15), none, 0, none⟩,
    ⟨(some 17), .indexArr 4 1 (.tmp 9) (.const (.int .i64 (1))), none, 0, none⟩,
    ⟨(some 18), .load false 1 (.tmp 17), none, 0, none⟩,
    ⟨(some 19), .bin .add (.tmp 16) (.tmp 18), none, 0, none⟩,
    ⟨(some 20), .indexArr 4 1 (.tmp 9) (.const (.int .i64 (2))), none, 0, none⟩,
    ⟨(some 21), .load false 1 (.tmp 20), none, 0, none⟩,
    ⟨(some 22), .bin .add (.tmp 19) (.tmp 21), none, 0, none⟩,
    ⟨(some 23), .indexArr 4 1 (.tmp 9) (.const (.int .i64 (3))), none, 0, none⟩,
    ⟨(some 24), .load false 1 (.tmp 23), none, 0, none⟩,
    ⟨(some 25), .bin .sub (.tmp 22) (.tmp 24), none, 0, none⟩,
    ⟨(some 8), .move (.tmp 25), none, 0, none⟩] []) (.ret))), [.tmp 8], true⟩
def s71 : Sig := ⟨(.cons (.v .spec) (.cons (.v .job) (.cons (.v (.int .i64)) (.cons (.v (.list (.int .i64))) .nil)))), [], ((.v (.int .i64)), []), []⟩
def F71 (L : Lp) (g109 : Spec → Job → Int → (List Int) → Option (Int × (Int × (Int × Int)))) (as0 : Spec) (j1 : Job) (now2 : Int) (use3 : (List Int)) : Option Int :=
  Option.bind (g109 as0 j1 now2 use3) fun r4 =>
  let v5 := IntKind.wrap .i64 ((IntKind.wrap .i64 ((IntKind.wrap .i64 (r4.1 + r4.2.1)) + r4.2.2.1)) - r4.2.2.2)
  some v5
theorem e71 (L : Lp) (g109 : Spec → Job → Int → (List Int) → Option (Int × (Int × (Int × Int)))) (x : s71.args.den) (h : denH s71.heap) : nrun [⟨109, s109, fun x h => g109 x.1 x.2.1 x.2.2.1 x.2.2.2.1⟩] L n71 s71 x h = F71 L g109 x.1 x.2.1 x.2.2.1 x.2.2.2.1 := by kernel_rfl
def f71 : Spec → Job → Int → (List Int) → Option Int := F71 (@LN LOOPS) f109
@[reducible] def t71 : Ent := ⟨71, s71, fun x h => f71 x.1 x.2.1 x.2.2.1 x.2.2.2.1⟩
theorem k71 : chkNF Try.prog Try.f71 n71 = true := by kernel_rfl
theorem ok71 : NOk Try.prog t71 := NOk.body (T := [t109]) mixed (nall_cons ok109 nall_nil) (oneEach_of (by kernel_rfl)) Try.func71 k71 (by kernel_rfl) (fun x h => e71 _ _ x h)
/- drayage/drayagelaw21.awake -/
def n68 : NFunc := ⟨8, .seq (.region 0 [
    ⟨(some 0), .move (.const (.bool false)), none, 0, none⟩] []) (.seq (.region 1 [
    ⟨(some 2), .build [.int .i64 (0), .int .i64 (0), .int .i64 (0), .int .i64 (0), .int .i64 (0), .int .i64 (0), .int .i64 (0), .int .i64 (0), .int .i64 (0), .zsl, .int .i64 (0), .bool false, .bool false, .int .i64 (0), .int .i64 (0), .int .i64 (0), .int .i64 (0), .int .i64 (0)] [(2, 1, (.const (.int .i64 (1)))), (3, 1, (.const (.int .i64 (2)))), (14, 1, (.const (.int .i64 (4)))), (1, 1, (.const (.int .i64 (1))))], none, 0, none⟩,
    ⟨(some 1), .alloc [.int .i64 (0), .int .i64 (0), .int .i64 (0), .int .i64 (0), .int .i64 (0), .int .i64 (0), .int .i64 (0), .int .i64 (0), .int .i64 (0), .zsl, .int .i64 (0), .bool false, .bool false, .int .i64 (0), .int .i64 (0), .int .i64 (0), .int .i64 (0), .int .i64 (0)], none, 0, none⟩,
    ⟨none, .store 18 (.tmp 1) (.tmp 2), none, 1, none⟩] []) (.seq (.region 9 [
    ⟨(some 3), .call (.func 103) [] true 4, none, 0, (some [])⟩,
    ⟨(some 4), .load true 18 (.tmp 1), none, 4, (some [])⟩,
    ⟨(some 5), .buildSlice 1 2 true [.int .i64 (0)] [(0, (.const (.int .i64 (0)))), (1, (.const (.int .i64 (32))))], none, 4, (some [])⟩,
    ⟨(some 6), .call (.func 71) [(false, (.tmp 3)), (false, (.tmp 4)), (false, (.const (.int .i64 (7)))), (false, (.tmp 5))] false 4, none, 5, (some [0, 1, 2, 3, 4])⟩,
    ⟨(some 7), .bin .eql (.tmp 6) (.const (.int .i64 (51))), none, 9, (some [0, 1, 2, 3, 4, 5, 6, 7, 8])⟩,
    ⟨(some 0), .move (.tmp 7), none, 9, (some [0, 1, 2, 3, 4, 5, 6, 7, 8])⟩] []) (.ret))), [.tmp 0], true⟩
def s68 : Sig := ⟨.nil, [], ((.v .bool), []), []⟩
def F68 (L : Lp) (g103 : Option Spec) (g71 : Spec → Job → Int → (List Int) → Option Int)  : Option Bool :=
  Option.bind (g103) fun r0 =>
  Option.bind (g71 r0 (Job.mk 0 1 1 2 (Res.mk 0 0 0 0) 0 [] 0 false false 0 4 0 0 0) 7 [0, 32]) fun r1 =>
  some (decide (r1 = 51))
theorem e68 (L : Lp) (g103 : Option Spec) (g71 : Spec → Job → Int → (List Int) → Option Int) (x : s68.args.den) (h : denH s68.heap) : nrun [⟨103, s103, fun x h => g103 ⟩, ⟨71, s71, fun x h => g71 x.1 x.2.1 x.2.2.1 x.2.2.2.1⟩] L n68 s68 x h = F68 L g103 g71  := by kernel_rfl
def f68 : Option Bool := F68 (@LN LOOPS) f103 f71
@[reducible] def t68 : Ent := ⟨68, s68, fun x h => f68 ⟩
theorem k68 : chkNF Try.prog Try.f68 n68 = true := by kernel_rfl
theorem ok68 : NOk Try.prog t68 := NOk.body (T := [t103, t71]) mixed (nall_cons ok103 (nall_cons ok71 nall_nil)) (oneEach_of (by kernel_rfl)) Try.func68 k68 (by kernel_rfl) (fun x h => e68 _ _ _ x h)
/- drayage/drayagelaw07.Few -/
def n69 : NFunc := ⟨46, .seq (.region 1 [
    ⟨(some 1), .box 18 (.tmp 0), none, 0, none⟩,
    ⟨(some 2), .move (.const (.bool false)), none, 1, none⟩] []) (.seq (.seq (.region 0 [
    ⟨(some 7), .fieldAddr 0 (.tmp 1), none, 0, none⟩,
    ⟨(some 8), .load false 1 (.tmp 7), none, 0, none⟩,
    ⟨(some 9), .len (.tmp 8), none, 0, none⟩,
    ⟨(some 10), .bin .gtr (.tmp 9) (.const (.int .i64 (40))), none, 0, none⟩,
    ⟨(some 11), .move (.tmp 10), none, 0, none⟩,
    ⟨(some 12), .fieldAddr 1 (.tmp 1), (some (11, false)), 0, none⟩,
    ⟨(some 13), .load false 1 (.tmp 12), (some (11, false)), 0, none⟩,
    ⟨(some 14), .len (.tmp 13), (some (11, false)), 0, none⟩,
    ⟨(some 15), .bin .gtr (.tmp 14) (.const (.int .i64 (20))), (some (11, false)), 0, none⟩,
    ⟨(some 16), .pick (.tmp 11) (.const (.bool true)) (.tmp 15), none, 0, none⟩,
    ⟨(some 17), .move (.tmp 16), none, 0, none⟩,
    ⟨(some 18), .fieldAddr 2 (.tmp 1), (some (17, false)), 0, none⟩,
    ⟨(some 19), .load false 1 (.tmp 18), (some (17, false)), 0, none⟩,
    ⟨(some 20), .len (.tmp 19), (some (17, false)), 0, none⟩,
    ⟨(some 21), .bin .gtr (.tmp 20) (.const (.int .i64 (20))), (some (17, false)), 0, none⟩,
    ⟨(some 22), .pick (.tmp 17) (.const (.bool true)) (.tmp 21), none, 0, none⟩] []) (.cond (.tmp 22) (.seq (.region 0 [
    ⟨(some 2), .move (.const (.bool false)), none, 0, none⟩] []) (.ret)) (.skip))) (.seq (.seq (.region 0 [
    ⟨(some 23), .fieldAddr 1 (.tmp 1), none, 0, none⟩,
    ⟨(some 24), .load false 1 (.tmp 23), none, 0, none⟩,
    ⟨(some 25), .len (.tmp 24), none, 0, none⟩,
    ⟨(some 26), .move (.const (.int .i64 (0))), none, 0, none⟩] []) (.block 0 (.loop [1, 24, 25, 26] ⟨[(1, (.ptr 0 0 0)), (26, (.v (.int .i64)))], [24, 25], [.one false .spec]⟩ (.seq (.region 0 [
    ⟨(some 27), .bin .lss (.tmp 26) (.tmp 25), none, 0, none⟩] []) (.seq (.cond (.tmp 27) (.skip) (.exit 0)) (.seq (.block 1 (.seq (.region 0 [
    ⟨(some 28), .indexSl 1 (.tmp 24) (.tmp 26), none, 0, none⟩,
    ⟨(some 29), .load false 1 (.tmp 28), none, 0, none⟩,
    ⟨(some 4), .move (.tmp 29), none, 0, none⟩] []) (.seq (.region 0 [
    ⟨(some 30), .move (.tmp 4), none, 0, none⟩,
    ⟨(some 31), .len (.tmp 30), none, 0, none⟩,
    ⟨(some 32), .bin .gtr (.tmp 31) (.const (.int .i64 (40))), none, 0, none⟩] []) (.cond (.tmp 32) (.seq (.region 0 [
    ⟨(some 2), .move (.const (.bool false)), none, 0, none⟩] []) (.ret)) (.skip))))) (.region 0 [
    ⟨(some 33), .bin .add (.tmp 26) (.const (.int .i64 (1))), none, 0, none⟩,
    ⟨(some 26), .move (.tmp 33), none, 0, none⟩] []))))))) (.seq (.seq (.region 0 [
    ⟨(some 34), .fieldAddr 2 (.tmp 1), none, 0, none⟩,
    ⟨(some 35), .load false 1 (.tmp 34), none, 0, none⟩,
    ⟨(some 36), .len (.tmp 35), none, 0, none⟩,
    ⟨(some 37), .move (.const (.int .i64 (0))), none, 0, none⟩] []) (.block 2 (.loop [35, 36, 37] ⟨[(37, (.v (.int .i64)))], [35, 36], []⟩ (.seq (.region 0 [
    ⟨(some 38), .bin .lss (.tmp 37) (.tmp 36), none, 0, none⟩] []) (.seq (.cond (.tmp 38) (.skip) (.exit 2)) (.seq (.block 3 (.seq (.region 1 [
    ⟨(some 39), .indexSl 6 (.tmp 35) (.tmp 37), none, 0, none⟩,
    ⟨(some 40), .load true 6 (.tmp 39), none, 0, none⟩,
    ⟨(some 6), .alloc [.int .i64 (0), .zsl, .int .i64 (0), .int .i64 (0), .int .i64 (0), .int .i64 (0)], none, 0, none⟩,
    ⟨none, .store 6 (.tmp 6) (.tmp 40), none, 1, none⟩] []) (.seq (.region 0 [
    ⟨(some 41), .fieldAddr 1 (.tmp 6), none, 0, none⟩,
    ⟨(some 42), .load false 1 (.tmp 41), none, 0, none⟩,
    ⟨(some 43), .len (.tmp 42), none, 0, none⟩,
    ⟨(some 44), .bin .gtr (.tmp 43) (.const (.int .i64 (40))), none, 0, none⟩] []) (.cond (.tmp 44) (.seq (.region 0 [
    ⟨(some 2), .move (.const (.bool false)), none, 0, none⟩] []) (.ret)) (.skip))))) (.region 0 [
    ⟨(some 45), .bin .add (.tmp 37) (.const (.int .i64 (1))), none, 0, none⟩,
    ⟨(some 37), .move (.tmp 45), none, 0, none⟩] []))))))) (.seq (.region 0 [
    ⟨(some 2), .move (.const (.bool true)), none, 0, none⟩] []) (.ret))))), [.tmp 2], true⟩
def s69 : Sig := ⟨(.cons (.v .spec) .nil), [], ((.v .bool), []), []⟩
def l69_0 (z3 : Spec) (next : ((Int × Unit) × Unit) → Option Bool) (z6 : Int) : Option Bool :=
  cond (decide (z6 < (List.length z3.queues : Int)))
    (cond (decide (0 ≤ z6))
      (Option.bind (z3.queues[Int.toNat z6]?) fun y7 =>
      cond (decide (40 < (List.length y7.users : Int)))
        (some false)
        (next ((IntKind.wrap .i64 (z6 + 1), ()), ())))
      (none))
    (some true)
def l69_1 (L : Lp) (as0 : Spec) (next : ((Unit × (Int × Unit)) × (Spec × Unit)) → Option Bool) (z2 : Int) (z3 : Spec) : Option Bool :=
  cond (decide (z2 < (List.length as0.parts : Int)))
    (cond (decide (0 ≤ z2))
      (Option.bind (as0.parts[Int.toNat z2]?) fun y4 =>
      cond (decide (40 < (List.length y4 : Int)))
        (some false)
        (next (((), IntKind.wrap .i64 (z2 + 1), ()), (z3, ()))))
      (none))
    (L (fun (s5 : ((Int × Unit) × Unit)) next => l69_0 z3 next s5.1.1) ((0, ()), ()))
def F69 (L : Lp)  (as0 : Spec) : Option Bool :=
  cond (decide (40 < (List.length as0.nodes : Int)))
    (some false)
    (cond (decide (20 < (List.length as0.parts : Int)))
      (some false)
      (cond (decide (20 < (List.length as0.queues : Int)))
        (some false)
        (L (fun (s1 : ((Unit × (Int × Unit)) × (Spec × Unit))) next => l69_1 L as0 next s1.1.2.1 s1.2.1) (((), 0, ()), (as0, ())))))
theorem e69 (L : Lp)  (x : s69.args.den) (h : denH s69.heap) : nrun [] L n69 s69 x h = F69 L  x.1 := by kernel_rfl
def f69 : Spec → Option Bool := F69 (@LN LOOPS) 
@[reducible] def t69 : Ent := ⟨69, s69, fun x h => f69 x.1⟩
theorem k69 : chkNF Try.prog Try.f69 n69 = true := by kernel_rfl
theorem ok69 : NOk Try.prog t69 := NOk.body (T := []) mixed nall_nil (oneEach_of (by kernel_rfl)) Try.func69 k69 (by kernel_rfl) (fun x h => e69 _  x h)
/- drayage/drayageref07.in -/
def n118 : NFunc := ⟨15, .seq (.region 0 [
    ⟨(some 6), .move (.const (.bool false)), none, 0, none⟩] []) (.seq (.region 0 [
    ⟨(some 7), .move (.tmp 1), none, 0, none⟩,
    ⟨(some 8), .move (.tmp 0), none, 0, none⟩,
    ⟨(some 9), .bin .leq (.tmp 7) (.tmp 8), none, 0, none⟩,
    ⟨(some 10), .move (.tmp 9), none, 0, none⟩,
    ⟨(some 11), .move (.tmp 0), (some (10, true)), 0, none⟩,
    ⟨(some 12), .move (.tmp 2), (some (10, true)), 0, none⟩,
    ⟨(some 13), .bin .leq (.tmp 11) (.tmp 12), (some (10, true)), 0, none⟩,
    ⟨(some 14), .pick (.tmp 10) (.tmp 13) (.const (.bool false)), none, 0, none⟩,
    ⟨(some 6), .move (.tmp 14), none, 0, none⟩] []) (.ret)), [.tmp 6], true⟩
def s118 : Sig := ⟨(.cons (.v (.int .i64)) (.cons (.v (.int .i64)) (.cons (.v (.int .i64)) .nil))), [], ((.v .bool), []), []⟩
def F118 (L : Lp)  (an0 : Int) (lo1 : Int) (hi2 : Int) : Option Bool :=
  cond (decide (lo1 ≤ an0))
    (some (decide (an0 ≤ hi2)))
    (some false)
theorem e118 (L : Lp)  (x : s118.args.den) (h : denH s118.heap) : nrun [] L n118 s118 x h = F118 L  x.1 x.2.1 x.2.2.1 := by kernel_rfl
def f118 : Int → Int → Int → Option Bool := F118 (@LN LOOPS) 
@[reducible] def t118 : Ent := ⟨118, s118, fun x h => f118 x.1 x.2.1 x.2.2.1⟩
theorem k118 : chkNF Try.prog Try.f118 n118 = true := by kernel_rfl
theorem ok118 : NOk Try.prog t118 := NOk.body (T := []) mixed nall_nil (oneEach_of (by kernel_rfl)) Try.func118 k118 (by kernel_rfl) (fun x h => e118 _  x h)
/- drayage/drayageref02.right -/
def n128 : NFunc := ⟨9, .seq (.region 0 [
    ⟨(some 2), .move (.const (.bool false)), none, 0, none⟩] []) (.seq (.region 0 [
    ⟨(some 3), .move (.tmp 0), none, 0, none⟩,
    ⟨(some 4), .bin .geq (.tmp 3) (.const (.int .i64 (0))), none, 0, none⟩,
    ⟨(some 5), .move (.tmp 4), none, 0, none⟩,
    ⟨(some 6), .move (.tmp 0), (some (5, true)), 0, none⟩,
    ⟨(some 7), .bin .leq (.tmp 6) (.const (.int .i64 (1048576))), (some (5, true)), 0, none⟩,
    ⟨(some 8), .pick (.tmp 5) (.tmp 7) (.const (.bool false)), none, 0, none⟩,
    ⟨(some 2), .move (.tmp 8), none, 0, none⟩] []) (.ret)), [.tmp 2], true⟩
def s128 : Sig := ⟨(.cons (.v (.int .i64)) .nil), [], ((.v .bool), []), []⟩
def F128 (L : Lp)  (an0 : Int) : Option Bool :=
  cond (decide (0 ≤ an0))
    (some (decide (an0 ≤ 1048576)))
    (some false)
theorem e128 (L : Lp)  (x : s128.args.den) (h : denH s128.heap) : nrun [] L n128 s128 x h = F128 L  x.1 := by kernel_rfl
def f128 : Int → Option Bool := F128 (@LN LOOPS) 
@[reducible] def t128 : Ent := ⟨128, s128, fun x h => f128 x.1⟩
theorem k128 : chkNF Try.prog Try.f128 n128 = true := by kernel_rfl
theorem ok128 : NOk Try.prog t128 := NOk.body (T := []) mixed nall_nil (oneEach_of (by kernel_rfl)) Try.func128 k128 (by kernel_rfl) (fun x h => e128 _  x h)
/- drayage/drayageref02.Right -/
def n125 : NFunc := ⟨21, .seq (.region 1 [
    ⟨(some 1), .box 4 (.tmp 0), none, 0, none⟩,
    ⟨(some 2), .move (.const (.bool false)), none, 1, none⟩] []) (.seq (.region 16 [
    ⟨(some 3), .fieldAddr 0 (.tmp 1), none, 0, none⟩,
    ⟨(some 4), .load false 1 (.tmp 3), none, 0, none⟩,
    ⟨(some 5), .call (.func 128) [(false, (.tmp 4))] false 4, none, 0, none⟩,
    ⟨(some 6), .move (.tmp 5), none, 4, none⟩,
    ⟨(some 7), .fieldAddr 1 (.tmp 1), (some (6, true)), 4, none⟩,
    ⟨(some 8), .load false 1 (.tmp 7), (some (6, true)), 4, none⟩,
    ⟨(some 9), .call (.func 128) [(false, (.tmp 8))] false 4, (some (6, true)), 4, none⟩,
    ⟨(some 10), .pick (.tmp 6) (.tmp 9) (.const (.bool false)), none, 8, none⟩,
    ⟨(some 11), .move (.tmp 10), none, 8, none⟩,
    ⟨(some 12), .fieldAddr 2 (.tmp 1), (some (11, true)), 8, none⟩,
    ⟨(some 13), .load false 1 (.tmp 12), (some (11, true)), 8, none⟩,
    ⟨(some 14), .call (.func 128) [(false, (.tmp 13))] false 4, (some (11, true)), 8, none⟩,
    ⟨(some 15), .pick (.tmp 11) (.tmp 14) (.const (.bool false)), none, 12, none⟩,
    ⟨(some 16), .move (.tmp 15), none, 12, none⟩,
    ⟨(some 17), .fieldAddr 3 (.tmp 1), (some (16, true)), 12, none⟩,
    ⟨(some 18), .load false 1 (.tmp 17), (some (16, true)), 12, none⟩,
    ⟨(some 19), .call (.func 128) [(false, (.tmp 18))] false 4, (some (16, true)), 12, none⟩,
    ⟨(some 20), .pick (.tmp 16) (.tmp 19) (.const (.bool false)), none, 16, none⟩,
    ⟨(some 2), .move (.tmp 20), none, 16, none⟩] []) (.ret)), [.tmp 2], true⟩
def s125 : Sig := ⟨(.cons (.v .res) .nil), [], ((.v .bool), []), []⟩
def F125 (L : Lp) (g128 : Int → Option Bool) (a0 : Res) : Option Bool :=
  Option.bind (g128 a0.cpu) fun r1 =>
  cond r1
    (Option.bind (g128 a0.mem) fun r2 =>
    cond r2
      (Option.bind (g128 a0.gpu) fun r3 =>
      cond r3
        (Option.bind (g128 a0.lic) fun r4 =>
        some r4)
        (some false))
      (some false))
    (some false)
theorem e125 (L : Lp) (g128 : Int → Option Bool) (x : s125.args.den) (h : denH s125.heap) : nrun [⟨128, s128, fun x h => g128 x.1⟩] L n125 s125 x h = F125 L g128 x.1 := by kernel_rfl
def f125 : Res → Option Bool := F125 (@LN LOOPS) f128
@[reducible] def t125 : Ent := ⟨125, s125, fun x h => f125 x.1⟩
theorem k125 : chkNF Try.prog Try.f125 n125 = true := by kernel_rfl
theorem ok125 : NOk Try.prog t125 := NOk.body (T := [t128]) mixed (nall_cons ok128 nall_nil) (oneEach_of (by kernel_rfl)) Try.func125 k125 (by kernel_rfl) (fun x h => e125 _ _ x h)
/- drayage/drayageref07.nodes -/
def n119 : NFunc := ⟨22, .seq (.region 1 [
    ⟨(some 1), .box 18 (.tmp 0), none, 0, none⟩,
    ⟨(some 2), .move (.const (.bool false)), none, 1, none⟩] []) (.seq (.seq (.region 0 [
    ⟨(some 3), .move (.const (.int .i64 (0))), none, 0, none⟩] []) (.block 0 (.loop [1, 3] ⟨[(1, (.ptr 0 0 0)), (3, (.v (.int .i64)))], [], [.one false .spec]⟩ (.seq (.seq (.region 0 [
    ⟨(some 4), .move (.tmp 3), none, 0, none⟩,
    ⟨(some 5), .fieldAddr 0 (.tmp 1), none, 0, none⟩,
    ⟨(some 6), .load false 1 (.tmp 5), none, 0, none⟩,
    ⟨(some 7), .len (.tmp 6), none, 0, none⟩,
    ⟨(some 8), .bin .lss (.tmp 4) (.tmp 7), none, 0, none⟩] []) (.cond (.tmp 8) (.skip) (.exit 0))) (.seq (.block 1 (.seq (.region 4 [
    ⟨(some 11), .fieldAddr 0 (.tmp 1), none, 0, none⟩,
    ⟨(some 12), .load false 1 (.tmp 11), none, 0, none⟩,
    ⟨(some 13), .move (.tmp 3), none, 0, none⟩,
    ⟨(some 14), .indexSl 4 (.tmp 12) (.tmp 13), none, 0, none⟩,
    ⟨(some 15), .load true 4 (.tmp 14), none, 0, none⟩,
    ⟨(some 16), .call (.func 125) [(false, (.tmp 15))] false 4, none, 0, none⟩,
    ⟨(some 17), .un .not (.tmp 16), none, 4, none⟩] []) (.cond (.tmp 17) (.seq (.region 0 [
    ⟨(some 2), .move (.const (.bool false)), none, 0, none⟩] []) (.ret)) (.skip)))) (.region 0 [
    ⟨(some 9), .move (.tmp 3), none, 0, none⟩,
    ⟨(some 10), .bin .add (.tmp 9) (.const (.int .i64 (1))), none, 0, none⟩,
    ⟨(some 3), .move (.tmp 10), none, 0, none⟩] [])))))) (.seq (.region 4 [
    ⟨(some 18), .fieldAddr 0 (.tmp 1), none, 0, none⟩,
    ⟨(some 19), .load false 1 (.tmp 18), none, 0, none⟩,
    ⟨(some 20), .len (.tmp 19), none, 0, none⟩,
    ⟨(some 21), .call (.func 118) [(false, (.tmp 20)), (false, (.const (.int .i64 (1)))), (false, (.const (.int .i64 (16))))] false 4, none, 0, none⟩,
    ⟨(some 2), .move (.tmp 21), none, 4, none⟩] []) (.ret))), [.tmp 2], true⟩
def s119 : Sig := ⟨(.cons (.v .spec) .nil), [], ((.v .bool), []), []⟩
def l119_0 (g125 : Res → Option Bool) (g118 : Int → Int → Int → Option Bool) (next : ((Unit × (Int × Unit)) × (Spec × Unit)) → Option Bool) (i2 : Int) (z3 : Spec) : Option Bool :=
  cond (decide (i2 < (List.length z3.nodes : Int)))
    (cond (decide (0 ≤ i2))
      (Option.bind (z3.nodes[Int.toNat i2]?) fun y4 =>
      Option.bind (g125 y4) fun r5 =>
      cond (!r5)
        (some false)
        (next (((), IntKind.wrap .i64 (i2 + 1), ()), (z3, ()))))
      (none))
    (Option.bind (g118 (List.length z3.nodes : Int) 1 16) fun r6 =>
    some r6)
def F119 (L : Lp) (g125 : Res → Option Bool) (g118 : Int → Int → Int → Option Bool) (as0 : Spec) : Option Bool :=
  L (fun (s1 : ((Unit × (Int × Unit)) × (Spec × Unit))) next => l119_0 g125 g118 next s1.1.2.1 s1.2.1) (((), 0, ()), (as0, ()))
theorem e119 (L : Lp) (g125 : Res → Option Bool) (g118 : Int → Int → Int → Option Bool) (x : s119.args.den) (h : denH s119.heap) : nrun [⟨125, s125, fun x h => g125 x.1⟩, ⟨118, s118, fun x h => g118 x.1 x.2.1 x.2.2.1⟩] L n119 s119 x h = F119 L g125 g118 x.1 := by kernel_rfl
def f119 : Spec → Option Bool := F119 (@LN LOOPS) f125 f118
@[reducible] def t119 : Ent := ⟨119, s119, fun x h => f119 x.1⟩
theorem k119 : chkNF Try.prog Try.f119 n119 = true := by kernel_rfl
theorem ok119 : NOk Try.prog t119 := NOk.body (T := [t125, t118]) mixed (nall_cons ok125 (nall_cons ok118 nall_nil)) (oneEach_of (by kernel_rfl)) Try.func119 k119 (by kernel_rfl) (fun x h => e119 _ _ _ x h)
/- drayage/drayageref07.Rising -/
def n126 : NFunc := ⟨41, .seq (.region 0 [
    ⟨(some 4), .move (.const (.bool false)), none, 0, none⟩] []) (.seq (.seq (.region 0 [
    ⟨(some 5), .move (.const (.int .i64 (0))), none, 0, none⟩] []) (.block 0 (.loop [0, 1, 5] ⟨[(5, (.v (.int .i64)))], [0, 1], []⟩ (.seq (.seq (.region 0 [
    ⟨(some 6), .move (.tmp 5), none, 0, none⟩,
    ⟨(some 7), .move (.tmp 0), none, 0, none⟩,
    ⟨(some 8), .len (.tmp 7), none, 0, none⟩,
    ⟨(some 9), .bin .lss (.tmp 6) (.tmp 8), none, 0, none⟩] []) (.cond (.tmp 9) (.skip) (.exit 0))) (.seq (.block 1 (.seq (.region 0 [
    ⟨(some 12), .move (.tmp 0), none, 0, (some [])⟩,
    ⟨(some 13), .move (.tmp 5), none, 0, (some [])⟩,
    ⟨(some 14), .indexSl 1 (.tmp 12) (.tmp 13), none, 0, (some [])⟩,
    ⟨(some 15), .load false 1 (.tmp 14), none, 0, (some [])⟩,
    ⟨(some 16), .bin .lss (.tmp 15) (.const (.int .i64 (0))), none, 0, (some [])⟩,
    ⟨(some 17), .move (.tmp 16), none, 0, (some [])⟩,
    ⟨(some 18), .move (.tmp 0), (some (17, false)), 0, (some [])⟩,
    ⟨(some 19), .move (.tmp 5), (some (17, false)), 0, (some [])⟩,
    ⟨(some 20), .indexSl 1 (.tmp 18) (.tmp 19), (some (17, false)), 0, (some [])⟩,
    ⟨(some 21), .load false 1 (.tmp 20), (some (17, false)), 0, (some [])⟩,
    ⟨(some 22), .move (.tmp 1), (some (17, false)), 0, (some [])⟩,
    ⟨(some 23), .bin .geq (.tmp 21) (.tmp 22), (some (17, false)), 0, (some [])⟩,
    ⟨(some 24), .pick (.tmp 17) (.const (.bool true)) (.tmp 23), none, 0, (some [])⟩,
    ⟨(some 25), .move (.tmp 24), none, 0, (some [])⟩,
    ⟨(some 26), .move (.tmp 5), (some (25, false)), 0, (some [])⟩,
    ⟨(some 27), .bin .gtr (.tmp 26) (.const (.int .i64 (0))), (some (25, false)), 0, (some [])⟩,
    ⟨(some 28), .move (.tmp 27), (some (25, false)), 0, (some [])⟩,
    ⟨(some 29), .move (.tmp 0), (some (28, true)), 0, (some [])⟩,
    ⟨(some 30), .move (.tmp 5), (some (28, true)), 0, (some [])⟩,
    ⟨(some 31), .bin .sub (.tmp 30) (.const (.int .i64 (1))), (some (28, true)), 0, (some [])⟩,
    ⟨(some 32), .indexSl 1 (.tmp 29) (.tmp 31), (some (28, true)), 0, (some [])⟩,
    ⟨(some 33), .load false 1 (.tmp 32), (some (28, true)), 0, (some [])⟩,
    ⟨(some 34), .move (.tmp 0), (some (28, true)), 0, (some [])⟩,
    ⟨(some 35), .move (.tmp 5), (some (28, true)), 0, (some [])⟩,
    ⟨(some 36), .indexSl 1 (.tmp 34) (.tmp 35), (some (28, true)), 0, (some [])⟩,
    ⟨(some 37), .load false 1 (.tmp 36), (some (28, true)), 0, (some [])⟩,
    ⟨(some 38), .bin .geq (.tmp 33) (.tmp 37), (some (28, true)), 0, (some [])⟩,
    ⟨(some 39), .pick (.tmp 28) (.tmp 38) (.const (.bool false)), (some (25, false)), 0, (some [])⟩,
    ⟨(some 40), .pick (.tmp 25) (.const (.bool true)) (.tmp 39), none, 0, (some [])⟩] []) (.cond (.tmp 40) (.seq (.region 0 [
    ⟨(some 4), .move (.const (.bool false)), none, 0, none⟩] []) (.ret)) (.skip)))) (.region 0 [
    ⟨(some 10), .move (.tmp 5), none, 0, none⟩,
    ⟨(some 11), .bin .add (.tmp 10) (.const (.int .i64 (1))), none, 0, none⟩,
    ⟨(some 5), .move (.tmp 11), none, 0, none⟩] [])))))) (.seq (.region 0 [
    ⟨(some 4), .move (.const (.bool true)), none, 0, none⟩] []) (.ret))), [.tmp 4], true⟩
def s126 : Sig := ⟨(.cons (.v (.list (.int .i64))) (.cons (.v (.int .i64)) .nil)), [], ((.v .bool), []), []⟩
def l126_0 (al0 : (List Int)) (below1 : Int) (next : ((Int × Unit) × Unit) → Option Bool) (i3 : Int) : Option Bool :=
  cond (decide (i3 < (List.length al0 : Int)))
    (cond (decide (0 ≤ i3))
      (Option.bind (al0[Int.toNat i3]?) fun y4 =>
      cond (decide (y4 < 0))
        (some false)
        (cond (decide (0 ≤ i3))
          (Option.bind (al0[Int.toNat i3]?) fun y5 =>
          cond (decide (below1 ≤ y5))
            (some false)
            (cond (decide (0 < i3))
              (cond (decide (0 ≤ (IntKind.wrap .i64 (i3 - 1))))
                (Option.bind (al0[Int.toNat (IntKind.wrap .i64 (i3 - 1))]?) fun y6 =>
                cond (decide (0 ≤ i3))
                  (Option.bind (al0[Int.toNat i3]?) fun y7 =>
                  cond (decide (y7 ≤ y6))
                    (some false)
                    (next ((IntKind.wrap .i64 (i3 + 1), ()), ())))
                  (none))
                (none))
              (next ((IntKind.wrap .i64 (i3 + 1), ()), ()))))
          (none)))
      (none))
    (some true)
def F126 (L : Lp)  (al0 : (List Int)) (below1 : Int) : Option Bool :=
  L (fun (s2 : ((Int × Unit) × Unit)) next => l126_0 al0 below1 next s2.1.1) ((0, ()), ())
theorem e126 (L : Lp)  (x : s126.args.den) (h : denH s126.heap) : nrun [] L n126 s126 x h = F126 L  x.1 x.2.1 := by kernel_rfl
def f126 : (List Int) → Int → Option Bool := F126 (@LN LOOPS) 
@[reducible] def t126 : Ent := ⟨126, s126, fun x h => f126 x.1 x.2.1⟩
theorem k126 : chkNF Try.prog Try.f126 n126 = true := by kernel_rfl
theorem ok126 : NOk Try.prog t126 := NOk.body (T := []) mixed nall_nil (oneEach_of (by kernel_rfl)) Try.func126 k126 (by kernel_rfl) (fun x h => e126 _  x h)
/- drayage/drayageref07.parts -/
def n120 : NFunc := ⟨34, .seq (.region 1 [
    ⟨(some 1), .box 18 (.tmp 0), none, 0, none⟩,
    ⟨(some 2), .move (.const (.bool false)), none, 1, none⟩] []) (.seq (.seq (.region 0 [
    ⟨(some 3), .move (.const (.int .i64 (0))), none, 0, none⟩] []) (.block 0 (.loop [1, 3] ⟨[(1, (.ptr 0 0 0)), (3, (.v (.int .i64)))], [], [.one false .spec]⟩ (.seq (.seq (.region 0 [
    ⟨(some 4), .move (.tmp 3), none, 0, none⟩,
    ⟨(some 5), .fieldAddr 1 (.tmp 1), none, 0, none⟩,
    ⟨(some 6), .load false 1 (.tmp 5), none, 0, none⟩,
    ⟨(some 7), .len (.tmp 6), none, 0, none⟩,
    ⟨(some 8), .bin .lss (.tmp 4) (.tmp 7), none, 0, none⟩] []) (.cond (.tmp 8) (.skip) (.exit 0))) (.seq (.block 1 (.seq (.region 4 [
    ⟨(some 11), .fieldAddr 1 (.tmp 1), none, 0, (some [])⟩,
    ⟨(some 12), .load false 1 (.tmp 11), none, 0, (some [])⟩,
    ⟨(some 13), .move (.tmp 3), none, 0, (some [])⟩,
    ⟨(some 14), .indexSl 1 (.tmp 12) (.tmp 13), none, 0, (some [])⟩,
    ⟨(some 15), .load false 1 (.tmp 14), none, 0, (some [])⟩,
    ⟨(some 16), .len (.tmp 15), none, 0, (some [])⟩,
    ⟨(some 17), .bin .lss (.tmp 16) (.const (.int .i64 (1))), none, 0, (some [])⟩,
    ⟨(some 18), .move (.tmp 17), none, 0, (some [])⟩,
    ⟨(some 19), .fieldAddr 1 (.tmp 1), (some (18, false)), 0, (some [])⟩,
    ⟨(some 20), .load false 1 (.tmp 19), (some (18, false)), 0, (some [])⟩,
    ⟨(some 21), .move (.tmp 3), (some (18, false)), 0, (some [])⟩,
    ⟨(some 22), .indexSl 1 (.tmp 20) (.tmp 21), (some (18, false)), 0, (some [])⟩,
    ⟨(some 23), .load false 1 (.tmp 22), (some (18, false)), 0, (some [])⟩,
    ⟨(some 24), .fieldAddr 0 (.tmp 1), (some (18, false)), 0, (some [])⟩,
    ⟨(some 25), .load false 1 (.tmp 24), (some (18, false)), 0, (some [])⟩,
    ⟨(some 26), .len (.tmp 25), (some (18, false)), 0, (some [])⟩,
    ⟨(some 27), .call (.func 126) [(false, (.tmp 23)), (false, (.tmp 26))] false 4, (some (18, false)), 0, (some [])⟩,
    ⟨(some 28), .un .not (.tmp 27), (some (18, false)), 4, (some [0, 1, 2, 3])⟩,
    ⟨(some 29), .pick (.tmp 18) (.const (.bool true)) (.tmp 28), none, 4, (some [0, 1, 2, 3])⟩] []) (.cond (.tmp 29) (.seq (.region 0 [
    ⟨(some 2), .move (.const (.bool false)), none, 0, none⟩] []) (.ret)) (.skip)))) (.region 0 [
    ⟨(some 9), .move (.tmp 3), none, 0, none⟩,
    ⟨(some 10), .bin .add (.tmp 9) (.const (.int .i64 (1))), none, 0, none⟩,
    ⟨(some 3), .move (.tmp 10), none, 0, none⟩] [])))))) (.seq (.region 4 [
    ⟨(some 30), .fieldAddr 1 (.tmp 1), none, 0, none⟩,
    ⟨(some 31), .load false 1 (.tmp 30), none, 0, none⟩,
    ⟨(some 32), .len (.tmp 31), none, 0, none⟩,
    ⟨(some 33), .call (.func 118) [(false, (.tmp 32)), (false, (.const (.int .i64 (1)))), (false, (.const (.int .i64 (8))))] false 4, none, 0, none⟩,
    ⟨(some 2), .move (.tmp 33), none, 4, none⟩] []) (.ret))), [.tmp 2], true⟩
def s120 : Sig := ⟨(.cons (.v .spec) .nil), [], ((.v .bool), []), []⟩
def l120_0 (g126 : (List Int) → Int → Option Bool) (g118 : Int → Int → Int → Option Bool) (next : ((Unit × (Int × Unit)) × (Spec × Unit)) → Option Bool) (i2 : Int) (z3 : Spec) : Option Bool :=
  cond (decide (i2 < (List.length z3.parts : Int)))
    (cond (decide (0 ≤ i2))
      (Option.bind (z3.parts[Int.toNat i2]?) fun y4 =>
      cond (decide ((List.length y4 : Int) < 1))
        (some false)
        (cond (decide (0 ≤ i2))
          (Option.bind (z3.parts[Int.toNat i2]?) fun y5 =>
          Option.bind (g126 y5 (List.length z3.nodes : Int)) fun r6 =>
          cond (!r6)
            (some false)
            (next (((), IntKind.wrap .i64 (i2 + 1), ()), (z3, ()))))
          (none)))
      (none))
    (Option.bind (g118 (List.length z3.parts : Int) 1 8) fun r7 =>
    some r7)
def F120 (L : Lp) (g126 : (List Int) → Int → Option Bool) (g118 : Int → Int → Int → Option Bool) (as0 : Spec) : Option Bool :=
  L (fun (s1 : ((Unit × (Int × Unit)) × (Spec × Unit))) next => l120_0 g126 g118 next s1.1.2.1 s1.2.1) (((), 0, ()), (as0, ()))
theorem e120 (L : Lp) (g126 : (List Int) → Int → Option Bool) (g118 : Int → Int → Int → Option Bool) (x : s120.args.den) (h : denH s120.heap) : nrun [⟨126, s126, fun x h => g126 x.1 x.2.1⟩, ⟨118, s118, fun x h => g118 x.1 x.2.1 x.2.2.1⟩] L n120 s120 x h = F120 L g126 g118 x.1 := by kernel_rfl
def f120 : Spec → Option Bool := F120 (@LN LOOPS) f126 f118
@[reducible] def t120 : Ent := ⟨120, s120, fun x h => f120 x.1⟩
theorem k120 : chkNF Try.prog Try.f120 n120 = true := by kernel_rfl
theorem ok120 : NOk Try.prog t120 := NOk.body (T := [t126, t118]) mixed (nall_cons ok126 (nall_cons ok118 nall_nil)) (oneEach_of (by kernel_rfl)) Try.func120 k120 (by kernel_rfl) (fun x h => e120 _ _ _ x h)
/- drayage/drayageref07.queues -/
def n121 : NFunc := ⟨64, .seq (.region 1 [
    ⟨(some 1), .box 18 (.tmp 0), none, 0, none⟩,
    ⟨(some 2), .move (.const (.bool false)), none, 1, none⟩] []) (.seq (.seq (.region 0 [
    ⟨(some 3), .move (.const (.int .i64 (0))), none, 0, none⟩] []) (.block 0 (.loop [1, 3] ⟨[(1, (.ptr 0 0 0)), (3, (.v (.int .i64)))], [], [.one false .spec]⟩ (.seq (.seq (.region 0 [
    ⟨(some 5), .move (.tmp 3), none, 0, none⟩,
    ⟨(some 6), .fieldAddr 2 (.tmp 1), none, 0, none⟩,
    ⟨(some 7), .load false 1 (.tmp 6), none, 0, none⟩,
    ⟨(some 8), .len (.tmp 7), none, 0, none⟩,
    ⟨(some 9), .bin .lss (.tmp 5) (.tmp 8), none, 0, none⟩] []) (.cond (.tmp 9) (.skip) (.exit 0))) (.seq (.block 1 (.seq (.region 1 [
    ⟨(some 12), .fieldAddr 2 (.tmp 1), none, 0, none⟩,
    ⟨(some 13), .load false 1 (.tmp 12), none, 0, none⟩,
    ⟨(some 14), .move (.tmp 3), none, 0, none⟩,
    ⟨(some 15), .indexSl 6 (.tmp 13) (.tmp 14), none, 0, none⟩,
    ⟨(some 16), .load true 6 (.tmp 15), none, 0, none⟩,
    ⟨(some 4), .alloc [.int .i64 (0), .zsl, .int .i64 (0), .int .i64 (0), .int .i64 (0), .int .i64 (0)], none, 0, none⟩,
    ⟨none, .store 6 (.tmp 4) (.tmp 16), none, 1, none⟩] []) (.seq (.region 20 [
    ⟨(some 17), .fieldAddr 0 (.tmp 4), none, 0, none⟩,
    ⟨(some 18), .load false 1 (.tmp 17), none, 0, none⟩,
    ⟨(some 19), .bin .lss (.tmp 18) (.const (.int .i64 (0))), none, 0, none⟩,
    ⟨(some 20), .move (.tmp 19), none, 0, none⟩,
    ⟨(some 21), .fieldAddr 0 (.tmp 4), (some (20, false)), 0, none⟩,
    ⟨(some 22), .load false 1 (.tmp 21), (some (20, false)), 0, none⟩,
    ⟨(some 23), .fieldAddr 1 (.tmp 1), (some (20, false)), 0, none⟩,
    ⟨(some 24), .load false 1 (.tmp 23), (some (20, false)), 0, none⟩,
    ⟨(some 25), .len (.tmp 24), (some (20, false)), 0, none⟩,
    ⟨(some 26), .bin .geq (.tmp 22) (.tmp 25), (some (20, false)), 0, none⟩,
    ⟨(some 27), .pick (.tmp 20) (.const (.bool true)) (.tmp 26), none, 0, none⟩,
    ⟨(some 28), .move (.tmp 27), none, 0, none⟩,
    ⟨(some 29), .fieldAddr 1 (.tmp 4), (some (28, false)), 0, none⟩,
    ⟨(some 30), .load false 1 (.tmp 29), (some (28, false)), 0, none⟩,
    ⟨(some 31), .fieldAddr 3 (.tmp 1), (some (28, false)), 0, none⟩,
    ⟨(some 32), .load false 1 (.tmp 31), (some (28, false)), 0, none⟩,
    ⟨(some 33), .call (.func 126) [(false, (.tmp 30)), (false, (.tmp 32))] false 4, (some (28, false)), 0, none⟩,
    ⟨(some 34), .un .not (.tmp 33), (some (28, false)), 4, none⟩,
    ⟨(some 35), .pick (.tmp 28) (.const (.bool true)) (.tmp 34), none, 4, none⟩,
    ⟨(some 36), .move (.tmp 35), none, 4, none⟩,
    ⟨(some 37), .fieldAddr 2 (.tmp 4), (some (36, false)), 4, none⟩,
    ⟨(some 38), .load false 1 (.tmp 37), (some (36, false)), 4, none⟩,
    ⟨(some 39), .call (.func 118) [(false, (.tmp 38)), (false, (.const (.int .i64 (1)))), (false, (.const (.int .i64 (256))))] false 4, (some (36, false)), 4, none⟩,
    ⟨(some 40), .un .not (.tmp 39), (some (36, false)), 8, none⟩,
    ⟨(some 41), .pick (.tmp 36) (.const (.bool true)) (.tmp 40), none, 8, none⟩,
    ⟨(some 42), .move (.tmp 41), none, 8, none⟩,
    ⟨(some 43), .fieldAddr 3 (.tmp 4), (some (42, false)), 8, none⟩,
    ⟨(some 44), .load false 1 (.tmp 43), (some (42, false)), 8, none⟩,
    ⟨(some 45), .call (.func 118) [(false, (.tmp 44)), (false, (.const (.int .i64 (1)))), (false, (.const (.int .i64 (256))))] false 4, (some (42, false)), 8, none⟩,
    ⟨(some 46), .un .not (.tmp 45), (some (42, false)), 12, none⟩,
    ⟨(some 47), .pick (.tmp 42) (.const (.bool true)) (.tmp 46), none, 12, none⟩,
    ⟨(some 48), .move (.tmp 47), none, 12, none⟩,
    ⟨(some 49), .fieldAddr 4 (.tmp 4), (some (48, false)), 12, none⟩,
    ⟨(some 50), .load false 1 (.tmp 49), (some (48, false)), 12, none⟩,
    ⟨(some 51), .call (.func 118) [(false, (.tmp 50)), (false, (.const (.int .i64 (1)))), (false, (.const (.int .i64 (256))))] false 4, (some (48, false)), 12, none⟩,
    ⟨(some 52), .un .not (.tmp 51), (some (48, false)), 16, none⟩,
    ⟨(some 53), .pick (.tmp 48) (.const (.bool true)) (.tmp 52), none, 16, none⟩,
    ⟨(some 54), .move (.tmp 53), none, 16, none⟩,
    ⟨(some 55), .fieldAddr 5 (.tmp 4), (some (54, false)), 16, none⟩,
    ⟨(some 56), .load false 1 (.tmp 55), (some (54, false)), 16, none⟩,
    ⟨(some 57), .call (.func 118) [(false, (.tmp 56)), (false, (.const (.int .i64 (0)))), (false, (.const (.int .i64 (100))))] false 4, (some (54, false)), 16, none⟩,
    ⟨(some 58), .un .not (.tmp 57), (some (54, false)), 20, none⟩,
    ⟨(some 59), .pick (.tmp 54) (.const (.bool true)) (.tmp 58), none, 20, none⟩] []) (.cond (.tmp 59) (.seq (.region 0 [
    ⟨(some 2), .move (.const (.bool false)), none, 0, none⟩] []) (.ret)) (.skip))))) (.region 0 [
    ⟨(some 10), .move (.tmp 3), none, 0, none⟩,
    ⟨(some 11), .bin .add (.tmp 10) (.const (.int .i64 (1))), none, 0, none⟩,
    ⟨(some 3), .move (.tmp 11), none, 0, none⟩] [])))))) (.seq (.region 4 [
    ⟨(some 60), .fieldAddr 2 (.tmp 1), none, 0, none⟩,
    ⟨(some 61), .load false 1 (.tmp 60), none, 0, none⟩,
    ⟨(some 62), .len (.tmp 61), none, 0, none⟩,
    ⟨(some 63), .call (.func 118) [(false, (.tmp 62)), (false, (.const (.int .i64 (1)))), (false, (.const (.int .i64 (8))))] false 4, none, 0, none⟩,
    ⟨(some 2), .move (.tmp 63), none, 4, none⟩] []) (.ret))), [.tmp 2], true⟩
def s121 : Sig := ⟨(.cons (.v .spec) .nil), [], ((.v .bool), []), []⟩
def l121_0 (g126 : (List Int) → Int → Option Bool) (g118 : Int → Int → Int → Option Bool) (next : ((Unit × (Int × Unit)) × (Spec × Unit)) → Option Bool) (i2 : Int) (z3 : Spec) : Option Bool :=
  cond (decide (i2 < (List.length z3.queues : Int)))
    (cond (decide (0 ≤ i2))
      (Option.bind (z3.queues[Int.toNat i2]?) fun y4 =>
      cond (decide (y4.part < 0))
        (some false)
        (cond (decide ((List.length z3.parts : Int) ≤ y4.part))
          (some false)
          (Option.bind (g126 y4.users z3.users) fun r5 =>
          cond (!r5)
            (some false)
            (Option.bind (g118 y4.maxJobs 1 256) fun r6 =>
            cond (!r6)
              (some false)
              (Option.bind (g118 y4.maxRun 1 256) fun r7 =>
              cond (!r7)
                (some false)
                (Option.bind (g118 y4.maxUser 1 256) fun r8 =>
                cond (!r8)
                  (some false)
                  (Option.bind (g118 y4.qos 0 100) fun r9 =>
                  cond (!r9)
                    (some false)
                    (next (((), IntKind.wrap .i64 (i2 + 1), ()), (z3, ()))))))))))
      (none))
    (Option.bind (g118 (List.length z3.queues : Int) 1 8) fun r10 =>
    some r10)
def F121 (L : Lp) (g126 : (List Int) → Int → Option Bool) (g118 : Int → Int → Int → Option Bool) (as0 : Spec) : Option Bool :=
  L (fun (s1 : ((Unit × (Int × Unit)) × (Spec × Unit))) next => l121_0 g126 g118 next s1.1.2.1 s1.2.1) (((), 0, ()), (as0, ()))
theorem e121 (L : Lp) (g126 : (List Int) → Int → Option Bool) (g118 : Int → Int → Int → Option Bool) (x : s121.args.den) (h : denH s121.heap) : nrun [⟨126, s126, fun x h => g126 x.1 x.2.1⟩, ⟨118, s118, fun x h => g118 x.1 x.2.1 x.2.2.1⟩] L n121 s121 x h = F121 L g126 g118 x.1 := by kernel_rfl
def f121 : Spec → Option Bool := F121 (@LN LOOPS) f126 f118
@[reducible] def t121 : Ent := ⟨121, s121, fun x h => f121 x.1⟩
theorem k121 : chkNF Try.prog Try.f121 n121 = true := by kernel_rfl
theorem ok121 : NOk Try.prog t121 := NOk.body (T := [t126, t118]) mixed (nall_cons ok126 (nall_cons ok118 nall_nil)) (oneEach_of (by kernel_rfl)) Try.func121 k121 (by kernel_rfl) (fun x h => e121 _ _ _ x h)
/- drayage/drayageref07.Flaw -/
def n108 : NFunc := ⟨83, .seq (.region 1 [
    ⟨(some 1), .box 18 (.tmp 0), none, 0, none⟩,
    ⟨(some 2), .move (.const (.str [])), none, 1, none⟩] []) (.seq (.region 1 [
    ⟨(some 8), .fieldAddr 4 (.tmp 1), none, 0, none⟩,
    ⟨(some 9), .load true 4 (.tmp 8), none, 0, none⟩,
    ⟨(some 3), .alloc [.int .i64 (0), .int .i64 (0), .int .i64 (0), .int .i64 (0)], none, 0, none⟩,
    ⟨none, .store 4 (.tmp 3) (.tmp 9), none, 1, none⟩] []) (.seq (.meet [1, 4] [] ⟨[(1, (.ptr 0 0 0)), (4, (.v .bool))], [], [.one false .spec]⟩ (.region 16 [
    ⟨(some 10), .fieldAddr 0 (.tmp 3), none, 0, none⟩,
    ⟨(some 11), .load false 1 (.tmp 10), none, 0, none⟩,
    ⟨(some 12), .call (.func 118) [(false, (.tmp 11)), (false, (.const (.int .i64 (0)))), (false, (.const (.int .i64 (1000))))] false 4, none, 0, none⟩,
    ⟨(some 13), .move (.tmp 12), none, 4, none⟩,
    ⟨(some 14), .fieldAddr 1 (.tmp 3), (some (13, true)), 4, none⟩,
    ⟨(some 15), .load false 1 (.tmp 14), (some (13, true)), 4, none⟩,
    ⟨(some 16), .call (.func 118) [(false, (.tmp 15)), (false, (.const (.int .i64 (0)))), (false, (.const (.int .i64 (1000))))] false 4, (some (13, true)), 4, none⟩,
    ⟨(some 17), .pick (.tmp 13) (.tmp 16) (.const (.bool false)), none, 8, none⟩,
    ⟨(some 18), .move (.tmp 17), none, 8, none⟩,
    ⟨(some 19), .fieldAddr 2 (.tmp 3), (some (18, true)), 8, none⟩,
    ⟨(some 20), .load false 1 (.tmp 19), (some (18, true)), 8, none⟩,
    ⟨(some 21), .call (.func 118) [(false, (.tmp 20)), (false, (.const (.int .i64 (0)))), (false, (.const (.int .i64 (1000))))] false 4, (some (18, true)), 8, none⟩,
    ⟨(some 22), .pick (.tmp 18) (.tmp 21) (.const (.bool false)), none, 12, none⟩,
    ⟨(some 23), .move (.tmp 22), none, 12, none⟩,
    ⟨(some 24), .fieldAddr 3 (.tmp 3), (some (23, true)), 12, none⟩,
    ⟨(some 25), .load false 1 (.tmp 24), (some (23, true)), 12, none⟩,
    ⟨(some 26), .call (.func 118) [(false, (.tmp 25)), (false, (.const (.int .i64 (0)))), (false, (.const (.int .i64 (1000))))] false 4, (some (23, true)), 12, none⟩,
    ⟨(some 27), .pick (.tmp 23) (.tmp 26) (.const (.bool false)), none, 16, none⟩,
    ⟨(some 4), .move (.tmp 27), none, 16, none⟩] [])) (.seq (.region 1 [
    ⟨(some 28), .buildSlice 1 15 true [.str []] [(0, (.const (.str [78, 111, 100, 101, 115]))), (1, (.const (.str [80, 97, 114, 116, 115]))), (2, (.const (.str [85, 115, 101, 114, 115]))), (3, (.const (.str [81, 117, 101, 117, 101, 115]))), (4, (.const (.str [87, 101, 105, 103, 104, 116, 115]))), (5, (.const (.str [68, 101, 99, 97, 121]))), (6, (.const (.str [77, 111, 100, 101]))), (7, (.const (.str [74, 111, 98, 115]))), (8, (.const (.str [73, 100, 115]))), (9, (.const (.str [86, 101, 114, 115, 105, 111, 110, 115]))), (10, (.const (.str [76, 105, 110, 103, 101, 114]))), (11, (.const (.str [75, 101, 101, 112]))), (12, (.const (.str [73, 110]))), (13, (.const (.str [79, 117, 116]))), (14, (.const (.str [67, 97, 99, 104, 101])))], none, 0, none⟩,
    ⟨(some 5), .move (.tmp 28), none, 1, none⟩] []) (.seq (.region 57 [
    ⟨(some 29), .load true 18 (.tmp 1), none, 0, (some [])⟩,
    ⟨(some 30), .call (.func 119) [(false, (.tmp 29))] true 4, none, 0, (some [])⟩,
    ⟨(some 31), .load true 18 (.tmp 1), none, 4, (some [])⟩,
    ⟨(some 32), .call (.func 120) [(false, (.tmp 31))] true 4, none, 4, (some [0, 1, 2, 3])⟩,
    ⟨(some 33), .fieldAddr 3 (.tmp 1), none, 8, (some [])⟩,
    ⟨(some 34), .load false 1 (.tmp 33), none, 8, (some [])⟩,
    ⟨(some 35), .call (.func 118) [(false, (.tmp 34)), (false, (.const (.int .i64 (1)))), (false, (.const (.int .i64 (8))))] true 4, none, 8, (some [0, 1, 2, 3, 4, 5, 6, 7])⟩,
    ⟨(some 36), .load true 18 (.tmp 1), none, 12, (some [])⟩,
    ⟨(some 37), .call (.func 121) [(false, (.tmp 36))] true 4, none, 12, (some [0, 1, 2, 3, 4, 5, 6, 7, 8, 9, 10, 11])⟩,
    ⟨(some 38), .move (.tmp 4), none, 16, (some [])⟩,
    ⟨(some 39), .fieldAddr 8 (.tmp 1), none, 16, (some [])⟩,
    ⟨(some 40), .load false 1 (.tmp 39), none, 16, (some [])⟩,
    ⟨(some 41), .call (.func 118) [(false, (.tmp 40)), (false, (.const (.int .i64 (1)))), (false, (.const (.int .i64 (16))))] true 4, none, 16, (some [0, 1, 2, 3, 4, 5, 6, 7, 8, 9, 10, 11, 12, 13, 14, 15])⟩,
    ⟨(some 42), .fieldAddr 9 (.tmp 1), none, 20, (some [])⟩,
    ⟨(some 43), .load false 1 (.tmp 42), none, 20, (some [])⟩,
    ⟨(some 44), .call (.func 118) [(false, (.tmp 43)), (false, (.const (.int .i64 (1)))), (false, (.const (.int .i64 (2))))] true 4, none, 20, (some [0, 1, 2, 3, 4, 5, 6, 7, 8, 9, 10, 11, 12, 13, 14, 15, 16, 17, 18, 19])⟩,
    ⟨(some 45), .fieldAddr 10 (.tmp 1), none, 24, (some [])⟩,
    ⟨(some 46), .load false 1 (.tmp 45), none, 24, (some [])⟩,
    ⟨(some 47), .call (.func 118) [(false, (.tmp 46)), (false, (.const (.int .i64 (1)))), (false, (.const (.int .i64 (256))))] true 4, none, 24, (some [0, 1, 2, 3, 4, 5, 6, 7, 8, 9, 10, 11, 12, 13, 14, 15, 16, 17, 18, 19, 20, 21, 22, 23])⟩,
    ⟨(some 48), .fieldAddr 11 (.tmp 1), none, 28, (some [])⟩,
    ⟨(some 49), .load false 1 (.tmp 48), none, 28, (some [])⟩,
    ⟨(some 50), .call (.func 118) [(false, (.tmp 49)), (false, (.const (.int .i64 (1)))), (false, (.const (.int .i64 (1048576))))] true 4, none, 28, (some [0, 1, 2, 3, 4, 5, 6, 7, 8, 9, 10, 11, 12, 13, 14, 15, 16, 17, 18, 19, 20, 21, 22, 23, 24, 25, 26, 27])⟩,
    ⟨(some 51), .fieldAddr 12 (.tmp 1), none, 32, (some [])⟩,
    ⟨(some 52), .load false 1 (.tmp 51), none, 32, (some [])⟩,
    ⟨(some 53), .call (.func 118) [(false, (.tmp 52)), (false, (.const (.int .i64 (1)))), (false, (.const (.int .i64 (65536))))] true 4, none, 32, (some [0, 1, 2, 3, 4, 5, 6, 7, 8, 9, 10, 11, 12, 13, 14, 15, 16, 17, 18, 19, 20, 21, 22, 23, 24, 25, 26, 27, 28, 29, 30, 31])⟩,
    ⟨(some 54), .fieldAddr 13 (.tmp 1), none, 36, (some [])⟩,
    ⟨(some 55), .load false 1 (.tmp 54), none, 36, (some [])⟩,
    ⟨(some 56), .call (.func 118) [(false, (.tmp 55)), (false, (.const (.int .i64 (0)))), (false, (.const (.int .i64 (65536))))] true 4, none, 36, (some [0, 1, 2, 3, 4, 5, 6, 7, 8, 9, 10, 11, 12, 13, 14, 15, 16, 17, 18, 19, 20, 21, 22, 23, 24, 25, 26, 27, 28, 29, 30, 31, 32, 33, 34, 35])⟩,
    ⟨(some 57), .fieldAddr 14 (.tmp 1), none, 40, (some [])⟩,
    ⟨(some 58), .load false 1 (.tmp 57), none, 40, (some [])⟩,
    ⟨(some 59), .call (.func 118) [(false, (.tmp 58)), (false, (.const (.int .i64 (1)))), (false, (.const (.int .i64 (16))))] true 4, none, 40, (some [0, 1, 2, 3, 4, 5, 6, 7, 8, 9, 10, 11, 12, 13, 14, 15, 16, 17, 18, 19, 20, 21, 22, 23, 24, 25, 26, 27, 28, 29, 30, 31, 32, 33, 34, 35, 36, 37, 38, 39])⟩,
    ⟨(some 60), .fieldAddr 15 (.tmp 1), none, 44, (some [])⟩,
    ⟨(some 61), .load false 1 (.tmp 60), none, 44, (some [])⟩,
    ⟨(some 62), .call (.func 118) [(false, (.tmp 61)), (false, (.const (.int .i64 (1)))), (false, (.const (.int .i64 (8))))] true 4, none, 44, (some [0, 1, 2, 3, 4, 5, 6, 7, 8, 9, 10, 11, 12, 13, 14, 15, 16, 17, 18, 19, 20, 21, 22, 23, 24, 25, 26, 27, 28, 29, 30, 31, 32, 33, 34, 35, 36, 37, 38, 39, 40, 41, 42, 43])⟩,
    ⟨(some 63), .fieldAddr 16 (.tmp 1), none, 48, (some [])⟩,
    ⟨(some 64), .load false 1 (.tmp 63), none, 48, (some [])⟩,
    ⟨(some 65), .call (.func 118) [(false, (.tmp 64)), (false, (.const (.int .i64 (1)))), (false, (.const (.int .i64 (16))))] true 4, none, 48, (some [0, 1, 2, 3, 4, 5, 6, 7, 8, 9, 10, 11, 12, 13, 14, 15, 16, 17, 18, 19, 20, 21, 22, 23, 24, 25, 26, 27, 28, 29, 30, 31, 32, 33, 34, 35, 36, 37, 38, 39, 40, 41, 42, 43, 44, 45, 46, 47])⟩,
    ⟨(some 66), .fieldAddr 17 (.tmp 1), none, 52, (some [])⟩,
    ⟨(some 67), .load false 1 (.tmp 66), none, 52, (some [])⟩,
    ⟨(some 68), .call (.func 118) [(false, (.tmp 67)), (false, (.const (.int .i64 (0)))), (false, (.const (.int .i64 (16))))] false 4, none, 52, (some [0, 1, 2, 3, 4, 5, 6, 7, 8, 9, 10, 11, 12, 13, 14, 15, 16, 17, 18, 19, 20, 21, 22, 23, 24, 25, 26, 27, 28, 29, 30, 31, 32, 33, 34, 35, 36, 37, 38, 39, 40, 41, 42, 43, 44, 45, 46, 47, 48, 49, 50, 51])⟩,
    ⟨(some 69), .buildSlice 1 15 true [.bool false] [(0, (.tmp 30)), (1, (.tmp 32)), (2, (.tmp 35)), (3, (.tmp 37)), (4, (.tmp 38)), (5, (.tmp 41)), (6, (.tmp 44)), (7, (.tmp 47)), (8, (.tmp 50)), (9, (.tmp 53)), (10, (.tmp 56)), (11, (.tmp 59)), (12, (.tmp 62)), (13, (.tmp 65)), (14, (.tmp 68))], none, 56, (some [0, 1, 2, 3, 4, 5, 6, 7, 8, 9, 10, 11, 12, 13, 14, 15, 16, 17, 18, 19, 20, 21, 22, 23, 24, 25, 26, 27, 28, 29, 30, 31, 32, 33, 34, 35, 36, 37, 38, 39, 40, 41, 42, 43, 44, 45, 46, 47, 48, 49, 50, 51, 52, 53, 54, 55])⟩,
    ⟨(some 6), .move (.tmp 69), none, 57, (some [0, 1, 2, 3, 4, 5, 6, 7, 8, 9, 10, 11, 12, 13, 14, 15, 16, 17, 18, 19, 20, 21, 22, 23, 24, 25, 26, 27, 28, 29, 30, 31, 32, 33, 34, 35, 36, 37, 38, 39, 40, 41, 42, 43, 44, 45, 46, 47, 48, 49, 50, 51, 52, 53, 54, 55, 56])⟩] []) (.seq (.seq (.region 0 [
    ⟨(some 7), .move (.const (.int .i64 (0))), none, 0, none⟩] []) (.block 0 (.loopU [5, 6, 7] 16 (.seq (.seq (.region 0 [
    ⟨(some 70), .move (.tmp 7), none, 0, none⟩,
    ⟨(some 71), .bin .lss (.tmp 70) (.const (.int .i64 (15))), none, 0, none⟩] []) (.cond (.tmp 71) (.skip) (.exit 0))) (.seq (.block 1 (.seq (.region 0 [
    ⟨(some 74), .move (.tmp 6), none, 0, none⟩,
    ⟨(some 75), .move (.tmp 7), none, 0, none⟩,
    ⟨(some 76), .indexSl 1 (.tmp 74) (.tmp 75), none, 0, none⟩,
    ⟨(some 77), .load false 1 (.tmp 76), none, 0, none⟩,
    ⟨(some 78), .un .not (.tmp 77), none, 0, none⟩] []) (.cond (.tmp 78) (.seq (.region 0 [
    ⟨(some 79), .move (.tmp 5), none, 0, none⟩,
    ⟨(some 80), .move (.tmp 7), none, 0, none⟩,
    ⟨(some 81), .indexSl 1 (.tmp 79) (.tmp 80), none, 0, none⟩,
    ⟨(some 82), .load false 1 (.tmp 81), none, 0, none⟩,
    ⟨(some 2), .move (.tmp 82), none, 0, none⟩] []) (.ret)) (.skip)))) (.region 0 [
    ⟨(some 72), .move (.tmp 7), none, 0, none⟩,
    ⟨(some 73), .bin .add (.tmp 72) (.const (.int .i64 (1))), none, 0, none⟩,
    ⟨(some 7), .move (.tmp 73), none, 0, none⟩] [])))))) (.seq (.region 0 [
    ⟨(some 2), .move (.const (.str [])), none, 0, none⟩] []) (.ret))))))), [.tmp 2], true⟩
def s108 : Sig := ⟨(.cons (.v .spec) .nil), [], ((.v .str), []), []⟩
def F108 (L : Lp) (g118 : Int → Int → Int → Option Bool) (g119 : Spec → Option Bool) (g120 : Spec → Option Bool) (g121 : Spec → Option Bool) (as0 : Spec) : Option (List UInt8) :=
  Option.bind (α := ((Unit × (Bool × Unit)) × (Spec × Unit)))
    (Option.bind (g118 as0.weights.age 0 1000) fun r1 =>
    cond r1
      (Option.bind (g118 as0.weights.size 0 1000) fun r2 =>
      cond r2
        (Option.bind (g118 as0.weights.qos 0 1000) fun r3 =>
        cond r3
          (Option.bind (g118 as0.weights.share 0 1000) fun r4 =>
          some (((), r4, ()), (as0, ())))
          (some (((), false, ()), (as0, ()))))
        (some (((), false, ()), (as0, ()))))
      (some (((), false, ()), (as0, ())))) fun x5 =>
  Option.bind (g119 x5.2.1) fun r6 =>
  Option.bind (g120 x5.2.1) fun r7 =>
  Option.bind (g118 x5.2.1.users 1 8) fun r8 =>
  Option.bind (g121 x5.2.1) fun r9 =>
  Option.bind (g118 x5.2.1.decay 1 16) fun r10 =>
  Option.bind (g118 x5.2.1.mode 1 2) fun r11 =>
  Option.bind (g118 x5.2.1.jobs 1 256) fun r12 =>
  Option.bind (g118 x5.2.1.ids 1 1048576) fun r13 =>
  Option.bind (g118 x5.2.1.versions 1 65536) fun r14 =>
  Option.bind (g118 x5.2.1.linger 0 65536) fun r15 =>
  Option.bind (g118 x5.2.1.keep 1 16) fun r16 =>
  Option.bind (g118 x5.2.1.inn 1 8) fun r17 =>
  Option.bind (g118 x5.2.1.out 1 16) fun r18 =>
  Option.bind (g118 x5.2.1.cache 0 16) fun r19 =>
  cond (!r6)
    (some ([78, 111, 100, 101, 115] : List UInt8))
    (cond (!r7)
      (some ([80, 97, 114, 116, 115] : List UInt8))
      (cond (!r8)
        (some ([85, 115, 101, 114, 115] : List UInt8))
        (cond (!r9)
          (some ([81, 117, 101, 117, 101, 115] : List UInt8))
          (cond (!x5.1.2.1)
            (some ([87, 101, 105, 103, 104, 116, 115] : List UInt8))
            (cond (!r10)
              (some ([68, 101, 99, 97, 121] : List UInt8))
              (cond (!r11)
                (some ([77, 111, 100, 101] : List UInt8))
                (cond (!r12)
                  (some ([74, 111, 98, 115] : List UInt8))
                  (cond (!r13)
                    (some ([73, 100, 115] : List UInt8))
                    (cond (!r14)
                      (some ([86, 101, 114, 115, 105, 111, 110, 115] : List UInt8))
                      (cond (!r15)
                        (some ([76, 105, 110, 103, 101, 114] : List UInt8))
                        (cond (!r16)
                          (some ([75, 101, 101, 112] : List UInt8))
                          (cond (!r17)
                            (some ([73, 110] : List UInt8))
                            (cond (!r18)
                              (some ([79, 117, 116] : List UInt8))
                              (cond (!r19)
                                (some ([67, 97, 99, 104, 101] : List UInt8))
                                (some ([] : List UInt8))))))))))))))))
theorem e108 (L : Lp) (g118 : Int → Int → Int → Option Bool) (g119 : Spec → Option Bool) (g120 : Spec → Option Bool) (g121 : Spec → Option Bool) (x : s108.args.den) (h : denH s108.heap) : nrun [⟨118, s118, fun x h => g118 x.1 x.2.1 x.2.2.1⟩, ⟨119, s119, fun x h => g119 x.1⟩, ⟨120, s120, fun x h => g120 x.1⟩, ⟨121, s121, fun x h => g121 x.1⟩] L n108 s108 x h = F108 L g118 g119 g120 g121 x.1 := by kernel_rfl
def f108 : Spec → Option (List UInt8) := F108 (@LN LOOPS) f118 f119 f120 f121
@[reducible] def t108 : Ent := ⟨108, s108, fun x h => f108 x.1⟩
theorem k108 : chkNF Try.prog Try.f108 n108 = true := by kernel_rfl
theorem ok108 : NOk Try.prog t108 := NOk.body (T := [t118, t119, t120, t121]) mixed (nall_cons ok118 (nall_cons ok119 (nall_cons ok120 (nall_cons ok121 nall_nil)))) (oneEach_of (by kernel_rfl)) Try.func108 k108 (by kernel_rfl) (fun x h => e108 _ _ _ _ _ x h)
/- drayage/drayageref07.Right -/
def n70 : NFunc := ⟨6, .seq (.region 1 [
    ⟨(some 1), .box 18 (.tmp 0), none, 0, none⟩,
    ⟨(some 2), .move (.const (.bool false)), none, 1, none⟩] []) (.seq (.region 4 [
    ⟨(some 3), .load true 18 (.tmp 1), none, 0, none⟩,
    ⟨(some 4), .call (.func 108) [(false, (.tmp 3))] false 4, none, 0, none⟩,
    ⟨(some 5), .bin .eql (.tmp 4) (.const (.str [])), none, 4, none⟩,
    ⟨(some 2), .move (.tmp 5), none, 4, none⟩] []) (.ret)), [.tmp 2], true⟩
def s70 : Sig := ⟨(.cons (.v .spec) .nil), [], ((.v .bool), []), []⟩
def F70 (L : Lp) (g108 : Spec → Option (List UInt8)) (as0 : Spec) : Option Bool :=
  Option.bind (g108 as0) fun r1 =>
  some (decide (r1 = ([] : List UInt8)))
theorem e70 (L : Lp) (g108 : Spec → Option (List UInt8)) (x : s70.args.den) (h : denH s70.heap) : nrun [⟨108, s108, fun x h => g108 x.1⟩] L n70 s70 x h = F70 L g108 x.1 := by kernel_rfl
def f70 : Spec → Option Bool := F70 (@LN LOOPS) f108
@[reducible] def t70 : Ent := ⟨70, s70, fun x h => f70 x.1⟩
theorem k70 : chkNF Try.prog Try.f70 n70 = true := by kernel_rfl
theorem ok70 : NOk Try.prog t70 := NOk.body (T := [t108]) mixed (nall_cons ok108 nall_nil) (oneEach_of (by kernel_rfl)) Try.func70 k70 (by kernel_rfl) (fun x h => e70 _ _ x h)
/- drayage/drayagelaw21.PrioOrder -/
def n12 : NFunc := ⟨65, .seq (.region 3 [
    ⟨(some 3), .box 18 (.tmp 0), none, 0, none⟩,
    ⟨(some 4), .box 18 (.tmp 1), none, 1, none⟩,
    ⟨(some 5), .box 4 (.tmp 2), none, 2, none⟩,
    ⟨(some 6), .move (.const (.bool false)), none, 3, none⟩] []) (.seq (.seq (.region 4 [
    ⟨(some 12), .call (.func 68) [] false 4, none, 0, none⟩,
    ⟨(some 13), .un .not (.tmp 12), none, 4, none⟩] []) (.cond (.tmp 13) (.seq (.region 0 [
    ⟨(some 6), .move (.const (.bool false)), none, 0, none⟩] []) (.ret)) (.skip))) (.seq (.seq (.region 8 [
    ⟨(some 14), .load true 18 (.tmp 3), none, 0, none⟩,
    ⟨(some 15), .call (.func 69) [(false, (.tmp 14))] false 4, none, 0, none⟩,
    ⟨(some 16), .un .not (.tmp 15), none, 4, none⟩,
    ⟨(some 17), .move (.tmp 16), none, 4, none⟩,
    ⟨(some 18), .load true 18 (.tmp 3), (some (17, false)), 4, none⟩,
    ⟨(some 19), .call (.func 70) [(false, (.tmp 18))] false 4, (some (17, false)), 4, none⟩,
    ⟨(some 20), .un .not (.tmp 19), (some (17, false)), 8, none⟩,
    ⟨(some 21), .pick (.tmp 17) (.const (.bool true)) (.tmp 20), none, 8, none⟩] []) (.cond (.tmp 21) (.seq (.region 0 [
    ⟨(some 6), .move (.const (.bool true)), none, 0, none⟩] []) (.ret)) (.skip))) (.seq (.region 0 [
    ⟨(some 22), .indexArr 4 1 (.tmp 5) (.const (.int .i64 (0))), none, 0, (some [])⟩,
    ⟨(some 23), .load false 1 (.tmp 22), none, 0, (some [])⟩,
    ⟨(some 24), .indexArr 4 1 (.tmp 5) (.const (.int .i64 (1))), none, 0, (some [])⟩,
    ⟨(some 25), .load false 1 (.tmp 24), none, 0, (some [])⟩,
    ⟨(some 26), .indexArr 4 1 (.tmp 5) (.const (.int .i64 (2))), none, 0, (some [])⟩,
    ⟨(some 27), .load false 1 (.tmp 26), none, 0, (some [])⟩,
    ⟨(some 28), .indexArr 4 1 (.tmp 5) (.const (.int .i64 (3))), none, 0, (some [])⟩,
    ⟨(some 29), .load false 1 (.tmp 28), none, 0, (some [])⟩,
    ⟨(some 7), .move (.tmp 23), none, 0, (some [])⟩,
    ⟨(some 8), .move (.tmp 25), none, 0, (some [])⟩,
    ⟨(some 9), .move (.tmp 27), none, 0, (some [])⟩,
    ⟨(some 10), .move (.tmp 29), none, 0, (some [])⟩] []) (.seq (.meet [7, 4, 3, 8, 9, 10] [] ⟨[(3, (.ptr 0 0 0)), (4, (.ptr 1 0 0)), (7, (.v (.int .i64))), (8, (.v (.int .i64)))], [9, 10], [.one false .spec, .one false .job]⟩ (.seq (.region 0 [
    ⟨(some 30), .move (.tmp 7), none, 0, none⟩,
    ⟨(some 31), .move (.tmp 8), none, 0, none⟩,
    ⟨(some 32), .bin .gtr (.tmp 30) (.tmp 31), none, 0, none⟩] []) (.cond (.tmp 32) (.region 0 [
    ⟨(some 33), .move (.tmp 8), none, 0, none⟩,
    ⟨(some 34), .move (.tmp 7), none, 0, none⟩,
    ⟨(some 7), .move (.tmp 33), none, 0, none⟩,
    ⟨(some 8), .move (.tmp 34), none, 0, none⟩] []) (.skip)))) (.seq (.meet [10, 7, 4, 3, 9, 8] [] ⟨[(3, (.ptr 0 0 0)), (4, (.ptr 1 0 0)), (9, (.v (.int .i64))), (10, (.v (.int .i64)))], [7, 8], [.one false .spec, .one false .job]⟩ (.seq (.region 0 [
    ⟨(some 35), .move (.tmp 9), none, 0, none⟩,
    ⟨(some 36), .move (.tmp 10), none, 0, none⟩,
    ⟨(some 37), .bin .gtr (.tmp 35) (.tmp 36), none, 0, none⟩] []) (.cond (.tmp 37) (.region 0 [
    ⟨(some 38), .move (.tmp 10), none, 0, none⟩,
    ⟨(some 39), .move (.tmp 9), none, 0, none⟩,
    ⟨(some 9), .move (.tmp 38), none, 0, none⟩,
    ⟨(some 10), .move (.tmp 39), none, 0, none⟩] []) (.skip)))) (.seq (.region 0 [
    ⟨(some 40), .fieldAddr 1 (.tmp 4), none, 0, none⟩,
    ⟨none, .store 1 (.tmp 40) (.const (.int .i64 (0))), none, 0, none⟩] []) (.seq (.region 5 [
    ⟨(some 41), .load true 18 (.tmp 3), none, 0, none⟩,
    ⟨(some 42), .load true 18 (.tmp 4), none, 0, none⟩,
    ⟨(some 43), .move (.tmp 7), none, 0, none⟩,
    ⟨(some 44), .move (.tmp 9), none, 0, none⟩,
    ⟨(some 45), .buildSlice 1 1 true [.int .i64 (0)] [(0, (.tmp 44))], none, 0, none⟩,
    ⟨(some 46), .call (.func 71) [(false, (.tmp 41)), (false, (.tmp 42)), (false, (.tmp 43)), (false, (.tmp 45))] false 4, none, 1, none⟩,
    ⟨(some 11), .move (.tmp 46), none, 5, none⟩] []) (.seq (.region 10 [
    ⟨(some 47), .load true 18 (.tmp 3), none, 0, none⟩,
    ⟨(some 48), .load true 18 (.tmp 4), none, 0, none⟩,
    ⟨(some 49), .move (.tmp 8), none, 0, none⟩,
    ⟨(some 50), .move (.tmp 9), none, 0, none⟩,
    ⟨(some 51), .buildSlice 1 1 true [.int .i64 (0)] [(0, (.tmp 50))], none, 0, none⟩,
    ⟨(some 52), .call (.func 71) [(false, (.tmp 47)), (false, (.tmp 48)), (false, (.tmp 49)), (false, (.tmp 51))] false 4, none, 1, none⟩,
    ⟨(some 53), .move (.tmp 11), none, 5, none⟩,
    ⟨(some 54), .bin .geq (.tmp 52) (.tmp 53), none, 5, none⟩,
    ⟨(some 55), .move (.tmp 54), none, 5, none⟩,
    ⟨(some 56), .load true 18 (.tmp 3), (some (55, true)), 5, none⟩,
    ⟨(some 57), .load true 18 (.tmp 4), (some (55, true)), 5, none⟩,
    ⟨(some 58), .move (.tmp 7), (some (55, true)), 5, none⟩,
    ⟨(some 59), .move (.tmp 10), (some (55, true)), 5, none⟩,
    ⟨(some 60), .buildSlice 1 1 true [.int .i64 (0)] [(0, (.tmp 59))], (some (55, true)), 5, none⟩,
    ⟨(some 61), .call (.func 71) [(false, (.tmp 56)), (false, (.tmp 57)), (false, (.tmp 58)), (false, (.tmp 60))] false 4, (some (55, true)), 6, none⟩,
    ⟨(some 62), .move (.tmp 11), (some (55, true)), 10, none⟩,
    ⟨(some 63), .bin .leq (.tmp 61) (.tmp 62), (some (55, true)), 10, none⟩,
    ⟨(some 64), .pick (.tmp 55) (.tmp 63) (.const (.bool false)), none, 10, none⟩,
    ⟨(some 6), .move (.tmp 64), none, 10, none⟩] []) (.ret))))))))), [.tmp 6], true⟩
def s12 : Sig := ⟨(.cons (.v .spec) (.cons (.v .job) (.cons (.v (.pair (.int .i64) (.pair (.int .i64) (.pair (.int .i64) (.int .i64))))) .nil))), [], ((.v .bool), []), []⟩
def F12 (L : Lp) (g68 : Option Bool) (g69 : Spec → Option Bool) (g70 : Spec → Option Bool) (g71 : Spec → Job → Int → (List Int) → Option Int) (as0 : Spec) (j1 : Job) (ax2 : (Int × (Int × (Int × Int)))) : Option Bool :=
  Option.bind (g68) fun r3 =>
  cond (!r3)
    (some false)
    (Option.bind (g69 as0) fun r4 =>
    cond (!r4)
      (some true)
      (Option.bind (g70 as0) fun r5 =>
      cond (!r5)
        (some true)
        (Option.bind (α := ((Unit × (Unit × (Int × (Int × Unit)))) × (Spec × (Job × Unit))))
          (cond (decide (ax2.2.1 < ax2.1))
            (some (((), (), ax2.2.1, ax2.1, ()), (as0, j1, ())))
            (some (((), (), ax2.1, ax2.2.1, ()), (as0, j1, ())))) fun x6 =>
        Option.bind (α := ((Unit × (Unit × (Int × (Int × Unit)))) × (Spec × (Job × Unit))))
          (cond (decide (ax2.2.2.2 < ax2.2.2.1))
            (some (((), (), ax2.2.2.2, ax2.2.2.1, ()), (x6.2.1, x6.2.2.1, ())))
            (some (((), (), ax2.2.2.1, ax2.2.2.2, ()), (x6.2.1, x6.2.2.1, ())))) fun x7 =>
        Option.bind (g71 x7.2.1 (Job.mk x7.2.2.1.id 0 x7.2.2.1.queue x7.2.2.1.many x7.2.2.1.need x7.2.2.1.wall x7.2.2.1.after x7.2.2.1.state x7.2.2.1.ok x7.2.2.1.kill x7.2.2.1.version x7.2.2.1.born x7.2.2.1.start x7.2.2.1.fin x7.2.2.1.array) x6.1.2.2.1 [x7.1.2.2.1]) fun r8 =>
        Option.bind (g71 x7.2.1 (Job.mk x7.2.2.1.id 0 x7.2.2.1.queue x7.2.2.1.many x7.2.2.1.need x7.2.2.1.wall x7.2.2.1.after x7.2.2.1.state x7.2.2.1.ok x7.2.2.1.kill x7.2.2.1.version x7.2.2.1.born x7.2.2.1.start x7.2.2.1.fin x7.2.2.1.array) x6.1.2.2.2.1 [x7.1.2.2.1]) fun r9 =>
        cond (decide (r8 ≤ r9))
          (Option.bind (g71 x7.2.1 (Job.mk x7.2.2.1.id 0 x7.2.2.1.queue x7.2.2.1.many x7.2.2.1.need x7.2.2.1.wall x7.2.2.1.after x7.2.2.1.state x7.2.2.1.ok x7.2.2.1.kill x7.2.2.1.version x7.2.2.1.born x7.2.2.1.start x7.2.2.1.fin x7.2.2.1.array) x6.1.2.2.1 [x7.1.2.2.2.1]) fun r10 =>
          some (decide (r10 ≤ r8)))
          (some false))))
theorem e12 (L : Lp) (g68 : Option Bool) (g69 : Spec → Option Bool) (g70 : Spec → Option Bool) (g71 : Spec → Job → Int → (List Int) → Option Int) (x : s12.args.den) (h : denH s12.heap) : nrun [⟨68, s68, fun x h => g68 ⟩, ⟨69, s69, fun x h => g69 x.1⟩, ⟨70, s70, fun x h => g70 x.1⟩, ⟨71, s71, fun x h => g71 x.1 x.2.1 x.2.2.1 x.2.2.2.1⟩] L n12 s12 x h = F12 L g68 g69 g70 g71 x.1 x.2.1 x.2.2.1 := by kernel_rfl
def f12 : Spec → Job → (Int × (Int × (Int × Int))) → Option Bool := F12 (@LN LOOPS) f68 f69 f70 f71
@[reducible] def t12 : Ent := ⟨12, s12, fun x h => f12 x.1 x.2.1 x.2.2.1⟩
theorem k12 : chkNF Try.prog Try.f12 n12 = true := by kernel_rfl
theorem ok12 : NOk Try.prog t12 := NOk.body (T := [t68, t69, t70, t71]) mixed (nall_cons ok68 (nall_cons ok69 (nall_cons ok70 (nall_cons ok71 nall_nil)))) (oneEach_of (by kernel_rfl)) Try.func12 k12 (by kernel_rfl) (fun x h => e12 _ _ _ _ _ x h)
end NM
end Go.Proofs.Ytofboijlcjgnnaa
