/-
  What the proof of LedgerSums leans on, part 24. (Many texts laid together by program.)
-/
import Derived.Test.YtfelhbeiegppgaaPkAw
import Derived.Test.YtfelhbeiegppgaaProg
import Derived.ProofKit
set_option linter.unnecessarySimpa false
set_option linter.unusedSimpArgs false
set_option linter.unusedVariables false
section
set_option maxRecDepth 100000
set_option maxHeartbeats 4000000
namespace Go.Proofs.Ytfelhbeiegppgaa
namespace NM
open AM Go.RowKit
def n38 : NFunc := ⟨23, .seq (.region 1 [
 ⟨(some 0), .alloc [.zsl, .zsl, .zsl, .int .i64 (0), .int .i64 (0), .int .i64 (0), .int .i64 (0), .int .i64 (0), .int .i64 (0), .int .i64 (0), .int .i64 (0), .int .i64 (0), .int .i64 (0), .int .i64 (0), .int .i64 (0), .int .i64 (0), .int .i64 (0), .int .i64 (0)], none, 0, none⟩] []) (.seq (.region 1 [
 ⟨(some 4), .build [.zsl, .zsl, .zsl, .int .i64 (0), .int .i64 (0), .int .i64 (0), .int .i64 (0), .int .i64 (0), .int .i64 (0), .int .i64 (0), .int .i64 (0), .int .i64 (0), .int .i64 (0), .int .i64 (0), .int .i64 (0), .int .i64 (0), .int .i64 (0), .int .i64 (0)] [(3, 1, (.const (.int .i64 (3)))), (8, 1, (.const (.int .i64 (4)))), (9, 1, (.const (.int .i64 (1)))), (10, 1, (.const (.int .i64 (12)))), (11, 1, (.const (.int .i64 (100)))), (12, 1, (.const (.int .i64 (50)))), (13, 1, (.const (.int .i64 (5)))), (14, 1, (.const (.int .i64 (4)))), (15, 1, (.const (.int .i64 (3)))), (16, 1, (.const (.int .i64 (6)))), (17, 1, (.const (.int .i64 (4))))], none, 0, none⟩,
 ⟨(some 1), .alloc [.zsl, .zsl, .zsl, .int .i64 (0), .int .i64 (0), .int .i64 (0), .int .i64 (0), .int .i64 (0), .int .i64 (0), .int .i64 (0), .int .i64 (0), .int .i64 (0), .int .i64 (0), .int .i64 (0), .int .i64 (0), .int .i64 (0), .int .i64 (0), .int .i64 (0)], none, 0, none⟩,
 ⟨none, .store 18 (.tmp 1) (.tmp 4), none, 1, none⟩] []) (.seq (.region 1 [
 ⟨(some 5), .build [.int .i64 (0), .int .i64 (0), .int .i64 (0), .int .i64 (0)] [(0, 1, (.const (.int .i64 (4)))), (1, 1, (.const (.int .i64 (8)))), (3, 1, (.const (.int .i64 (1))))], none, 0, none⟩,
 ⟨(some 6), .build [.int .i64 (0), .int .i64 (0), .int .i64 (0), .int .i64 (0)] [(0, 1, (.const (.int .i64 (8)))), (1, 1, (.const (.int .i64 (8)))), (2, 1, (.const (.int .i64 (1))))], none, 0, none⟩,
 ⟨(some 7), .buildSlice 4 2 true [.int .i64 (0), .int .i64 (0), .int .i64 (0), .int .i64 (0)] [(0, (.tmp 5)), (1, (.tmp 6))], none, 0, none⟩,
 ⟨(some 8), .fieldAddr 0 (.tmp 1), none, 1, none⟩,
 ⟨none, .store 1 (.tmp 8) (.tmp 7), none, 1, none⟩] []) (.seq (.region 3 [
 ⟨(some 9), .buildSlice 1 2 true [.int .i64 (0)] [(0, (.const (.int .i64 (0)))), (1, (.const (.int .i64 (1))))], none, 0, none⟩,
 ⟨(some 10), .buildSlice 1 1 true [.int .i64 (0)] [(0, (.const (.int .i64 (1))))], none, 1, none⟩,
 ⟨(some 11), .buildSlice 1 2 true [.zsl] [(0, (.tmp 9)), (1, (.tmp 10))], none, 2, none⟩,
 ⟨(some 12), .fieldAddr 1 (.tmp 1), none, 3, none⟩,
 ⟨none, .store 1 (.tmp 12) (.tmp 11), none, 3, none⟩] []) (.seq (.region 1 [
 ⟨(some 13), .build [.int .i64 (0), .zsl, .int .i64 (0), .int .i64 (0), .int .i64 (0), .int .i64 (0)] [(2, 1, (.const (.int .i64 (8)))), (3, 1, (.const (.int .i64 (4)))), (4, 1, (.const (.int .i64 (3)))), (5, 1, (.const (.int .i64 (1))))], none, 0, none⟩,
 ⟨(some 2), .alloc [.int .i64 (0), .zsl, .int .i64 (0), .int .i64 (0), .int .i64 (0), .int .i64 (0)], none, 0, none⟩,
 ⟨none, .store 6 (.tmp 2) (.tmp 13), none, 1, none⟩] []) (.seq (.region 2 [
 ⟨(some 14), .buildSlice 1 2 true [.int .i64 (0)] [(0, (.const (.int .i64 (0)))), (1, (.const (.int .i64 (1))))], none, 0, none⟩,
 ⟨(some 15), .build [.int .i64 (0), .zsl, .int .i64 (0), .int .i64 (0), .int .i64 (0), .int .i64 (0)] [(0, 1, (.const (.int .i64 (1)))), (1, 1, (.tmp 14)), (2, 1, (.const (.int .i64 (4)))), (3, 1, (.const (.int .i64 (2)))), (4, 1, (.const (.int .i64 (2)))), (5, 1, (.const (.int .i64 (5))))], none, 1, none⟩,
 ⟨(some 3), .alloc [.int .i64 (0), .zsl, .int .i64 (0), .int .i64 (0), .int .i64 (0), .int .i64 (0)], none, 1, none⟩,
 ⟨none, .store 6 (.tmp 3) (.tmp 15), none, 2, none⟩] []) (.seq (.region 1 [
 ⟨(some 16), .load true 6 (.tmp 2), none, 0, none⟩,
 ⟨(some 17), .load true 6 (.tmp 3), none, 0, none⟩,
 ⟨(some 18), .buildSlice 6 2 true [.int .i64 (0), .zsl, .int .i64 (0), .int .i64 (0), .int .i64 (0), .int .i64 (0)] [(0, (.tmp 16)), (1, (.tmp 17))], none, 0, none⟩,
 ⟨(some 19), .fieldAddr 2 (.tmp 1), none, 1, none⟩,
 ⟨none, .store 1 (.tmp 19) (.tmp 18), none, 1, none⟩] []) (.seq (.region 0 [
 ⟨(some 20), .build [.int .i64 (0), .int .i64 (0), .int .i64 (0), .int .i64 (0)] [(0, 1, (.const (.int .i64 (1)))), (1, 1, (.const (.int .i64 (2)))), (2, 1, (.const (.int .i64 (10)))), (3, 1, (.const (.int .i64 (3))))], none, 0, none⟩,
 ⟨(some 21), .fieldAddr 4 (.tmp 1), none, 0, none⟩,
 ⟨none, .store 4 (.tmp 21) (.tmp 20), none, 0, none⟩] []) (.seq (.region 0 [
 ⟨(some 22), .load true 18 (.tmp 1), none, 0, none⟩,
 ⟨none, .store 18 (.tmp 0) (.tmp 22), none, 0, none⟩] []) (.ret))))))))), [.cell true 18 0], true⟩
def s38 : Sig := ⟨.nil, [], ((.v .spec), []), []⟩
def F38 (L : Lp)   : Option Spec :=
 some (Spec.mk [Res.mk 4 8 0 1, Res.mk 8 8 1 0] [[0, 1], [1]] [Queue.mk 0 [] 8 4 3 1, Queue.mk 1 [0, 1] 4 2 2 5] 3 (Weights.mk 1 2 10 3) 4 1 12 100 50 5 4 3 6 4)
theorem e38 (L : Lp)  (x : s38.args.den) (h : denH s38.heap) : nrun [] L n38 s38 x h = F38 L   := by kernel_rfl
def f38 : Option Spec := F38 (@LN LOOPS) 
@[reducible] def t38 : Ent := ⟨38, s38, fun x h => f38 ⟩
theorem k38 : chkNF Try.prog Try.f38 n38 = true := by kernel_rfl
theorem ok38 : NOk Try.prog t38 := NOk.body (T := []) mixed nall_nil (oneEach_of (by kernel_rfl)) Try.func38 k38 (by kernel_rfl) (fun x h => e38 _  x h)
def n98 : NFunc := ⟨12, .seq (.region 4 [
 ⟨(some 5), .box 1 (.tmp 1), none, 0, none⟩,
 ⟨(some 6), .box 1 (.tmp 2), none, 1, none⟩,
 ⟨(some 7), .box 1 (.tmp 3), none, 2, none⟩,
 ⟨(some 8), .alloc [.str [], .nilfn], none, 3, none⟩] []) (.seq (.region 0 [
 ⟨(some 9), .move (.tmp 0), none, 0, none⟩,
 ⟨(some 10), .makeFunc 116 [(.tmp 6), (.tmp 5), (.tmp 7)], none, 0, none⟩,
 ⟨(some 11), .build [.str [], .nilfn] [(0, 1, (.tmp 9)), (1, 1, (.tmp 10))], none, 0, none⟩,
 ⟨none, .store 2 (.tmp 8) (.tmp 11), none, 0, none⟩] []) (.ret)), [.cell true 2 8], true⟩
def s98 : Sig := ⟨(.cons (.v .str) (.cons (.v (.int .i64)) (.cons (.v (.int .i64)) (.cons (.v (.int .i64)) .nil)))), [], ((.agg (.cons (.v .str) (.cons (.fn 116 (.cons (.iptr (.cons (.v (.int .i64)) .nil) 0) (.cons (.iptr (.cons (.v (.int .i64)) .nil) 0) (.cons (.iptr (.cons (.v (.int .i64)) .nil) 0) .nil)))) .nil))), []), []⟩
def F98 (L : Lp)  (word0 : (List UInt8)) (an1 : Int) (lo2 : Int) (hi3 : Int) : Option ((List UInt8) × (((Int × Unit) × ((Int × Unit) × ((Int × Unit) × Unit))) × Unit)) :=
 some (word0, ((lo2, ()), (an1, ()), (hi3, ()), ()), ())
theorem e98 (L : Lp)  (x : s98.args.den) (h : denH s98.heap) : nrun [] L n98 s98 x h = F98 L  x.1 x.2.1 x.2.2.1 x.2.2.2.1 := by kernel_rfl
def f98 : (List UInt8) → Int → Int → Int → Option ((List UInt8) × (((Int × Unit) × ((Int × Unit) × ((Int × Unit) × Unit))) × Unit)) := F98 (@LN LOOPS) 
@[reducible] def t98 : Ent := ⟨98, s98, fun x h => f98 x.1 x.2.1 x.2.2.1 x.2.2.2.1⟩
theorem k98 : chkNF Try.prog Try.f98 n98 = true := by kernel_rfl
theorem ok98 : NOk Try.prog t98 := NOk.body (T := []) mixed nall_nil (oneEach_of (by kernel_rfl)) Try.func98 k98 (by kernel_rfl) (fun x h => e98 _  x h)
def n88 : NFunc := ⟨44, .seq (.region 1 [
 ⟨(some 1), .box 18 (.tmp 0), none, 0, none⟩,
 ⟨(some 2), .move (.const (.zsl)), none, 1, none⟩] []) (.seq (.region 41 [
 ⟨(some 3), .makeFunc 94 [(.tmp 1)], none, 0, (some ([], none))⟩,
 ⟨(some 4), .build [.str [], .nilfn] [(0, 1, (.const (.str [78, 111, 100, 101, 115]))), (1, 1, (.tmp 3))], none, 0, (some ([], none))⟩,
 ⟨(some 5), .makeFunc 96 [(.tmp 1)], none, 0, (some ([], none))⟩,
 ⟨(some 6), .build [.str [], .nilfn] [(0, 1, (.const (.str [80, 97, 114, 116, 115]))), (1, 1, (.tmp 5))], none, 0, (some ([], none))⟩,
 ⟨(some 7), .fieldAddr 3 (.tmp 1), none, 0, (some ([], none))⟩,
 ⟨(some 8), .load false 1 (.tmp 7), none, 0, (some ([], none))⟩,
 ⟨(some 9), .call (.func 98) [(false, (.const (.str [85, 115, 101, 114, 115]))), (false, (.tmp 8)), (false, (.const (.int .i64 (1)))), (false, (.const (.int .i64 (8))))] true 4, none, 0, (some ([], none))⟩,
 ⟨(some 10), .makeFunc 99 [(.tmp 1)], none, 4, (some ([], none))⟩,
 ⟨(some 11), .build [.str [], .nilfn] [(0, 1, (.const (.str [81, 117, 101, 117, 101, 115]))), (1, 1, (.tmp 10))], none, 4, (some ([], none))⟩,
 ⟨(some 12), .makeFunc 101 [(.tmp 1)], none, 4, (some ([], none))⟩,
 ⟨(some 13), .build [.str [], .nilfn] [(0, 1, (.const (.str [87, 101, 105, 103, 104, 116, 115]))), (1, 1, (.tmp 12))], none, 4, (some ([], none))⟩,
 ⟨(some 14), .fieldAddr 8 (.tmp 1), none, 4, (some ([], none))⟩,
 ⟨(some 15), .load false 1 (.tmp 14), none, 4, (some ([], none))⟩,
 ⟨(some 16), .call (.func 98) [(false, (.const (.str [68, 101, 99, 97, 121]))), (false, (.tmp 15)), (false, (.const (.int .i64 (1)))), (false, (.const (.int .i64 (16))))] true 4, none, 4, (some ([0, 1, 2, 3], none))⟩,
 ⟨(some 17), .makeFunc 103 [(.tmp 1)], none, 8, (some ([], none))⟩,
 ⟨(some 18), .build [.str [], .nilfn] [(0, 1, (.const (.str [77, 111, 100, 101]))), (1, 1, (.tmp 17))], none, 8, (some ([], none))⟩,
 ⟨(some 19), .fieldAddr 10 (.tmp 1), none, 8, (some ([], none))⟩,
 ⟨(some 20), .load false 1 (.tmp 19), none, 8, (some ([], none))⟩,
 ⟨(some 21), .call (.func 98) [(false, (.const (.str [74, 111, 98, 115]))), (false, (.tmp 20)), (false, (.const (.int .i64 (1)))), (false, (.const (.int .i64 (256))))] true 4, none, 8, (some ([0, 1, 2, 3, 4, 5, 6, 7], none))⟩,
 ⟨(some 22), .fieldAddr 11 (.tmp 1), none, 12, (some ([], none))⟩,
 ⟨(some 23), .load false 1 (.tmp 22), none, 12, (some ([], none))⟩,
 ⟨(some 24), .call (.func 98) [(false, (.const (.str [73, 100, 115]))), (false, (.tmp 23)), (false, (.const (.int .i64 (1)))), (false, (.const (.int .i64 (1048576))))] true 4, none, 12, (some ([0, 1, 2, 3, 4, 5, 6, 7, 8, 9, 10, 11], none))⟩,
 ⟨(some 25), .fieldAddr 12 (.tmp 1), none, 16, (some ([], none))⟩,
 ⟨(some 26), .load false 1 (.tmp 25), none, 16, (some ([], none))⟩,
 ⟨(some 27), .call (.func 98) [(false, (.const (.str [86, 101, 114, 115, 105, 111, 110, 115]))), (false, (.tmp 26)), (false, (.const (.int .i64 (1)))), (false, (.const (.int .i64 (65536))))] true 4, none, 16, (some ([0, 1, 2, 3, 4, 5, 6, 7, 8, 9, 10, 11, 12, 13, 14, 15], none))⟩,
 ⟨(some 28), .fieldAddr 13 (.tmp 1), none, 20, (some ([], none))⟩,
 ⟨(some 29), .load false 1 (.tmp 28), none, 20, (some ([], none))⟩,
 ⟨(some 30), .call (.func 98) [(false, (.const (.str [76, 105, 110, 103, 101, 114]))), (false, (.tmp 29)), (false, (.const (.int .i64 (0)))), (false, (.const (.int .i64 (65536))))] true 4, none, 20, (some ([0, 1, 2, 3, 4, 5, 6, 7, 8, 9, 10, 11, 12, 13, 14, 15, 16, 17, 18, 19], none))⟩,
 ⟨(some 31), .fieldAddr 14 (.tmp 1), none, 24, (some ([], none))⟩,
 ⟨(some 32), .load false 1 (.tmp 31), none, 24, (some ([], none))⟩,
 ⟨(some 33), .call (.func 98) [(false, (.const (.str [75, 101, 101, 112]))), (false, (.tmp 32)), (false, (.const (.int .i64 (1)))), (false, (.const (.int .i64 (16))))] true 4, none, 24, (some ([0, 1, 2, 3, 4, 5, 6, 7, 8, 9, 10, 11, 12, 13, 14, 15, 16, 17, 18, 19, 20, 21, 22, 23], none))⟩,
 ⟨(some 34), .fieldAddr 15 (.tmp 1), none, 28, (some ([], none))⟩,
 ⟨(some 35), .load false 1 (.tmp 34), none, 28, (some ([], none))⟩,
 ⟨(some 36), .call (.func 98) [(false, (.const (.str [73, 110]))), (false, (.tmp 35)), (false, (.const (.int .i64 (1)))), (false, (.const (.int .i64 (8))))] true 4, none, 28, (some ([0, 1, 2, 3, 4, 5, 6, 7, 8, 9, 10, 11, 12, 13, 14, 15, 16, 17, 18, 19, 20, 21, 22, 23, 24, 25, 26, 27], none))⟩,
 ⟨(some 37), .fieldAddr 16 (.tmp 1), none, 32, (some ([], none))⟩,
 ⟨(some 38), .load false 1 (.tmp 37), none, 32, (some ([], none))⟩,
 ⟨(some 39), .call (.func 98) [(false, (.const (.str [79, 117, 116]))), (false, (.tmp 38)), (false, (.const (.int .i64 (1)))), (false, (.const (.int .i64 (16))))] true 4, none, 32, (some ([0, 1, 2, 3, 4, 5, 6, 7, 8, 9, 10, 11, 12, 13, 14, 15, 16, 17, 18, 19, 20, 21, 22, 23, 24, 25, 26, 27, 28, 29, 30, 31], none))⟩,
 ⟨(some 40), .fieldAddr 17 (.tmp 1), none, 36, (some ([], none))⟩,
 ⟨(some 41), .load false 1 (.tmp 40), none, 36, (some ([], none))⟩,
 ⟨(some 42), .call (.func 98) [(false, (.const (.str [67, 97, 99, 104, 101]))), (false, (.tmp 41)), (false, (.const (.int .i64 (0)))), (false, (.const (.int .i64 (16))))] false 4, none, 36, (some ([0, 1, 2, 3, 4, 5, 6, 7, 8, 9, 10, 11, 12, 13, 14, 15, 16, 17, 18, 19, 20, 21, 22, 23, 24, 25, 26, 27, 28, 29, 30, 31, 32, 33, 34, 35], none))⟩,
 ⟨(some 43), .buildSlice 2 15 true [.str [], .nilfn] [(0, (.tmp 4)), (1, (.tmp 6)), (2, (.tmp 9)), (3, (.tmp 11)), (4, (.tmp 13)), (5, (.tmp 16)), (6, (.tmp 18)), (7, (.tmp 21)), (8, (.tmp 24)), (9, (.tmp 27)), (10, (.tmp 30)), (11, (.tmp 33)), (12, (.tmp 36)), (13, (.tmp 39)), (14, (.tmp 42))], none, 40, (some ([0, 1, 2, 3, 4, 5, 6, 7, 8, 9, 10, 11, 12, 13, 14, 15, 16, 17, 18, 19, 20, 21, 22, 23, 24, 25, 26, 27, 28, 29, 30, 31, 32, 33, 34, 35, 36, 37, 38, 39], none))⟩,
 ⟨(some 2), .move (.tmp 43), none, 41, (some ([0, 1, 2, 3, 4, 5, 6, 7, 8, 9, 10, 11, 12, 13, 14, 15, 16, 17, 18, 19, 20, 21, 22, 23, 24, 25, 26, 27, 28, 29, 30, 31, 32, 33, 34, 35, 36, 37, 38, 39, 40], none))⟩] []) (.ret)), [.tmp 2], true⟩
def s88 : Sig := ⟨(.cons (.v .spec) .nil), [], ((.rows 2 (.cons (.cons (.v .str) (.cons (.fn 94 (.cons (.iptr (.cons (.v (.list .res)) (.cons (.v (.list (.list (.int .i64)))) (.cons (.v (.list .queue)) (.cons (.v (.int .i64)) (.cons (.v (.int .i64)) (.cons (.v (.int .i64)) (.cons (.v (.int .i64)) (.cons (.v (.int .i64)) (.cons (.v (.int .i64)) (.cons (.v (.int .i64)) (.cons (.v (.int .i64)) (.cons (.v (.int .i64)) (.cons (.v (.int .i64)) (.cons (.v (.int .i64)) (.cons (.v (.int .i64)) (.cons (.v (.int .i64)) (.cons (.v (.int .i64)) (.cons (.v (.int .i64)) .nil)))))))))))))))))) 0) .nil)) .nil)) (.cons (.cons (.v .str) (.cons (.fn 96 (.cons (.iptr (.cons (.v (.list .res)) (.cons (.v (.list (.list (.int .i64)))) (.cons (.v (.list .queue)) (.cons (.v (.int .i64)) (.cons (.v (.int .i64)) (.cons (.v (.int .i64)) (.cons (.v (.int .i64)) (.cons (.v (.int .i64)) (.cons (.v (.int .i64)) (.cons (.v (.int .i64)) (.cons (.v (.int .i64)) (.cons (.v (.int .i64)) (.cons (.v (.int .i64)) (.cons (.v (.int .i64)) (.cons (.v (.int .i64)) (.cons (.v (.int .i64)) (.cons (.v (.int .i64)) (.cons (.v (.int .i64)) .nil)))))))))))))))))) 0) .nil)) .nil)) (.cons (.cons (.v .str) (.cons (.fn 116 (.cons (.iptr (.cons (.v (.int .i64)) .nil) 0) (.cons (.iptr (.cons (.v (.int .i64)) .nil) 0) (.cons (.iptr (.cons (.v (.int .i64)) .nil) 0) .nil)))) .nil)) (.cons (.cons (.v .str) (.cons (.fn 99 (.cons (.iptr (.cons (.v (.list .res)) (.cons (.v (.list (.list (.int .i64)))) (.cons (.v (.list .queue)) (.cons (.v (.int .i64)) (.cons (.v (.int .i64)) (.cons (.v (.int .i64)) (.cons (.v (.int .i64)) (.cons (.v (.int .i64)) (.cons (.v (.int .i64)) (.cons (.v (.int .i64)) (.cons (.v (.int .i64)) (.cons (.v (.int .i64)) (.cons (.v (.int .i64)) (.cons (.v (.int .i64)) (.cons (.v (.int .i64)) (.cons (.v (.int .i64)) (.cons (.v (.int .i64)) (.cons (.v (.int .i64)) .nil)))))))))))))))))) 0) .nil)) .nil)) (.cons (.cons (.v .str) (.cons (.fn 101 (.cons (.iptr (.cons (.v (.list .res)) (.cons (.v (.list (.list (.int .i64)))) (.cons (.v (.list .queue)) (.cons (.v (.int .i64)) (.cons (.v (.int .i64)) (.cons (.v (.int .i64)) (.cons (.v (.int .i64)) (.cons (.v (.int .i64)) (.cons (.v (.int .i64)) (.cons (.v (.int .i64)) (.cons (.v (.int .i64)) (.cons (.v (.int .i64)) (.cons (.v (.int .i64)) (.cons (.v (.int .i64)) (.cons (.v (.int .i64)) (.cons (.v (.int .i64)) (.cons (.v (.int .i64)) (.cons (.v (.int .i64)) .nil)))))))))))))))))) 0) .nil)) .nil)) (.cons (.cons (.v .str) (.cons (.fn 116 (.cons (.iptr (.cons (.v (.int .i64)) .nil) 0) (.cons (.iptr (.cons (.v (.int .i64)) .nil) 0) (.cons (.iptr (.cons (.v (.int .i64)) .nil) 0) .nil)))) .nil)) (.cons (.cons (.v .str) (.cons (.fn 103 (.cons (.iptr (.cons (.v (.list .res)) (.cons (.v (.list (.list (.int .i64)))) (.cons (.v (.list .queue)) (.cons (.v (.int .i64)) (.cons (.v (.int .i64)) (.cons (.v (.int .i64)) (.cons (.v (.int .i64)) (.cons (.v (.int .i64)) (.cons (.v (.int .i64)) (.cons (.v (.int .i64)) (.cons (.v (.int .i64)) (.cons (.v (.int .i64)) (.cons (.v (.int .i64)) (.cons (.v (.int .i64)) (.cons (.v (.int .i64)) (.cons (.v (.int .i64)) (.cons (.v (.int .i64)) (.cons (.v (.int .i64)) .nil)))))))))))))))))) 0) .nil)) .nil)) (.cons (.cons (.v .str) (.cons (.fn 116 (.cons (.iptr (.cons (.v (.int .i64)) .nil) 0) (.cons (.iptr (.cons (.v (.int .i64)) .nil) 0) (.cons (.iptr (.cons (.v (.int .i64)) .nil) 0) .nil)))) .nil)) (.cons (.cons (.v .str) (.cons (.fn 116 (.cons (.iptr (.cons (.v (.int .i64)) .nil) 0) (.cons (.iptr (.cons (.v (.int .i64)) .nil) 0) (.cons (.iptr (.cons (.v (.int .i64)) .nil) 0) .nil)))) .nil)) (.cons (.cons (.v .str) (.cons (.fn 116 (.cons (.iptr (.cons (.v (.int .i64)) .nil) 0) (.cons (.iptr (.cons (.v (.int .i64)) .nil) 0) (.cons (.iptr (.cons (.v (.int .i64)) .nil) 0) .nil)))) .nil)) (.cons (.cons (.v .str) (.cons (.fn 116 (.cons (.iptr (.cons (.v (.int .i64)) .nil) 0) (.cons (.iptr (.cons (.v (.int .i64)) .nil) 0) (.cons (.iptr (.cons (.v (.int .i64)) .nil) 0) .nil)))) .nil)) (.cons (.cons (.v .str) (.cons (.fn 116 (.cons (.iptr (.cons (.v (.int .i64)) .nil) 0) (.cons (.iptr (.cons (.v (.int .i64)) .nil) 0) (.cons (.iptr (.cons (.v (.int .i64)) .nil) 0) .nil)))) .nil)) (.cons (.cons (.v .str) (.cons (.fn 116 (.cons (.iptr (.cons (.v (.int .i64)) .nil) 0) (.cons (.iptr (.cons (.v (.int .i64)) .nil) 0) (.cons (.iptr (.cons (.v (.int .i64)) .nil) 0) .nil)))) .nil)) (.cons (.cons (.v .str) (.cons (.fn 116 (.cons (.iptr (.cons (.v (.int .i64)) .nil) 0) (.cons (.iptr (.cons (.v (.int .i64)) .nil) 0) (.cons (.iptr (.cons (.v (.int .i64)) .nil) 0) .nil)))) .nil)) (.cons (.cons (.v .str) (.cons (.fn 116 (.cons (.iptr (.cons (.v (.int .i64)) .nil) 0) (.cons (.iptr (.cons (.v (.int .i64)) .nil) 0) (.cons (.iptr (.cons (.v (.int .i64)) .nil) 0) .nil)))) .nil)) .nil)))))))))))))))), []), []⟩
@[reducible] def y88 : Type := (((List UInt8) × ((((List Res) × ((List (List Int)) × ((List Queue) × (Int × (Int × (Int × (Int × (Int × (Int × (Int × (Int × (Int × (Int × (Int × (Int × (Int × (Int × (Int × Unit)))))))))))))))))) × Unit) × Unit)) × (((List UInt8) × ((((List Res) × ((List (List Int)) × ((List Queue) × (Int × (Int × (Int × (Int × (Int × (Int × (Int × (Int × (Int × (Int × (Int × (Int × (Int × (Int × (Int × Unit)))))))))))))))))) × Unit) × Unit)) × (((List UInt8) × (((Int × Unit) × ((Int × Unit) × ((Int × Unit) × Unit))) × Unit)) × (((List UInt8) × ((((List Res) × ((List (List Int)) × ((List Queue) × (Int × (Int × (Int × (Int × (Int × (Int × (Int × (Int × (Int × (Int × (Int × (Int × (Int × (Int × (Int × Unit)))))))))))))))))) × Unit) × Unit)) × (((List UInt8) × ((((List Res) × ((List (List Int)) × ((List Queue) × (Int × (Int × (Int × (Int × (Int × (Int × (Int × (Int × (Int × (Int × (Int × (Int × (Int × (Int × (Int × Unit)))))))))))))))))) × Unit) × Unit)) × (((List UInt8) × (((Int × Unit) × ((Int × Unit) × ((Int × Unit) × Unit))) × Unit)) × (((List UInt8) × ((((List Res) × ((List (List Int)) × ((List Queue) × (Int × (Int × (Int × (Int × (Int × (Int × (Int × (Int × (Int × (Int × (Int × (Int × (Int × (Int × (Int × Unit)))))))))))))))))) × Unit) × Unit)) × (((List UInt8) × (((Int × Unit) × ((Int × Unit) × ((Int × Unit) × Unit))) × Unit)) × (((List UInt8) × (((Int × Unit) × ((Int × Unit) × ((Int × Unit) × Unit))) × Unit)) × (((List UInt8) × (((Int × Unit) × ((Int × Unit) × ((Int × Unit) × Unit))) × Unit)) × (((List UInt8) × (((Int × Unit) × ((Int × Unit) × ((Int × Unit) × Unit))) × Unit)) × (((List UInt8) × (((Int × Unit) × ((Int × Unit) × ((Int × Unit) × Unit))) × Unit)) × (((List UInt8) × (((Int × Unit) × ((Int × Unit) × ((Int × Unit) × Unit))) × Unit)) × (((List UInt8) × (((Int × Unit) × ((Int × Unit) × ((Int × Unit) × Unit))) × Unit)) × (((List UInt8) × (((Int × Unit) × ((Int × Unit) × ((Int × Unit) × Unit))) × Unit)) × Unit)))))))))))))))
def F88 (L : Lp) (g98 : (List UInt8) → Int → Int → Int → Option ((List UInt8) × (((Int × Unit) × ((Int × Unit) × ((Int × Unit) × Unit))) × Unit))) (as0 : Spec) : Option y88 :=
 Option.bind (g98 ([85, 115, 101, 114, 115] : List UInt8) as0.users 1 8) fun r1 =>
 Option.bind (g98 ([68, 101, 99, 97, 121] : List UInt8) as0.decay 1 16) fun r2 =>
 Option.bind (g98 ([74, 111, 98, 115] : List UInt8) as0.jobs 1 256) fun r3 =>
 Option.bind (g98 ([73, 100, 115] : List UInt8) as0.ids 1 1048576) fun r4 =>
 Option.bind (g98 ([86, 101, 114, 115, 105, 111, 110, 115] : List UInt8) as0.versions 1 65536) fun r5 =>
 Option.bind (g98 ([76, 105, 110, 103, 101, 114] : List UInt8) as0.linger 0 65536) fun r6 =>
 Option.bind (g98 ([75, 101, 101, 112] : List UInt8) as0.keep 1 16) fun r7 =>
 Option.bind (g98 ([73, 110] : List UInt8) as0.inn 1 8) fun r8 =>
 Option.bind (g98 ([79, 117, 116] : List UInt8) as0.out 1 16) fun r9 =>
 Option.bind (g98 ([67, 97, 99, 104, 101] : List UInt8) as0.cache 0 16) fun r10 =>
 some ((([78, 111, 100, 101, 115] : List UInt8), ((as0.nodes, as0.parts, as0.queues, as0.users, as0.weights.age, as0.weights.size, as0.weights.qos, as0.weights.share, as0.decay, as0.mode, as0.jobs, as0.ids, as0.versions, as0.linger, as0.keep, as0.inn, as0.out, as0.cache, ()), ()), ()), ((([80, 97, 114, 116, 115] : List UInt8), ((as0.nodes, as0.parts, as0.queues, as0.users, as0.weights.age, as0.weights.size, as0.weights.qos, as0.weights.share, as0.decay, as0.mode, as0.jobs, as0.ids, as0.versions, as0.linger, as0.keep, as0.inn, as0.out, as0.cache, ()), ()), ()), ((r1.1, ((r1.2.1.1.1, ()), (r1.2.1.2.1.1, ()), (r1.2.1.2.2.1.1, ()), ()), ()), ((([81, 117, 101, 117, 101, 115] : List UInt8), ((as0.nodes, as0.parts, as0.queues, as0.users, as0.weights.age, as0.weights.size, as0.weights.qos, as0.weights.share, as0.decay, as0.mode, as0.jobs, as0.ids, as0.versions, as0.linger, as0.keep, as0.inn, as0.out, as0.cache, ()), ()), ()), ((([87, 101, 105, 103, 104, 116, 115] : List UInt8), ((as0.nodes, as0.parts, as0.queues, as0.users, as0.weights.age, as0.weights.size, as0.weights.qos, as0.weights.share, as0.decay, as0.mode, as0.jobs, as0.ids, as0.versions, as0.linger, as0.keep, as0.inn, as0.out, as0.cache, ()), ()), ()), ((r2.1, ((r2.2.1.1.1, ()), (r2.2.1.2.1.1, ()), (r2.2.1.2.2.1.1, ()), ()), ()), ((([77, 111, 100, 101] : List UInt8), ((as0.nodes, as0.parts, as0.queues, as0.users, as0.weights.age, as0.weights.size, as0.weights.qos, as0.weights.share, as0.decay, as0.mode, as0.jobs, as0.ids, as0.versions, as0.linger, as0.keep, as0.inn, as0.out, as0.cache, ()), ()), ()), ((r3.1, ((r3.2.1.1.1, ()), (r3.2.1.2.1.1, ()), (r3.2.1.2.2.1.1, ()), ()), ()), ((r4.1, ((r4.2.1.1.1, ()), (r4.2.1.2.1.1, ()), (r4.2.1.2.2.1.1, ()), ()), ()), ((r5.1, ((r5.2.1.1.1, ()), (r5.2.1.2.1.1, ()), (r5.2.1.2.2.1.1, ()), ()), ()), ((r6.1, ((r6.2.1.1.1, ()), (r6.2.1.2.1.1, ()), (r6.2.1.2.2.1.1, ()), ()), ()), ((r7.1, ((r7.2.1.1.1, ()), (r7.2.1.2.1.1, ()), (r7.2.1.2.2.1.1, ()), ()), ()), ((r8.1, ((r8.2.1.1.1, ()), (r8.2.1.2.1.1, ()), (r8.2.1.2.2.1.1, ()), ()), ()), ((r9.1, ((r9.2.1.1.1, ()), (r9.2.1.2.1.1, ()), (r9.2.1.2.2.1.1, ()), ()), ()), ((r10.1, ((r10.2.1.1.1, ()), (r10.2.1.2.1.1, ()), (r10.2.1.2.2.1.1, ()), ()), ()), ())))))))))))))))
theorem e88 (L : Lp) (g98 : (List UInt8) → Int → Int → Int → Option ((List UInt8) × (((Int × Unit) × ((Int × Unit) × ((Int × Unit) × Unit))) × Unit))) (x : s88.args.den) (h : denH s88.heap) : nrun [⟨98, s98, fun x h => g98 x.1 x.2.1 x.2.2.1 x.2.2.2.1⟩] L n88 s88 x h = F88 L g98 x.1 := by kernel_rfl
def f88 : Spec → Option y88 := F88 (@LN LOOPS) f98
@[reducible] def t88 : Ent := ⟨88, s88, fun x h => f88 x.1⟩
theorem k88 : chkNF Try.prog Try.f88 n88 = true := by kernel_rfl
theorem ok88 : NOk Try.prog t88 := NOk.body (T := [t98]) mixed (nall_cons ok98 nall_nil) (oneEach_of (by kernel_rfl)) Try.func88 k88 (by kernel_rfl) (fun x h => e88 _ _ x h)
def n74 : NFunc := ⟨12, .seq (.region 2 [
 ⟨(some 1), .box 4 (.tmp 0), none, 0, none⟩,
 ⟨(some 2), .alloc [.int .i64 (0), .int .i64 (0), .int .i64 (0), .int .i64 (0)], none, 1, none⟩] []) (.seq (.region 0 [
 ⟨(some 3), .fieldAddr 0 (.tmp 1), none, 0, none⟩,
 ⟨(some 4), .load false 1 (.tmp 3), none, 0, none⟩,
 ⟨(some 5), .fieldAddr 1 (.tmp 1), none, 0, none⟩,
 ⟨(some 6), .load false 1 (.tmp 5), none, 0, none⟩,
 ⟨(some 7), .fieldAddr 2 (.tmp 1), none, 0, none⟩,
 ⟨(some 8), .load false 1 (.tmp 7), none, 0, none⟩,
 ⟨(some 9), .fieldAddr 3 (.tmp 1), none, 0, none⟩,
 ⟨(some 10), .load false 1 (.tmp 9), none, 0, none⟩,
 ⟨(some 11), .build [.int .i64 (0), .int .i64 (0), .int .i64 (0), .int .i64 (0)] [(0, 1, (.tmp 4)), (1, 1, (.tmp 6)), (2, 1, (.tmp 8)), (3, 1, (.tmp 10))], none, 0, none⟩,
 ⟨none, .store 4 (.tmp 2) (.tmp 11), none, 0, none⟩] []) (.ret)), [.cell true 4 2], true⟩
def s74 : Sig := ⟨(.cons (.v .res) .nil), [], ((.v (.pair (.int .i64) (.pair (.int .i64) (.pair (.int .i64) (.int .i64))))), []), []⟩
def F74 (L : Lp)  (a0 : Res) : Option (Int × (Int × (Int × Int))) :=
 some (a0.cpu, (a0.mem, (a0.gpu, a0.lic)))
theorem e74 (L : Lp)  (x : s74.args.den) (h : denH s74.heap) : nrun [] L n74 s74 x h = F74 L  x.1 := by kernel_rfl
def f74 : Res → Option (Int × (Int × (Int × Int))) := F74 (@LN LOOPS) 
@[reducible] def t74 : Ent := ⟨74, s74, fun x h => f74 x.1⟩
theorem k74 : chkNF Try.prog Try.f74 n74 = true := by kernel_rfl
theorem ok74 : NOk Try.prog t74 := NOk.body (T := []) mixed nall_nil (oneEach_of (by kernel_rfl)) Try.func74 k74 (by kernel_rfl) (fun x h => e74 _  x h)
def n45 : NFunc := ⟨17, .seq (.region 1 [
 ⟨(some 1), .box 4 (.tmp 0), none, 0, none⟩,
 ⟨(some 2), .move (.const (.bool false)), none, 1, none⟩] []) (.seq (.seq (.region 4 [
 ⟨(some 5), .load true 4 (.tmp 1), none, 0, none⟩,
 ⟨(some 6), .call (.func 74) [(false, (.tmp 5))] false 4, none, 0, none⟩,
 ⟨(some 7), .move (.const (.int .i64 (0))), none, 4, none⟩] []) (.block 0 (.loopU [6, 7] 5 (.seq (.region 0 [
 ⟨(some 8), .bin .lss (.tmp 7) (.const (.int .i64 (4))), none, 0, none⟩] []) (.seq (.cond (.tmp 8) (.skip) (.exit 0)) (.seq (.block 1 (.seq (.region 0 [
 ⟨(some 9), .indexVal false 4 1 (.tmp 6) (.tmp 7), none, 0, none⟩,
 ⟨(some 4), .move (.tmp 9), none, 0, none⟩] []) (.seq (.region 0 [
 ⟨(some 10), .move (.tmp 4), none, 0, none⟩,
 ⟨(some 11), .bin .lss (.tmp 10) (.const (.int .i64 (0))), none, 0, none⟩,
 ⟨(some 12), .move (.tmp 11), none, 0, none⟩,
 ⟨(some 13), .move (.tmp 4), (some (12, false)), 0, none⟩,
 ⟨(some 14), .bin .gtr (.tmp 13) (.const (.int .i64 (1048576))), (some (12, false)), 0, none⟩,
 ⟨(some 15), .pick (.tmp 12) (.const (.bool true)) (.tmp 14), none, 0, none⟩] []) (.cond (.tmp 15) (.seq (.region 0 [
 ⟨(some 2), .move (.const (.bool false)), none, 0, none⟩] []) (.ret)) (.skip))))) (.region 0 [
 ⟨(some 16), .bin .add (.tmp 7) (.const (.int .i64 (1))), none, 0, none⟩,
 ⟨(some 7), .move (.tmp 16), none, 0, none⟩] []))))))) (.seq (.region 0 [
 ⟨(some 2), .move (.const (.bool true)), none, 0, none⟩] []) (.ret))), [.tmp 2], true⟩
def s45 : Sig := ⟨(.cons (.v .res) .nil), [], ((.v .bool), []), []⟩
def F45 (L : Lp) (g74 : Res → Option (Int × (Int × (Int × Int)))) (a0 : Res) : Option Bool :=
 Option.bind (g74 a0) fun r1 =>
 cond (decide (r1.1 < 0))
 (some false)
 (cond (decide (1048576 < r1.1))
 (some false)
 (cond (decide (r1.2.1 < 0))
 (some false)
 (cond (decide (1048576 < r1.2.1))
 (some false)
 (cond (decide (r1.2.2.1 < 0))
 (some false)
 (cond (decide (1048576 < r1.2.2.1))
 (some false)
 (cond (decide (r1.2.2.2 < 0))
 (some false)
 (cond (decide (1048576 < r1.2.2.2))
 (some false)
 (some true))))))))
theorem e45 (L : Lp) (g74 : Res → Option (Int × (Int × (Int × Int)))) (x : s45.args.den) (h : denH s45.heap) : nrun [⟨74, s74, fun x h => g74 x.1⟩] L n45 s45 x h = F45 L g74 x.1 := by kernel_rfl
def f45 : Res → Option Bool := F45 (@LN LOOPS) f74
@[reducible] def t45 : Ent := ⟨45, s45, fun x h => f45 x.1⟩
theorem k45 : chkNF Try.prog Try.f45 n45 = true := by kernel_rfl
theorem ok45 : NOk Try.prog t45 := NOk.body (T := [t74]) mixed (nall_cons ok74 nall_nil) (oneEach_of (by kernel_rfl)) Try.func45 k45 (by kernel_rfl) (fun x h => e45 _ _ x h)
def n95 : NFunc := ⟨26, .seq (.region 1 [
 ⟨(some 1), .box 18 (.tmp 0), none, 0, none⟩,
 ⟨(some 2), .move (.const (.bool false)), none, 1, none⟩] []) (.seq (.seq (.region 0 [
 ⟨(some 5), .fieldAddr 0 (.tmp 1), none, 0, none⟩,
 ⟨(some 6), .load false 1 (.tmp 5), none, 0, none⟩,
 ⟨(some 7), .len (.tmp 6), none, 0, none⟩,
 ⟨(some 8), .bin .lss (.tmp 7) (.const (.int .i64 (1))), none, 0, none⟩,
 ⟨(some 9), .move (.tmp 8), none, 0, none⟩,
 ⟨(some 10), .fieldAddr 0 (.tmp 1), (some (9, false)), 0, none⟩,
 ⟨(some 11), .load false 1 (.tmp 10), (some (9, false)), 0, none⟩,
 ⟨(some 12), .len (.tmp 11), (some (9, false)), 0, none⟩,
 ⟨(some 13), .bin .gtr (.tmp 12) (.const (.int .i64 (16))), (some (9, false)), 0, none⟩,
 ⟨(some 14), .pick (.tmp 9) (.const (.bool true)) (.tmp 13), none, 0, none⟩] []) (.cond (.tmp 14) (.seq (.region 0 [
 ⟨(some 2), .move (.const (.bool false)), none, 0, none⟩] []) (.ret)) (.skip))) (.seq (.seq (.region 0 [
 ⟨(some 15), .fieldAddr 0 (.tmp 1), none, 0, none⟩,
 ⟨(some 16), .load false 1 (.tmp 15), none, 0, none⟩,
 ⟨(some 17), .len (.tmp 16), none, 0, none⟩,
 ⟨(some 18), .move (.const (.int .i64 (0))), none, 0, none⟩] []) (.block 0 (.loop [16, 17, 18] ⟨[(18, (.v (.int .i64)))], [16, 17], []⟩ (.seq (.region 0 [
 ⟨(some 19), .bin .lss (.tmp 18) (.tmp 17), none, 0, none⟩] []) (.seq (.cond (.tmp 19) (.skip) (.exit 0)) (.seq (.block 1 (.seq (.region 1 [
 ⟨(some 20), .indexSl 4 (.tmp 16) (.tmp 18), none, 0, none⟩,
 ⟨(some 21), .load true 4 (.tmp 20), none, 0, none⟩,
 ⟨(some 4), .alloc [.int .i64 (0), .int .i64 (0), .int .i64 (0), .int .i64 (0)], none, 0, none⟩,
 ⟨none, .store 4 (.tmp 4) (.tmp 21), none, 1, none⟩] []) (.seq (.region 4 [
 ⟨(some 22), .load true 4 (.tmp 4), none, 0, none⟩,
 ⟨(some 23), .call (.func 45) [(false, (.tmp 22))] false 4, none, 0, none⟩,
 ⟨(some 24), .un .not (.tmp 23), none, 4, none⟩] []) (.cond (.tmp 24) (.seq (.region 0 [
 ⟨(some 2), .move (.const (.bool false)), none, 0, none⟩] []) (.ret)) (.skip))))) (.region 0 [
 ⟨(some 25), .bin .add (.tmp 18) (.const (.int .i64 (1))), none, 0, none⟩,
 ⟨(some 18), .move (.tmp 25), none, 0, none⟩] []))))))) (.seq (.region 0 [
 ⟨(some 2), .move (.const (.bool true)), none, 0, none⟩] []) (.ret)))), [.tmp 2], true⟩
def s95 : Sig := ⟨(.cons (.v .spec) .nil), [], ((.v .bool), []), []⟩
def l95_0 (g45 : Res → Option Bool) (as0 : Spec) (nx2 : ((Int × Unit) × Unit) → Option Bool) (z3 : Int) : Option Bool :=
 cond (decide (z3 < (List.length as0.nodes : Int)))
 (cond (decide (0 ≤ z3))
 (Option.bind (as0.nodes[Int.toNat z3]?) fun y4 =>
 Option.bind (g45 y4) fun r5 =>
 cond (!r5)
 (some false)
 (nx2 ((IntKind.wrap .i64 (z3 + 1), ()), ())))
 (none))
 (some true)
def F95 (L : Lp) (g45 : Res → Option Bool) (as0 : Spec) : Option Bool :=
 cond (decide ((List.length as0.nodes : Int) < 1))
 (some false)
 (cond (decide (16 < (List.length as0.nodes : Int)))
 (some false)
 (L (fun (s1 : ((Int × Unit) × Unit)) nx2 => l95_0 g45 as0 nx2 s1.1.1) ((0, ()), ())))
theorem e95 (L : Lp) (g45 : Res → Option Bool) (x : s95.args.den) (h : denH s95.heap) : nrun [⟨45, s45, fun x h => g45 x.1⟩] L n95 s95 x h = F95 L g45 x.1 := by kernel_rfl
def f95 : Spec → Option Bool := F95 (@LN LOOPS) f45
@[reducible] def t95 : Ent := ⟨95, s95, fun x h => f95 x.1⟩
theorem k95 : chkNF Try.prog Try.f95 n95 = true := by kernel_rfl
theorem ok95 : NOk Try.prog t95 := NOk.body (T := [t45]) mixed (nall_cons ok45 nall_nil) (oneEach_of (by kernel_rfl)) Try.func95 k95 (by kernel_rfl) (fun x h => e95 _ _ x h)
def n94 : NFunc := ⟨4, .seq (.region 0 [
 ⟨(some 1), .move (.const (.bool false)), none, 0, none⟩] []) (.seq (.region 4 [
 ⟨(some 2), .load true 18 (.tmp 0), none, 0, none⟩,
 ⟨(some 3), .call (.func 95) [(false, (.tmp 2))] false 4, none, 0, none⟩,
 ⟨(some 1), .move (.tmp 3), none, 4, none⟩] []) (.ret)), [.tmp 1], true⟩
def s94 : Sig := ⟨(.cons (.iptr (.cons (.v (.list .res)) (.cons (.v (.list (.list (.int .i64)))) (.cons (.v (.list .queue)) (.cons (.v (.int .i64)) (.cons (.v (.int .i64)) (.cons (.v (.int .i64)) (.cons (.v (.int .i64)) (.cons (.v (.int .i64)) (.cons (.v (.int .i64)) (.cons (.v (.int .i64)) (.cons (.v (.int .i64)) (.cons (.v (.int .i64)) (.cons (.v (.int .i64)) (.cons (.v (.int .i64)) (.cons (.v (.int .i64)) (.cons (.v (.int .i64)) (.cons (.v (.int .i64)) (.cons (.v (.int .i64)) .nil)))))))))))))))))) 0) .nil), [], ((.v .bool), []), []⟩
def F94 (L : Lp) (g95 : Spec → Option Bool) (a0 : (List Res)) (a1 : (List (List Int))) (a2 : (List Queue)) (a3 : Int) (a4 : Int) (a5 : Int) (a6 : Int) (a7 : Int) (a8 : Int) (a9 : Int) (a10 : Int) (a11 : Int) (a12 : Int) (a13 : Int) (a14 : Int) (a15 : Int) (a16 : Int) (a17 : Int) : Option Bool :=
 Option.bind (g95 (Spec.mk a0 a1 a2 a3 (Weights.mk a4 a5 a6 a7) a8 a9 a10 a11 a12 a13 a14 a15 a16 a17)) fun r18 =>
 some r18
theorem e94 (L : Lp) (g95 : Spec → Option Bool) (x : s94.args.den) (h : denH s94.heap) : nrun [⟨95, s95, fun x h => g95 x.1⟩] L n94 s94 x h = F94 L g95 x.1.1 x.1.2.1 x.1.2.2.1 x.1.2.2.2.1 x.1.2.2.2.2.1 x.1.2.2.2.2.2.1 x.1.2.2.2.2.2.2.1 x.1.2.2.2.2.2.2.2.1 x.1.2.2.2.2.2.2.2.2.1 x.1.2.2.2.2.2.2.2.2.2.1 x.1.2.2.2.2.2.2.2.2.2.2.1 x.1.2.2.2.2.2.2.2.2.2.2.2.1 x.1.2.2.2.2.2.2.2.2.2.2.2.2.1 x.1.2.2.2.2.2.2.2.2.2.2.2.2.2.1 x.1.2.2.2.2.2.2.2.2.2.2.2.2.2.2.1 x.1.2.2.2.2.2.2.2.2.2.2.2.2.2.2.2.1 x.1.2.2.2.2.2.2.2.2.2.2.2.2.2.2.2.2.1 x.1.2.2.2.2.2.2.2.2.2.2.2.2.2.2.2.2.2.1 := by kernel_rfl
def f94 : (List Res) → (List (List Int)) → (List Queue) → Int → Int → Int → Int → Int → Int → Int → Int → Int → Int → Int → Int → Int → Int → Int → Option Bool := F94 (@LN LOOPS) f95
@[reducible] def t94 : Ent := ⟨94, s94, fun x h => f94 x.1.1 x.1.2.1 x.1.2.2.1 x.1.2.2.2.1 x.1.2.2.2.2.1 x.1.2.2.2.2.2.1 x.1.2.2.2.2.2.2.1 x.1.2.2.2.2.2.2.2.1 x.1.2.2.2.2.2.2.2.2.1 x.1.2.2.2.2.2.2.2.2.2.1 x.1.2.2.2.2.2.2.2.2.2.2.1 x.1.2.2.2.2.2.2.2.2.2.2.2.1 x.1.2.2.2.2.2.2.2.2.2.2.2.2.1 x.1.2.2.2.2.2.2.2.2.2.2.2.2.2.1 x.1.2.2.2.2.2.2.2.2.2.2.2.2.2.2.1 x.1.2.2.2.2.2.2.2.2.2.2.2.2.2.2.2.1 x.1.2.2.2.2.2.2.2.2.2.2.2.2.2.2.2.2.1 x.1.2.2.2.2.2.2.2.2.2.2.2.2.2.2.2.2.2.1⟩
theorem k94 : chkNF Try.prog Try.f94 n94 = true := by kernel_rfl
theorem ok94 : NOk Try.prog t94 := NOk.body (T := [t95]) mixed (nall_cons ok95 nall_nil) (oneEach_of (by kernel_rfl)) Try.func94 k94 (by kernel_rfl) (fun x h => e94 _ _ x h)
def n115 : NFunc := ⟨24, .seq (.region 0 [
 ⟨(some 4), .move (.const (.bool false)), none, 0, none⟩] []) (.seq (.region 0 [
 ⟨(some 5), .move (.const (.int .i64 (-1))), none, 0, none⟩] []) (.seq (.seq (.region 0 [
 ⟨(some 8), .move (.tmp 0), none, 0, none⟩,
 ⟨(some 9), .len (.tmp 8), none, 0, none⟩,
 ⟨(some 10), .move (.const (.int .i64 (0))), none, 0, none⟩] []) (.block 0 (.loop [1, 5, 8, 9, 10] ⟨[(5, (.v (.int .i64))), (10, (.v (.int .i64)))], [1, 8, 9], []⟩ (.seq (.region 0 [
 ⟨(some 11), .bin .lss (.tmp 10) (.tmp 9), none, 0, none⟩] []) (.seq (.cond (.tmp 11) (.skip) (.exit 0)) (.seq (.block 1 (.seq (.region 0 [
 ⟨(some 12), .indexSl 1 (.tmp 8) (.tmp 10), none, 0, none⟩,
 ⟨(some 13), .load false 1 (.tmp 12), none, 0, none⟩,
 ⟨(some 7), .move (.tmp 13), none, 0, none⟩] []) (.seq (.seq (.region 0 [
 ⟨(some 14), .move (.tmp 7), none, 0, none⟩,
 ⟨(some 15), .move (.tmp 5), none, 0, none⟩,
 ⟨(some 16), .bin .leq (.tmp 14) (.tmp 15), none, 0, none⟩,
 ⟨(some 17), .move (.tmp 16), none, 0, none⟩,
 ⟨(some 18), .move (.tmp 7), (some (17, false)), 0, none⟩,
 ⟨(some 19), .move (.tmp 1), (some (17, false)), 0, none⟩,
 ⟨(some 20), .bin .geq (.tmp 18) (.tmp 19), (some (17, false)), 0, none⟩,
 ⟨(some 21), .pick (.tmp 17) (.const (.bool true)) (.tmp 20), none, 0, none⟩] []) (.cond (.tmp 21) (.seq (.region 0 [
 ⟨(some 4), .move (.const (.bool false)), none, 0, none⟩] []) (.ret)) (.skip))) (.region 0 [
 ⟨(some 22), .move (.tmp 7), none, 0, none⟩,
 ⟨(some 5), .move (.tmp 22), none, 0, none⟩] [])))) (.region 0 [
 ⟨(some 23), .bin .add (.tmp 10) (.const (.int .i64 (1))), none, 0, none⟩,
 ⟨(some 10), .move (.tmp 23), none, 0, none⟩] []))))))) (.seq (.region 0 [
 ⟨(some 4), .move (.const (.bool true)), none, 0, none⟩] []) (.ret)))), [.tmp 4], true⟩
def s115 : Sig := ⟨(.cons (.v (.list (.int .i64))) (.cons (.v (.int .i64)) .nil)), [], ((.v .bool), []), []⟩
def l115_0 (al0 : (List Int)) (end1 : Int) (nx3 : ((Int × (Int × Unit)) × Unit) → Option Bool) (last4 : Int) (z5 : Int) : Option Bool :=
 cond (decide (z5 < (List.length al0 : Int)))
 (cond (decide (0 ≤ z5))
 (Option.bind (al0[Int.toNat z5]?) fun y6 =>
 cond (decide (y6 ≤ last4))
 (some false)
 (cond (decide (end1 ≤ y6))
 (some false)
 (nx3 ((y6, IntKind.wrap .i64 (z5 + 1), ()), ()))))
 (none))
 (some true)
def F115 (L : Lp)  (al0 : (List Int)) (end1 : Int) : Option Bool :=
 L (fun (s2 : ((Int × (Int × Unit)) × Unit)) nx3 => l115_0 al0 end1 nx3 s2.1.1 s2.1.2.1) (((-1), 0, ()), ())
theorem e115 (L : Lp)  (x : s115.args.den) (h : denH s115.heap) : nrun [] L n115 s115 x h = F115 L  x.1 x.2.1 := by kernel_rfl
def f115 : (List Int) → Int → Option Bool := F115 (@LN LOOPS) 
@[reducible] def t115 : Ent := ⟨115, s115, fun x h => f115 x.1 x.2.1⟩
theorem k115 : chkNF Try.prog Try.f115 n115 = true := by kernel_rfl
theorem ok115 : NOk Try.prog t115 := NOk.body (T := []) mixed nall_nil (oneEach_of (by kernel_rfl)) Try.func115 k115 (by kernel_rfl) (fun x h => e115 _  x h)
def n97 : NFunc := ⟨34, .seq (.region 1 [
 ⟨(some 1), .box 18 (.tmp 0), none, 0, none⟩,
 ⟨(some 2), .move (.const (.bool false)), none, 1, none⟩] []) (.seq (.seq (.region 0 [
 ⟨(some 5), .fieldAddr 1 (.tmp 1), none, 0, none⟩,
 ⟨(some 6), .load false 1 (.tmp 5), none, 0, none⟩,
 ⟨(some 7), .len (.tmp 6), none, 0, none⟩,
 ⟨(some 8), .bin .lss (.tmp 7) (.const (.int .i64 (1))), none, 0, none⟩,
 ⟨(some 9), .move (.tmp 8), none, 0, none⟩,
 ⟨(some 10), .fieldAddr 1 (.tmp 1), (some (9, false)), 0, none⟩,
 ⟨(some 11), .load false 1 (.tmp 10), (some (9, false)), 0, none⟩,
 ⟨(some 12), .len (.tmp 11), (some (9, false)), 0, none⟩,
 ⟨(some 13), .bin .gtr (.tmp 12) (.const (.int .i64 (8))), (some (9, false)), 0, none⟩,
 ⟨(some 14), .pick (.tmp 9) (.const (.bool true)) (.tmp 13), none, 0, none⟩] []) (.cond (.tmp 14) (.seq (.region 0 [
 ⟨(some 2), .move (.const (.bool false)), none, 0, none⟩] []) (.ret)) (.skip))) (.seq (.seq (.region 0 [
 ⟨(some 15), .fieldAddr 1 (.tmp 1), none, 0, none⟩,
 ⟨(some 16), .load false 1 (.tmp 15), none, 0, none⟩,
 ⟨(some 17), .len (.tmp 16), none, 0, none⟩,
 ⟨(some 18), .move (.const (.int .i64 (0))), none, 0, none⟩] []) (.block 0 (.loop [1, 16, 17, 18] ⟨[(1, (.ptr 0 0 0)), (18, (.v (.int .i64)))], [16, 17], [.one false .spec]⟩ (.seq (.region 0 [
 ⟨(some 19), .bin .lss (.tmp 18) (.tmp 17), none, 0, none⟩] []) (.seq (.cond (.tmp 19) (.skip) (.exit 0)) (.seq (.block 1 (.seq (.region 0 [
 ⟨(some 20), .indexSl 1 (.tmp 16) (.tmp 18), none, 0, none⟩,
 ⟨(some 21), .load false 1 (.tmp 20), none, 0, none⟩,
 ⟨(some 4), .move (.tmp 21), none, 0, none⟩] []) (.seq (.region 4 [
 ⟨(some 22), .move (.tmp 4), none, 0, none⟩,
 ⟨(some 23), .len (.tmp 22), none, 0, none⟩,
 ⟨(some 24), .bin .lss (.tmp 23) (.const (.int .i64 (1))), none, 0, none⟩,
 ⟨(some 25), .move (.tmp 24), none, 0, none⟩,
 ⟨(some 26), .move (.tmp 4), (some (25, false)), 0, none⟩,
 ⟨(some 27), .fieldAddr 0 (.tmp 1), (some (25, false)), 0, none⟩,
 ⟨(some 28), .load false 1 (.tmp 27), (some (25, false)), 0, none⟩,
 ⟨(some 29), .len (.tmp 28), (some (25, false)), 0, none⟩,
 ⟨(some 30), .call (.func 115) [(false, (.tmp 26)), (false, (.tmp 29))] false 4, (some (25, false)), 0, none⟩,
 ⟨(some 31), .un .not (.tmp 30), (some (25, false)), 4, none⟩,
 ⟨(some 32), .pick (.tmp 25) (.const (.bool true)) (.tmp 31), none, 4, none⟩] []) (.cond (.tmp 32) (.seq (.region 0 [
 ⟨(some 2), .move (.const (.bool false)), none, 0, none⟩] []) (.ret)) (.skip))))) (.region 0 [
 ⟨(some 33), .bin .add (.tmp 18) (.const (.int .i64 (1))), none, 0, none⟩,
 ⟨(some 18), .move (.tmp 33), none, 0, none⟩] []))))))) (.seq (.region 0 [
 ⟨(some 2), .move (.const (.bool true)), none, 0, none⟩] []) (.ret)))), [.tmp 2], true⟩
def s97 : Sig := ⟨(.cons (.v .spec) .nil), [], ((.v .bool), []), []⟩
def l97_0 (g115 : (List Int) → Int → Option Bool) (as0 : Spec) (nx2 : ((Unit × (Int × Unit)) × (Spec × Unit)) → Option Bool) (z3 : Int) (z4 : Spec) : Option Bool :=
 cond (decide (z3 < (List.length as0.parts : Int)))
 (cond (decide (0 ≤ z3))
 (Option.bind (as0.parts[Int.toNat z3]?) fun y5 =>
 cond (decide ((List.length y5 : Int) < 1))
 (some false)
 (Option.bind (g115 y5 (List.length z4.nodes : Int)) fun r6 =>
 cond (!r6)
 (some false)
 (nx2 (((), IntKind.wrap .i64 (z3 + 1), ()), (z4, ())))))
 (none))
 (some true)
def F97 (L : Lp) (g115 : (List Int) → Int → Option Bool) (as0 : Spec) : Option Bool :=
 cond (decide ((List.length as0.parts : Int) < 1))
 (some false)
 (cond (decide (8 < (List.length as0.parts : Int)))
 (some false)
 (L (fun (s1 : ((Unit × (Int × Unit)) × (Spec × Unit))) nx2 => l97_0 g115 as0 nx2 s1.1.2.1 s1.2.1) (((), 0, ()), (as0, ()))))
theorem e97 (L : Lp) (g115 : (List Int) → Int → Option Bool) (x : s97.args.den) (h : denH s97.heap) : nrun [⟨115, s115, fun x h => g115 x.1 x.2.1⟩] L n97 s97 x h = F97 L g115 x.1 := by kernel_rfl
def f97 : Spec → Option Bool := F97 (@LN LOOPS) f115
@[reducible] def t97 : Ent := ⟨97, s97, fun x h => f97 x.1⟩
theorem k97 : chkNF Try.prog Try.f97 n97 = true := by kernel_rfl
theorem ok97 : NOk Try.prog t97 := NOk.body (T := [t115]) mixed (nall_cons ok115 nall_nil) (oneEach_of (by kernel_rfl)) Try.func97 k97 (by kernel_rfl) (fun x h => e97 _ _ x h)
def n96 : NFunc := ⟨4, .seq (.region 0 [
 ⟨(some 1), .move (.const (.bool false)), none, 0, none⟩] []) (.seq (.region 4 [
 ⟨(some 2), .load true 18 (.tmp 0), none, 0, none⟩,
 ⟨(some 3), .call (.func 97) [(false, (.tmp 2))] false 4, none, 0, none⟩,
 ⟨(some 1), .move (.tmp 3), none, 4, none⟩] []) (.ret)), [.tmp 1], true⟩
def s96 : Sig := ⟨(.cons (.iptr (.cons (.v (.list .res)) (.cons (.v (.list (.list (.int .i64)))) (.cons (.v (.list .queue)) (.cons (.v (.int .i64)) (.cons (.v (.int .i64)) (.cons (.v (.int .i64)) (.cons (.v (.int .i64)) (.cons (.v (.int .i64)) (.cons (.v (.int .i64)) (.cons (.v (.int .i64)) (.cons (.v (.int .i64)) (.cons (.v (.int .i64)) (.cons (.v (.int .i64)) (.cons (.v (.int .i64)) (.cons (.v (.int .i64)) (.cons (.v (.int .i64)) (.cons (.v (.int .i64)) (.cons (.v (.int .i64)) .nil)))))))))))))))))) 0) .nil), [], ((.v .bool), []), []⟩
def F96 (L : Lp) (g97 : Spec → Option Bool) (a0 : (List Res)) (a1 : (List (List Int))) (a2 : (List Queue)) (a3 : Int) (a4 : Int) (a5 : Int) (a6 : Int) (a7 : Int) (a8 : Int) (a9 : Int) (a10 : Int) (a11 : Int) (a12 : Int) (a13 : Int) (a14 : Int) (a15 : Int) (a16 : Int) (a17 : Int) : Option Bool :=
 Option.bind (g97 (Spec.mk a0 a1 a2 a3 (Weights.mk a4 a5 a6 a7) a8 a9 a10 a11 a12 a13 a14 a15 a16 a17)) fun r18 =>
 some r18
theorem e96 (L : Lp) (g97 : Spec → Option Bool) (x : s96.args.den) (h : denH s96.heap) : nrun [⟨97, s97, fun x h => g97 x.1⟩] L n96 s96 x h = F96 L g97 x.1.1 x.1.2.1 x.1.2.2.1 x.1.2.2.2.1 x.1.2.2.2.2.1 x.1.2.2.2.2.2.1 x.1.2.2.2.2.2.2.1 x.1.2.2.2.2.2.2.2.1 x.1.2.2.2.2.2.2.2.2.1 x.1.2.2.2.2.2.2.2.2.2.1 x.1.2.2.2.2.2.2.2.2.2.2.1 x.1.2.2.2.2.2.2.2.2.2.2.2.1 x.1.2.2.2.2.2.2.2.2.2.2.2.2.1 x.1.2.2.2.2.2.2.2.2.2.2.2.2.2.1 x.1.2.2.2.2.2.2.2.2.2.2.2.2.2.2.1 x.1.2.2.2.2.2.2.2.2.2.2.2.2.2.2.2.1 x.1.2.2.2.2.2.2.2.2.2.2.2.2.2.2.2.2.1 x.1.2.2.2.2.2.2.2.2.2.2.2.2.2.2.2.2.2.1 := by kernel_rfl
def f96 : (List Res) → (List (List Int)) → (List Queue) → Int → Int → Int → Int → Int → Int → Int → Int → Int → Int → Int → Int → Int → Int → Int → Option Bool := F96 (@LN LOOPS) f97
@[reducible] def t96 : Ent := ⟨96, s96, fun x h => f96 x.1.1 x.1.2.1 x.1.2.2.1 x.1.2.2.2.1 x.1.2.2.2.2.1 x.1.2.2.2.2.2.1 x.1.2.2.2.2.2.2.1 x.1.2.2.2.2.2.2.2.1 x.1.2.2.2.2.2.2.2.2.1 x.1.2.2.2.2.2.2.2.2.2.1 x.1.2.2.2.2.2.2.2.2.2.2.1 x.1.2.2.2.2.2.2.2.2.2.2.2.1 x.1.2.2.2.2.2.2.2.2.2.2.2.2.1 x.1.2.2.2.2.2.2.2.2.2.2.2.2.2.1 x.1.2.2.2.2.2.2.2.2.2.2.2.2.2.2.1 x.1.2.2.2.2.2.2.2.2.2.2.2.2.2.2.2.1 x.1.2.2.2.2.2.2.2.2.2.2.2.2.2.2.2.2.1 x.1.2.2.2.2.2.2.2.2.2.2.2.2.2.2.2.2.2.1⟩
theorem k96 : chkNF Try.prog Try.f96 n96 = true := by kernel_rfl
theorem ok96 : NOk Try.prog t96 := NOk.body (T := [t97]) mixed (nall_cons ok97 nall_nil) (oneEach_of (by kernel_rfl)) Try.func96 k96 (by kernel_rfl) (fun x h => e96 _ _ x h)
def n116 : NFunc := ⟨12, .seq (.region 0 [
 ⟨(some 3), .move (.const (.bool false)), none, 0, none⟩] []) (.seq (.region 0 [
 ⟨(some 4), .load false 1 (.tmp 0), none, 0, none⟩,
 ⟨(some 5), .load false 1 (.tmp 1), none, 0, none⟩,
 ⟨(some 6), .bin .leq (.tmp 4) (.tmp 5), none, 0, none⟩,
 ⟨(some 7), .move (.tmp 6), none, 0, none⟩,
 ⟨(some 8), .load false 1 (.tmp 1), (some (7, true)), 0, none⟩,
 ⟨(some 9), .load false 1 (.tmp 2), (some (7, true)), 0, none⟩,
 ⟨(some 10), .bin .leq (.tmp 8) (.tmp 9), (some (7, true)), 0, none⟩,
 ⟨(some 11), .pick (.tmp 7) (.tmp 10) (.const (.bool false)), none, 0, none⟩,
 ⟨(some 3), .move (.tmp 11), none, 0, none⟩] []) (.ret)), [.tmp 3], true⟩
def s116 : Sig := ⟨(.cons (.iptr (.cons (.v (.int .i64)) .nil) 0) (.cons (.iptr (.cons (.v (.int .i64)) .nil) 0) (.cons (.iptr (.cons (.v (.int .i64)) .nil) 0) .nil))), [], ((.v .bool), []), []⟩
def F116 (L : Lp)  (a0 : Int) (a1 : Int) (a2 : Int) : Option Bool :=
 cond (decide (a0 ≤ a1))
 (some (decide (a1 ≤ a2)))
 (some false)
theorem e116 (L : Lp)  (x : s116.args.den) (h : denH s116.heap) : nrun [] L n116 s116 x h = F116 L  x.1.1 x.2.1.1 x.2.2.1.1 := by kernel_rfl
def f116 : Int → Int → Int → Option Bool := F116 (@LN LOOPS) 
@[reducible] def t116 : Ent := ⟨116, s116, fun x h => f116 x.1.1 x.2.1.1 x.2.2.1.1⟩
theorem k116 : chkNF Try.prog Try.f116 n116 = true := by kernel_rfl
theorem ok116 : NOk Try.prog t116 := NOk.body (T := []) mixed nall_nil (oneEach_of (by kernel_rfl)) Try.func116 k116 (by kernel_rfl) (fun x h => e116 _  x h)
def n100 : NFunc := ⟨69, .seq (.region 1 [
 ⟨(some 1), .box 18 (.tmp 0), none, 0, none⟩,
 ⟨(some 2), .move (.const (.bool false)), none, 1, none⟩] []) (.seq (.seq (.region 0 [
 ⟨(some 7), .fieldAddr 2 (.tmp 1), none, 0, none⟩,
 ⟨(some 8), .load false 1 (.tmp 7), none, 0, none⟩,
 ⟨(some 9), .len (.tmp 8), none, 0, none⟩,
 ⟨(some 10), .bin .lss (.tmp 9) (.const (.int .i64 (1))), none, 0, none⟩,
 ⟨(some 11), .move (.tmp 10), none, 0, none⟩,
 ⟨(some 12), .fieldAddr 2 (.tmp 1), (some (11, false)), 0, none⟩,
 ⟨(some 13), .load false 1 (.tmp 12), (some (11, false)), 0, none⟩,
 ⟨(some 14), .len (.tmp 13), (some (11, false)), 0, none⟩,
 ⟨(some 15), .bin .gtr (.tmp 14) (.const (.int .i64 (8))), (some (11, false)), 0, none⟩,
 ⟨(some 16), .pick (.tmp 11) (.const (.bool true)) (.tmp 15), none, 0, none⟩] []) (.cond (.tmp 16) (.seq (.region 0 [
 ⟨(some 2), .move (.const (.bool false)), none, 0, none⟩] []) (.ret)) (.skip))) (.seq (.seq (.region 0 [
 ⟨(some 17), .fieldAddr 2 (.tmp 1), none, 0, none⟩,
 ⟨(some 18), .load false 1 (.tmp 17), none, 0, none⟩,
 ⟨(some 19), .len (.tmp 18), none, 0, none⟩,
 ⟨(some 20), .move (.const (.int .i64 (0))), none, 0, none⟩] []) (.block 0 (.loop [1, 18, 19, 20] ⟨[(1, (.ptr 0 0 0)), (20, (.v (.int .i64)))], [18, 19], [.one false .spec]⟩ (.seq (.region 0 [
 ⟨(some 21), .bin .lss (.tmp 20) (.tmp 19), none, 0, none⟩] []) (.seq (.cond (.tmp 21) (.skip) (.exit 0)) (.seq (.block 1 (.seq (.region 1 [
 ⟨(some 22), .indexSl 6 (.tmp 18) (.tmp 20), none, 0, none⟩,
 ⟨(some 23), .load true 6 (.tmp 22), none, 0, none⟩,
 ⟨(some 4), .alloc [.int .i64 (0), .zsl, .int .i64 (0), .int .i64 (0), .int .i64 (0), .int .i64 (0)], none, 0, none⟩,
 ⟨none, .store 6 (.tmp 4) (.tmp 23), none, 1, none⟩] []) (.seq (.seq (.region 4 [
 ⟨(some 24), .fieldAddr 0 (.tmp 4), none, 0, none⟩,
 ⟨(some 25), .load false 1 (.tmp 24), none, 0, none⟩,
 ⟨(some 26), .bin .lss (.tmp 25) (.const (.int .i64 (0))), none, 0, none⟩,
 ⟨(some 27), .move (.tmp 26), none, 0, none⟩,
 ⟨(some 28), .fieldAddr 0 (.tmp 4), (some (27, false)), 0, none⟩,
 ⟨(some 29), .load false 1 (.tmp 28), (some (27, false)), 0, none⟩,
 ⟨(some 30), .fieldAddr 1 (.tmp 1), (some (27, false)), 0, none⟩,
 ⟨(some 31), .load false 1 (.tmp 30), (some (27, false)), 0, none⟩,
 ⟨(some 32), .len (.tmp 31), (some (27, false)), 0, none⟩,
 ⟨(some 33), .bin .geq (.tmp 29) (.tmp 32), (some (27, false)), 0, none⟩,
 ⟨(some 34), .pick (.tmp 27) (.const (.bool true)) (.tmp 33), none, 0, none⟩,
 ⟨(some 35), .move (.tmp 34), none, 0, none⟩,
 ⟨(some 36), .fieldAddr 1 (.tmp 4), (some (35, false)), 0, none⟩,
 ⟨(some 37), .load false 1 (.tmp 36), (some (35, false)), 0, none⟩,
 ⟨(some 38), .fieldAddr 3 (.tmp 1), (some (35, false)), 0, none⟩,
 ⟨(some 39), .load false 1 (.tmp 38), (some (35, false)), 0, none⟩,
 ⟨(some 40), .call (.func 115) [(false, (.tmp 37)), (false, (.tmp 39))] false 4, (some (35, false)), 0, none⟩,
 ⟨(some 41), .un .not (.tmp 40), (some (35, false)), 4, none⟩,
 ⟨(some 42), .pick (.tmp 35) (.const (.bool true)) (.tmp 41), none, 4, none⟩] []) (.cond (.tmp 42) (.seq (.region 0 [
 ⟨(some 2), .move (.const (.bool false)), none, 0, none⟩] []) (.ret)) (.skip))) (.seq (.seq (.region 0 [
 ⟨(some 43), .fieldAddr 2 (.tmp 4), none, 0, none⟩,
 ⟨(some 44), .load false 1 (.tmp 43), none, 0, none⟩,
 ⟨(some 45), .fieldAddr 3 (.tmp 4), none, 0, none⟩,
 ⟨(some 46), .load false 1 (.tmp 45), none, 0, none⟩,
 ⟨(some 47), .fieldAddr 4 (.tmp 4), none, 0, none⟩,
 ⟨(some 48), .load false 1 (.tmp 47), none, 0, none⟩,
 ⟨(some 49), .build [.int .i64 (0), .int .i64 (0), .int .i64 (0)] [(0, 1, (.tmp 44)), (1, 1, (.tmp 46)), (2, 1, (.tmp 48))], none, 0, none⟩,
 ⟨(some 50), .move (.const (.int .i64 (0))), none, 0, none⟩] []) (.block 2 (.loopU [1, 4, 18, 19, 20, 49, 50] 4 (.seq (.region 0 [
 ⟨(some 51), .bin .lss (.tmp 50) (.const (.int .i64 (3))), none, 0, none⟩] []) (.seq (.cond (.tmp 51) (.skip) (.exit 2)) (.seq (.block 3 (.seq (.region 0 [
 ⟨(some 52), .indexVal false 3 1 (.tmp 49) (.tmp 50), none, 0, none⟩,
 ⟨(some 6), .move (.tmp 52), none, 0, none⟩] []) (.seq (.region 0 [
 ⟨(some 53), .move (.tmp 6), none, 0, none⟩,
 ⟨(some 54), .bin .lss (.tmp 53) (.const (.int .i64 (1))), none, 0, none⟩,
 ⟨(some 55), .move (.tmp 54), none, 0, none⟩,
 ⟨(some 56), .move (.tmp 6), (some (55, false)), 0, none⟩,
 ⟨(some 57), .bin .gtr (.tmp 56) (.const (.int .i64 (256))), (some (55, false)), 0, none⟩,
 ⟨(some 58), .pick (.tmp 55) (.const (.bool true)) (.tmp 57), none, 0, none⟩] []) (.cond (.tmp 58) (.seq (.region 0 [
 ⟨(some 2), .move (.const (.bool false)), none, 0, none⟩] []) (.ret)) (.skip))))) (.region 0 [
 ⟨(some 59), .bin .add (.tmp 50) (.const (.int .i64 (1))), none, 0, none⟩,
 ⟨(some 50), .move (.tmp 59), none, 0, none⟩] []))))))) (.seq (.region 0 [
 ⟨(some 60), .fieldAddr 5 (.tmp 4), none, 0, none⟩,
 ⟨(some 61), .load false 1 (.tmp 60), none, 0, none⟩,
 ⟨(some 62), .bin .lss (.tmp 61) (.const (.int .i64 (0))), none, 0, none⟩,
 ⟨(some 63), .move (.tmp 62), none, 0, none⟩,
 ⟨(some 64), .fieldAddr 5 (.tmp 4), (some (63, false)), 0, none⟩,
 ⟨(some 65), .load false 1 (.tmp 64), (some (63, false)), 0, none⟩,
 ⟨(some 66), .bin .gtr (.tmp 65) (.const (.int .i64 (100))), (some (63, false)), 0, none⟩,
 ⟨(some 67), .pick (.tmp 63) (.const (.bool true)) (.tmp 66), none, 0, none⟩] []) (.cond (.tmp 67) (.seq (.region 0 [
 ⟨(some 2), .move (.const (.bool false)), none, 0, none⟩] []) (.ret)) (.skip))))))) (.region 0 [
 ⟨(some 68), .bin .add (.tmp 20) (.const (.int .i64 (1))), none, 0, none⟩,
 ⟨(some 20), .move (.tmp 68), none, 0, none⟩] []))))))) (.seq (.region 0 [
 ⟨(some 2), .move (.const (.bool true)), none, 0, none⟩] []) (.ret)))), [.tmp 2], true⟩
def s100 : Sig := ⟨(.cons (.v .spec) .nil), [], ((.v .bool), []), []⟩
def l100_0 (g115 : (List Int) → Int → Option Bool) (as0 : Spec) (nx2 : ((Unit × (Int × Unit)) × (Spec × Unit)) → Option Bool) (z3 : Int) (z4 : Spec) : Option Bool :=
 cond (decide (z3 < (List.length as0.queues : Int)))
 (cond (decide (0 ≤ z3))
 (Option.bind (as0.queues[Int.toNat z3]?) fun y5 =>
 cond (decide (y5.part < 0))
 (some false)
 (cond (decide ((List.length z4.parts : Int) ≤ y5.part))
 (some false)
 (Option.bind (g115 y5.users z4.users) fun r6 =>
 cond (!r6)
 (some false)
 (cond (decide (y5.maxJobs < 1))
 (some false)
 (cond (decide (256 < y5.maxJobs))
 (some false)
 (cond (decide (y5.maxRun < 1))
 (some false)
 (cond (decide (256 < y5.maxRun))
 (some false)
 (cond (decide (y5.maxUser < 1))
 (some false)
 (cond (decide (256 < y5.maxUser))
 (some false)
 (cond (decide (y5.qos < 0))
 (some false)
 (cond (decide (100 < y5.qos))
 (some false)
 (nx2 (((), IntKind.wrap .i64 (z3 + 1), ()), (z4, ()))))))))))))))
 (none))
 (some true)
def F100 (L : Lp) (g115 : (List Int) → Int → Option Bool) (as0 : Spec) : Option Bool :=
 cond (decide ((List.length as0.queues : Int) < 1))
 (some false)
 (cond (decide (8 < (List.length as0.queues : Int)))
 (some false)
 (L (fun (s1 : ((Unit × (Int × Unit)) × (Spec × Unit))) nx2 => l100_0 g115 as0 nx2 s1.1.2.1 s1.2.1) (((), 0, ()), (as0, ()))))
theorem e100 (L : Lp) (g115 : (List Int) → Int → Option Bool) (x : s100.args.den) (h : denH s100.heap) : nrun [⟨115, s115, fun x h => g115 x.1 x.2.1⟩] L n100 s100 x h = F100 L g115 x.1 := by kernel_rfl
def f100 : Spec → Option Bool := F100 (@LN LOOPS) f115
@[reducible] def t100 : Ent := ⟨100, s100, fun x h => f100 x.1⟩
theorem k100 : chkNF Try.prog Try.f100 n100 = true := by kernel_rfl
theorem ok100 : NOk Try.prog t100 := NOk.body (T := [t115]) mixed (nall_cons ok115 nall_nil) (oneEach_of (by kernel_rfl)) Try.func100 k100 (by kernel_rfl) (fun x h => e100 _ _ x h)
def n99 : NFunc := ⟨4, .seq (.region 0 [
 ⟨(some 1), .move (.const (.bool false)), none, 0, none⟩] []) (.seq (.region 4 [
 ⟨(some 2), .load true 18 (.tmp 0), none, 0, none⟩,
 ⟨(some 3), .call (.func 100) [(false, (.tmp 2))] false 4, none, 0, none⟩,
 ⟨(some 1), .move (.tmp 3), none, 4, none⟩] []) (.ret)), [.tmp 1], true⟩
def s99 : Sig := ⟨(.cons (.iptr (.cons (.v (.list .res)) (.cons (.v (.list (.list (.int .i64)))) (.cons (.v (.list .queue)) (.cons (.v (.int .i64)) (.cons (.v (.int .i64)) (.cons (.v (.int .i64)) (.cons (.v (.int .i64)) (.cons (.v (.int .i64)) (.cons (.v (.int .i64)) (.cons (.v (.int .i64)) (.cons (.v (.int .i64)) (.cons (.v (.int .i64)) (.cons (.v (.int .i64)) (.cons (.v (.int .i64)) (.cons (.v (.int .i64)) (.cons (.v (.int .i64)) (.cons (.v (.int .i64)) (.cons (.v (.int .i64)) .nil)))))))))))))))))) 0) .nil), [], ((.v .bool), []), []⟩
def F99 (L : Lp) (g100 : Spec → Option Bool) (a0 : (List Res)) (a1 : (List (List Int))) (a2 : (List Queue)) (a3 : Int) (a4 : Int) (a5 : Int) (a6 : Int) (a7 : Int) (a8 : Int) (a9 : Int) (a10 : Int) (a11 : Int) (a12 : Int) (a13 : Int) (a14 : Int) (a15 : Int) (a16 : Int) (a17 : Int) : Option Bool :=
 Option.bind (g100 (Spec.mk a0 a1 a2 a3 (Weights.mk a4 a5 a6 a7) a8 a9 a10 a11 a12 a13 a14 a15 a16 a17)) fun r18 =>
 some r18
theorem e99 (L : Lp) (g100 : Spec → Option Bool) (x : s99.args.den) (h : denH s99.heap) : nrun [⟨100, s100, fun x h => g100 x.1⟩] L n99 s99 x h = F99 L g100 x.1.1 x.1.2.1 x.1.2.2.1 x.1.2.2.2.1 x.1.2.2.2.2.1 x.1.2.2.2.2.2.1 x.1.2.2.2.2.2.2.1 x.1.2.2.2.2.2.2.2.1 x.1.2.2.2.2.2.2.2.2.1 x.1.2.2.2.2.2.2.2.2.2.1 x.1.2.2.2.2.2.2.2.2.2.2.1 x.1.2.2.2.2.2.2.2.2.2.2.2.1 x.1.2.2.2.2.2.2.2.2.2.2.2.2.1 x.1.2.2.2.2.2.2.2.2.2.2.2.2.2.1 x.1.2.2.2.2.2.2.2.2.2.2.2.2.2.2.1 x.1.2.2.2.2.2.2.2.2.2.2.2.2.2.2.2.1 x.1.2.2.2.2.2.2.2.2.2.2.2.2.2.2.2.2.1 x.1.2.2.2.2.2.2.2.2.2.2.2.2.2.2.2.2.2.1 := by kernel_rfl
def f99 : (List Res) → (List (List Int)) → (List Queue) → Int → Int → Int → Int → Int → Int → Int → Int → Int → Int → Int → Int → Int → Int → Int → Option Bool := F99 (@LN LOOPS) f100
@[reducible] def t99 : Ent := ⟨99, s99, fun x h => f99 x.1.1 x.1.2.1 x.1.2.2.1 x.1.2.2.2.1 x.1.2.2.2.2.1 x.1.2.2.2.2.2.1 x.1.2.2.2.2.2.2.1 x.1.2.2.2.2.2.2.2.1 x.1.2.2.2.2.2.2.2.2.1 x.1.2.2.2.2.2.2.2.2.2.1 x.1.2.2.2.2.2.2.2.2.2.2.1 x.1.2.2.2.2.2.2.2.2.2.2.2.1 x.1.2.2.2.2.2.2.2.2.2.2.2.2.1 x.1.2.2.2.2.2.2.2.2.2.2.2.2.2.1 x.1.2.2.2.2.2.2.2.2.2.2.2.2.2.2.1 x.1.2.2.2.2.2.2.2.2.2.2.2.2.2.2.2.1 x.1.2.2.2.2.2.2.2.2.2.2.2.2.2.2.2.2.1 x.1.2.2.2.2.2.2.2.2.2.2.2.2.2.2.2.2.2.1⟩
theorem k99 : chkNF Try.prog Try.f99 n99 = true := by kernel_rfl
theorem ok99 : NOk Try.prog t99 := NOk.body (T := [t100]) mixed (nall_cons ok100 nall_nil) (oneEach_of (by kernel_rfl)) Try.func99 k99 (by kernel_rfl) (fun x h => e99 _ _ x h)
def n102 : NFunc := ⟨24, .seq (.region 1 [
 ⟨(some 1), .box 4 (.tmp 0), none, 0, none⟩,
 ⟨(some 2), .move (.const (.bool false)), none, 1, none⟩] []) (.seq (.seq (.region 0 [
 ⟨(some 5), .fieldAddr 0 (.tmp 1), none, 0, none⟩,
 ⟨(some 6), .load false 1 (.tmp 5), none, 0, none⟩,
 ⟨(some 7), .fieldAddr 1 (.tmp 1), none, 0, none⟩,
 ⟨(some 8), .load false 1 (.tmp 7), none, 0, none⟩,
 ⟨(some 9), .fieldAddr 2 (.tmp 1), none, 0, none⟩,
 ⟨(some 10), .load false 1 (.tmp 9), none, 0, none⟩,
 ⟨(some 11), .fieldAddr 3 (.tmp 1), none, 0, none⟩,
 ⟨(some 12), .load false 1 (.tmp 11), none, 0, none⟩,
 ⟨(some 13), .build [.int .i64 (0), .int .i64 (0), .int .i64 (0), .int .i64 (0)] [(0, 1, (.tmp 6)), (1, 1, (.tmp 8)), (2, 1, (.tmp 10)), (3, 1, (.tmp 12))], none, 0, none⟩,
 ⟨(some 14), .move (.const (.int .i64 (0))), none, 0, none⟩] []) (.block 0 (.loopU [13, 14] 5 (.seq (.region 0 [
 ⟨(some 15), .bin .lss (.tmp 14) (.const (.int .i64 (4))), none, 0, none⟩] []) (.seq (.cond (.tmp 15) (.skip) (.exit 0)) (.seq (.block 1 (.seq (.region 0 [
 ⟨(some 16), .indexVal false 4 1 (.tmp 13) (.tmp 14), none, 0, none⟩,
 ⟨(some 4), .move (.tmp 16), none, 0, none⟩] []) (.seq (.region 0 [
 ⟨(some 17), .move (.tmp 4), none, 0, none⟩,
 ⟨(some 18), .bin .lss (.tmp 17) (.const (.int .i64 (0))), none, 0, none⟩,
 ⟨(some 19), .move (.tmp 18), none, 0, none⟩,
 ⟨(some 20), .move (.tmp 4), (some (19, false)), 0, none⟩,
 ⟨(some 21), .bin .gtr (.tmp 20) (.const (.int .i64 (1000))), (some (19, false)), 0, none⟩,
 ⟨(some 22), .pick (.tmp 19) (.const (.bool true)) (.tmp 21), none, 0, none⟩] []) (.cond (.tmp 22) (.seq (.region 0 [
 ⟨(some 2), .move (.const (.bool false)), none, 0, none⟩] []) (.ret)) (.skip))))) (.region 0 [
 ⟨(some 23), .bin .add (.tmp 14) (.const (.int .i64 (1))), none, 0, none⟩,
 ⟨(some 14), .move (.tmp 23), none, 0, none⟩] []))))))) (.seq (.region 0 [
 ⟨(some 2), .move (.const (.bool true)), none, 0, none⟩] []) (.ret))), [.tmp 2], true⟩
def s102 : Sig := ⟨(.cons (.v .weights) .nil), [], ((.v .bool), []), []⟩
def F102 (L : Lp)  (w0 : Weights) : Option Bool :=
 cond (decide (w0.age < 0))
 (some false)
 (cond (decide (1000 < w0.age))
 (some false)
 (cond (decide (w0.size < 0))
 (some false)
 (cond (decide (1000 < w0.size))
 (some false)
 (cond (decide (w0.qos < 0))
 (some false)
 (cond (decide (1000 < w0.qos))
 (some false)
 (cond (decide (w0.share < 0))
 (some false)
 (cond (decide (1000 < w0.share))
 (some false)
 (some true))))))))
theorem e102 (L : Lp)  (x : s102.args.den) (h : denH s102.heap) : nrun [] L n102 s102 x h = F102 L  x.1 := by kernel_rfl
def f102 : Weights → Option Bool := F102 (@LN LOOPS) 
@[reducible] def t102 : Ent := ⟨102, s102, fun x h => f102 x.1⟩
theorem k102 : chkNF Try.prog Try.f102 n102 = true := by kernel_rfl
theorem ok102 : NOk Try.prog t102 := NOk.body (T := []) mixed nall_nil (oneEach_of (by kernel_rfl)) Try.func102 k102 (by kernel_rfl) (fun x h => e102 _  x h)
def n101 : NFunc := ⟨5, .seq (.region 0 [
 ⟨(some 1), .move (.const (.bool false)), none, 0, none⟩] []) (.seq (.region 4 [
 ⟨(some 2), .fieldAddr 4 (.tmp 0), none, 0, none⟩,
 ⟨(some 3), .load true 4 (.tmp 2), none, 0, none⟩,
 ⟨(some 4), .call (.func 102) [(false, (.tmp 3))] false 4, none, 0, none⟩,
 ⟨(some 1), .move (.tmp 4), none, 4, none⟩] []) (.ret)), [.tmp 1], true⟩
def s101 : Sig := ⟨(.cons (.iptr (.cons (.v (.list .res)) (.cons (.v (.list (.list (.int .i64)))) (.cons (.v (.list .queue)) (.cons (.v (.int .i64)) (.cons (.v (.int .i64)) (.cons (.v (.int .i64)) (.cons (.v (.int .i64)) (.cons (.v (.int .i64)) (.cons (.v (.int .i64)) (.cons (.v (.int .i64)) (.cons (.v (.int .i64)) (.cons (.v (.int .i64)) (.cons (.v (.int .i64)) (.cons (.v (.int .i64)) (.cons (.v (.int .i64)) (.cons (.v (.int .i64)) (.cons (.v (.int .i64)) (.cons (.v (.int .i64)) .nil)))))))))))))))))) 0) .nil), [], ((.v .bool), []), []⟩
def F101 (L : Lp) (g102 : Weights → Option Bool) (a0 : (List Res)) (a1 : (List (List Int))) (a2 : (List Queue)) (a3 : Int) (a4 : Int) (a5 : Int) (a6 : Int) (a7 : Int) (a8 : Int) (a9 : Int) (a10 : Int) (a11 : Int) (a12 : Int) (a13 : Int) (a14 : Int) (a15 : Int) (a16 : Int) (a17 : Int) : Option Bool :=
 Option.bind (g102 (Weights.mk a4 a5 a6 a7)) fun r18 =>
 some r18
theorem e101 (L : Lp) (g102 : Weights → Option Bool) (x : s101.args.den) (h : denH s101.heap) : nrun [⟨102, s102, fun x h => g102 x.1⟩] L n101 s101 x h = F101 L g102 x.1.1 x.1.2.1 x.1.2.2.1 x.1.2.2.2.1 x.1.2.2.2.2.1 x.1.2.2.2.2.2.1 x.1.2.2.2.2.2.2.1 x.1.2.2.2.2.2.2.2.1 x.1.2.2.2.2.2.2.2.2.1 x.1.2.2.2.2.2.2.2.2.2.1 x.1.2.2.2.2.2.2.2.2.2.2.1 x.1.2.2.2.2.2.2.2.2.2.2.2.1 x.1.2.2.2.2.2.2.2.2.2.2.2.2.1 x.1.2.2.2.2.2.2.2.2.2.2.2.2.2.1 x.1.2.2.2.2.2.2.2.2.2.2.2.2.2.2.1 x.1.2.2.2.2.2.2.2.2.2.2.2.2.2.2.2.1 x.1.2.2.2.2.2.2.2.2.2.2.2.2.2.2.2.2.1 x.1.2.2.2.2.2.2.2.2.2.2.2.2.2.2.2.2.2.1 := by kernel_rfl
def f101 : (List Res) → (List (List Int)) → (List Queue) → Int → Int → Int → Int → Int → Int → Int → Int → Int → Int → Int → Int → Int → Int → Int → Option Bool := F101 (@LN LOOPS) f102
@[reducible] def t101 : Ent := ⟨101, s101, fun x h => f101 x.1.1 x.1.2.1 x.1.2.2.1 x.1.2.2.2.1 x.1.2.2.2.2.1 x.1.2.2.2.2.2.1 x.1.2.2.2.2.2.2.1 x.1.2.2.2.2.2.2.2.1 x.1.2.2.2.2.2.2.2.2.1 x.1.2.2.2.2.2.2.2.2.2.1 x.1.2.2.2.2.2.2.2.2.2.2.1 x.1.2.2.2.2.2.2.2.2.2.2.2.1 x.1.2.2.2.2.2.2.2.2.2.2.2.2.1 x.1.2.2.2.2.2.2.2.2.2.2.2.2.2.1 x.1.2.2.2.2.2.2.2.2.2.2.2.2.2.2.1 x.1.2.2.2.2.2.2.2.2.2.2.2.2.2.2.2.1 x.1.2.2.2.2.2.2.2.2.2.2.2.2.2.2.2.2.1 x.1.2.2.2.2.2.2.2.2.2.2.2.2.2.2.2.2.2.1⟩
theorem k101 : chkNF Try.prog Try.f101 n101 = true := by kernel_rfl
theorem ok101 : NOk Try.prog t101 := NOk.body (T := [t102]) mixed (nall_cons ok102 nall_nil) (oneEach_of (by kernel_rfl)) Try.func101 k101 (by kernel_rfl) (fun x h => e101 _ _ x h)
def n103 : NFunc := ⟨10, .seq (.region 0 [
 ⟨(some 1), .move (.const (.bool false)), none, 0, none⟩] []) (.seq (.region 0 [
 ⟨(some 2), .fieldAddr 9 (.tmp 0), none, 0, none⟩,
 ⟨(some 3), .load false 1 (.tmp 2), none, 0, none⟩,
 ⟨(some 4), .bin .eql (.tmp 3) (.const (.int .i64 (1))), none, 0, none⟩,
 ⟨(some 5), .move (.tmp 4), none, 0, none⟩,
 ⟨(some 6), .fieldAddr 9 (.tmp 0), (some (5, false)), 0, none⟩,
 ⟨(some 7), .load false 1 (.tmp 6), (some (5, false)), 0, none⟩,
 ⟨(some 8), .bin .eql (.tmp 7) (.const (.int .i64 (2))), (some (5, false)), 0, none⟩,
 ⟨(some 9), .pick (.tmp 5) (.const (.bool true)) (.tmp 8), none, 0, none⟩,
 ⟨(some 1), .move (.tmp 9), none, 0, none⟩] []) (.ret)), [.tmp 1], true⟩
def s103 : Sig := ⟨(.cons (.iptr (.cons (.v (.list .res)) (.cons (.v (.list (.list (.int .i64)))) (.cons (.v (.list .queue)) (.cons (.v (.int .i64)) (.cons (.v (.int .i64)) (.cons (.v (.int .i64)) (.cons (.v (.int .i64)) (.cons (.v (.int .i64)) (.cons (.v (.int .i64)) (.cons (.v (.int .i64)) (.cons (.v (.int .i64)) (.cons (.v (.int .i64)) (.cons (.v (.int .i64)) (.cons (.v (.int .i64)) (.cons (.v (.int .i64)) (.cons (.v (.int .i64)) (.cons (.v (.int .i64)) (.cons (.v (.int .i64)) .nil)))))))))))))))))) 0) .nil), [], ((.v .bool), []), []⟩
def F103 (L : Lp)  (a0 : (List Res)) (a1 : (List (List Int))) (a2 : (List Queue)) (a3 : Int) (a4 : Int) (a5 : Int) (a6 : Int) (a7 : Int) (a8 : Int) (a9 : Int) (a10 : Int) (a11 : Int) (a12 : Int) (a13 : Int) (a14 : Int) (a15 : Int) (a16 : Int) (a17 : Int) : Option Bool :=
 cond (decide (a9 = 1))
 (some true)
 (some (decide (a9 = 2)))
theorem e103 (L : Lp)  (x : s103.args.den) (h : denH s103.heap) : nrun [] L n103 s103 x h = F103 L  x.1.1 x.1.2.1 x.1.2.2.1 x.1.2.2.2.1 x.1.2.2.2.2.1 x.1.2.2.2.2.2.1 x.1.2.2.2.2.2.2.1 x.1.2.2.2.2.2.2.2.1 x.1.2.2.2.2.2.2.2.2.1 x.1.2.2.2.2.2.2.2.2.2.1 x.1.2.2.2.2.2.2.2.2.2.2.1 x.1.2.2.2.2.2.2.2.2.2.2.2.1 x.1.2.2.2.2.2.2.2.2.2.2.2.2.1 x.1.2.2.2.2.2.2.2.2.2.2.2.2.2.1 x.1.2.2.2.2.2.2.2.2.2.2.2.2.2.2.1 x.1.2.2.2.2.2.2.2.2.2.2.2.2.2.2.2.1 x.1.2.2.2.2.2.2.2.2.2.2.2.2.2.2.2.2.1 x.1.2.2.2.2.2.2.2.2.2.2.2.2.2.2.2.2.2.1 := by kernel_rfl
def f103 : (List Res) → (List (List Int)) → (List Queue) → Int → Int → Int → Int → Int → Int → Int → Int → Int → Int → Int → Int → Int → Int → Int → Option Bool := F103 (@LN LOOPS) 
@[reducible] def t103 : Ent := ⟨103, s103, fun x h => f103 x.1.1 x.1.2.1 x.1.2.2.1 x.1.2.2.2.1 x.1.2.2.2.2.1 x.1.2.2.2.2.2.1 x.1.2.2.2.2.2.2.1 x.1.2.2.2.2.2.2.2.1 x.1.2.2.2.2.2.2.2.2.1 x.1.2.2.2.2.2.2.2.2.2.1 x.1.2.2.2.2.2.2.2.2.2.2.1 x.1.2.2.2.2.2.2.2.2.2.2.2.1 x.1.2.2.2.2.2.2.2.2.2.2.2.2.1 x.1.2.2.2.2.2.2.2.2.2.2.2.2.2.1 x.1.2.2.2.2.2.2.2.2.2.2.2.2.2.2.1 x.1.2.2.2.2.2.2.2.2.2.2.2.2.2.2.2.1 x.1.2.2.2.2.2.2.2.2.2.2.2.2.2.2.2.2.1 x.1.2.2.2.2.2.2.2.2.2.2.2.2.2.2.2.2.2.1⟩
theorem k103 : chkNF Try.prog Try.f103 n103 = true := by kernel_rfl
theorem ok103 : NOk Try.prog t103 := NOk.body (T := []) mixed nall_nil (oneEach_of (by kernel_rfl)) Try.func103 k103 (by kernel_rfl) (fun x h => e103 _  x h)
def n70 : NFunc := ⟨19, .seq (.region 1 [
 ⟨(some 1), .box 18 (.tmp 0), none, 0, none⟩,
 ⟨(some 2), .move (.const (.str [])), none, 1, none⟩] []) (.seq (.seq (.region 4 [
 ⟨(some 5), .load true 18 (.tmp 1), none, 0, none⟩,
 ⟨(some 6), .call (.func 88) [(false, (.tmp 5))] false 4, none, 0, none⟩,
 ⟨(some 7), .len (.tmp 6), none, 4, none⟩,
 ⟨(some 8), .move (.const (.int .i64 (0))), none, 4, none⟩] []) (.block 0 (.loopU [6, 7, 8] 16 (.seq (.region 0 [
 ⟨(some 9), .bin .lss (.tmp 8) (.tmp 7), none, 0, none⟩] []) (.seq (.cond (.tmp 9) (.skip) (.exit 0)) (.seq (.block 1 (.seq (.region 1 [
 ⟨(some 10), .indexSl 2 (.tmp 6) (.tmp 8), none, 0, none⟩,
 ⟨(some 11), .load true 2 (.tmp 10), none, 0, none⟩,
 ⟨(some 4), .alloc [.str [], .nilfn], none, 0, none⟩,
 ⟨none, .store 2 (.tmp 4) (.tmp 11), none, 1, none⟩] []) (.seq (.region 4 [
 ⟨(some 12), .fieldAddr 1 (.tmp 4), none, 0, none⟩,
 ⟨(some 13), .load false 1 (.tmp 12), none, 0, none⟩,
 ⟨(some 14), .call (.tmp 13) [] false 4, none, 0, none⟩,
 ⟨(some 15), .un .not (.tmp 14), none, 4, none⟩] []) (.cond (.tmp 15) (.seq (.region 0 [
 ⟨(some 16), .fieldAddr 0 (.tmp 4), none, 0, none⟩,
 ⟨(some 17), .load false 1 (.tmp 16), none, 0, none⟩,
 ⟨(some 2), .move (.tmp 17), none, 0, none⟩] []) (.ret)) (.skip))))) (.region 0 [
 ⟨(some 18), .bin .add (.tmp 8) (.const (.int .i64 (1))), none, 0, none⟩,
 ⟨(some 8), .move (.tmp 18), none, 0, none⟩] []))))))) (.seq (.region 0 [
 ⟨(some 2), .move (.const (.str [])), none, 0, none⟩] []) (.ret))), [.tmp 2], true⟩
def s70 : Sig := ⟨(.cons (.v .spec) .nil), [], ((.v .str), []), []⟩
def F70 (L : Lp) (g88 : Spec → Option y88) (g94 : (List Res) → (List (List Int)) → (List Queue) → Int → Int → Int → Int → Int → Int → Int → Int → Int → Int → Int → Int → Int → Int → Int → Option Bool) (g96 : (List Res) → (List (List Int)) → (List Queue) → Int → Int → Int → Int → Int → Int → Int → Int → Int → Int → Int → Int → Int → Int → Int → Option Bool) (g116 : Int → Int → Int → Option Bool) (g99 : (List Res) → (List (List Int)) → (List Queue) → Int → Int → Int → Int → Int → Int → Int → Int → Int → Int → Int → Int → Int → Int → Int → Option Bool) (g101 : (List Res) → (List (List Int)) → (List Queue) → Int → Int → Int → Int → Int → Int → Int → Int → Int → Int → Int → Int → Int → Int → Int → Option Bool) (g103 : (List Res) → (List (List Int)) → (List Queue) → Int → Int → Int → Int → Int → Int → Int → Int → Int → Int → Int → Int → Int → Int → Int → Option Bool) (as0 : Spec) : Option (List UInt8) :=
 Option.bind (g88 as0) fun r1 =>
 Option.bind (g94 r1.1.2.1.1.1 r1.1.2.1.1.2.1 r1.1.2.1.1.2.2.1 r1.1.2.1.1.2.2.2.1 r1.1.2.1.1.2.2.2.2.1 r1.1.2.1.1.2.2.2.2.2.1 r1.1.2.1.1.2.2.2.2.2.2.1 r1.1.2.1.1.2.2.2.2.2.2.2.1 r1.1.2.1.1.2.2.2.2.2.2.2.2.1 r1.1.2.1.1.2.2.2.2.2.2.2.2.2.1 r1.1.2.1.1.2.2.2.2.2.2.2.2.2.2.1 r1.1.2.1.1.2.2.2.2.2.2.2.2.2.2.2.1 r1.1.2.1.1.2.2.2.2.2.2.2.2.2.2.2.2.1 r1.1.2.1.1.2.2.2.2.2.2.2.2.2.2.2.2.2.1 r1.1.2.1.1.2.2.2.2.2.2.2.2.2.2.2.2.2.2.1 r1.1.2.1.1.2.2.2.2.2.2.2.2.2.2.2.2.2.2.2.1 r1.1.2.1.1.2.2.2.2.2.2.2.2.2.2.2.2.2.2.2.2.1 r1.1.2.1.1.2.2.2.2.2.2.2.2.2.2.2.2.2.2.2.2.2.1) fun r2 =>
 cond (!r2)
 (some r1.1.1)
 (Option.bind (g96 r1.2.1.2.1.1.1 r1.2.1.2.1.1.2.1 r1.2.1.2.1.1.2.2.1 r1.2.1.2.1.1.2.2.2.1 r1.2.1.2.1.1.2.2.2.2.1 r1.2.1.2.1.1.2.2.2.2.2.1 r1.2.1.2.1.1.2.2.2.2.2.2.1 r1.2.1.2.1.1.2.2.2.2.2.2.2.1 r1.2.1.2.1.1.2.2.2.2.2.2.2.2.1 r1.2.1.2.1.1.2.2.2.2.2.2.2.2.2.1 r1.2.1.2.1.1.2.2.2.2.2.2.2.2.2.2.1 r1.2.1.2.1.1.2.2.2.2.2.2.2.2.2.2.2.1 r1.2.1.2.1.1.2.2.2.2.2.2.2.2.2.2.2.2.1 r1.2.1.2.1.1.2.2.2.2.2.2.2.2.2.2.2.2.2.1 r1.2.1.2.1.1.2.2.2.2.2.2.2.2.2.2.2.2.2.2.1 r1.2.1.2.1.1.2.2.2.2.2.2.2.2.2.2.2.2.2.2.2.1 r1.2.1.2.1.1.2.2.2.2.2.2.2.2.2.2.2.2.2.2.2.2.1 r1.2.1.2.1.1.2.2.2.2.2.2.2.2.2.2.2.2.2.2.2.2.2.1) fun r3 =>
 cond (!r3)
 (some r1.2.1.1)
 (Option.bind (g116 r1.2.2.1.2.1.1.1 r1.2.2.1.2.1.2.1.1 r1.2.2.1.2.1.2.2.1.1) fun r4 =>
 cond (!r4)
 (some r1.2.2.1.1)
 (Option.bind (g99 r1.2.2.2.1.2.1.1.1 r1.2.2.2.1.2.1.1.2.1 r1.2.2.2.1.2.1.1.2.2.1 r1.2.2.2.1.2.1.1.2.2.2.1 r1.2.2.2.1.2.1.1.2.2.2.2.1 r1.2.2.2.1.2.1.1.2.2.2.2.2.1 r1.2.2.2.1.2.1.1.2.2.2.2.2.2.1 r1.2.2.2.1.2.1.1.2.2.2.2.2.2.2.1 r1.2.2.2.1.2.1.1.2.2.2.2.2.2.2.2.1 r1.2.2.2.1.2.1.1.2.2.2.2.2.2.2.2.2.1 r1.2.2.2.1.2.1.1.2.2.2.2.2.2.2.2.2.2.1 r1.2.2.2.1.2.1.1.2.2.2.2.2.2.2.2.2.2.2.1 r1.2.2.2.1.2.1.1.2.2.2.2.2.2.2.2.2.2.2.2.1 r1.2.2.2.1.2.1.1.2.2.2.2.2.2.2.2.2.2.2.2.2.1 r1.2.2.2.1.2.1.1.2.2.2.2.2.2.2.2.2.2.2.2.2.2.1 r1.2.2.2.1.2.1.1.2.2.2.2.2.2.2.2.2.2.2.2.2.2.2.1 r1.2.2.2.1.2.1.1.2.2.2.2.2.2.2.2.2.2.2.2.2.2.2.2.1 r1.2.2.2.1.2.1.1.2.2.2.2.2.2.2.2.2.2.2.2.2.2.2.2.2.1) fun r5 =>
 cond (!r5)
 (some r1.2.2.2.1.1)
 (Option.bind (g101 r1.2.2.2.2.1.2.1.1.1 r1.2.2.2.2.1.2.1.1.2.1 r1.2.2.2.2.1.2.1.1.2.2.1 r1.2.2.2.2.1.2.1.1.2.2.2.1 r1.2.2.2.2.1.2.1.1.2.2.2.2.1 r1.2.2.2.2.1.2.1.1.2.2.2.2.2.1 r1.2.2.2.2.1.2.1.1.2.2.2.2.2.2.1 r1.2.2.2.2.1.2.1.1.2.2.2.2.2.2.2.1 r1.2.2.2.2.1.2.1.1.2.2.2.2.2.2.2.2.1 r1.2.2.2.2.1.2.1.1.2.2.2.2.2.2.2.2.2.1 r1.2.2.2.2.1.2.1.1.2.2.2.2.2.2.2.2.2.2.1 r1.2.2.2.2.1.2.1.1.2.2.2.2.2.2.2.2.2.2.2.1 r1.2.2.2.2.1.2.1.1.2.2.2.2.2.2.2.2.2.2.2.2.1 r1.2.2.2.2.1.2.1.1.2.2.2.2.2.2.2.2.2.2.2.2.2.1 r1.2.2.2.2.1.2.1.1.2.2.2.2.2.2.2.2.2.2.2.2.2.2.1 r1.2.2.2.2.1.2.1.1.2.2.2.2.2.2.2.2.2.2.2.2.2.2.2.1 r1.2.2.2.2.1.2.1.1.2.2.2.2.2.2.2.2.2.2.2.2.2.2.2.2.1 r1.2.2.2.2.1.2.1.1.2.2.2.2.2.2.2.2.2.2.2.2.2.2.2.2.2.1) fun r6 =>
 cond (!r6)
 (some r1.2.2.2.2.1.1)
 (Option.bind (g116 r1.2.2.2.2.2.1.2.1.1.1 r1.2.2.2.2.2.1.2.1.2.1.1 r1.2.2.2.2.2.1.2.1.2.2.1.1) fun r7 =>
 cond (!r7)
 (some r1.2.2.2.2.2.1.1)
 (Option.bind (g103 r1.2.2.2.2.2.2.1.2.1.1.1 r1.2.2.2.2.2.2.1.2.1.1.2.1 r1.2.2.2.2.2.2.1.2.1.1.2.2.1 r1.2.2.2.2.2.2.1.2.1.1.2.2.2.1 r1.2.2.2.2.2.2.1.2.1.1.2.2.2.2.1 r1.2.2.2.2.2.2.1.2.1.1.2.2.2.2.2.1 r1.2.2.2.2.2.2.1.2.1.1.2.2.2.2.2.2.1 r1.2.2.2.2.2.2.1.2.1.1.2.2.2.2.2.2.2.1 r1.2.2.2.2.2.2.1.2.1.1.2.2.2.2.2.2.2.2.1 r1.2.2.2.2.2.2.1.2.1.1.2.2.2.2.2.2.2.2.2.1 r1.2.2.2.2.2.2.1.2.1.1.2.2.2.2.2.2.2.2.2.2.1 r1.2.2.2.2.2.2.1.2.1.1.2.2.2.2.2.2.2.2.2.2.2.1 r1.2.2.2.2.2.2.1.2.1.1.2.2.2.2.2.2.2.2.2.2.2.2.1 r1.2.2.2.2.2.2.1.2.1.1.2.2.2.2.2.2.2.2.2.2.2.2.2.1 r1.2.2.2.2.2.2.1.2.1.1.2.2.2.2.2.2.2.2.2.2.2.2.2.2.1 r1.2.2.2.2.2.2.1.2.1.1.2.2.2.2.2.2.2.2.2.2.2.2.2.2.2.1 r1.2.2.2.2.2.2.1.2.1.1.2.2.2.2.2.2.2.2.2.2.2.2.2.2.2.2.1 r1.2.2.2.2.2.2.1.2.1.1.2.2.2.2.2.2.2.2.2.2.2.2.2.2.2.2.2.1) fun r8 =>
 cond (!r8)
 (some r1.2.2.2.2.2.2.1.1)
 (Option.bind (g116 r1.2.2.2.2.2.2.2.1.2.1.1.1 r1.2.2.2.2.2.2.2.1.2.1.2.1.1 r1.2.2.2.2.2.2.2.1.2.1.2.2.1.1) fun r9 =>
 cond (!r9)
 (some r1.2.2.2.2.2.2.2.1.1)
 (Option.bind (g116 r1.2.2.2.2.2.2.2.2.1.2.1.1.1 r1.2.2.2.2.2.2.2.2.1.2.1.2.1.1 r1.2.2.2.2.2.2.2.2.1.2.1.2.2.1.1) fun r10 =>
 cond (!r10)
 (some r1.2.2.2.2.2.2.2.2.1.1)
 (Option.bind (g116 r1.2.2.2.2.2.2.2.2.2.1.2.1.1.1 r1.2.2.2.2.2.2.2.2.2.1.2.1.2.1.1 r1.2.2.2.2.2.2.2.2.2.1.2.1.2.2.1.1) fun r11 =>
 cond (!r11)
 (some r1.2.2.2.2.2.2.2.2.2.1.1)
 (Option.bind (g116 r1.2.2.2.2.2.2.2.2.2.2.1.2.1.1.1 r1.2.2.2.2.2.2.2.2.2.2.1.2.1.2.1.1 r1.2.2.2.2.2.2.2.2.2.2.1.2.1.2.2.1.1) fun r12 =>
 cond (!r12)
 (some r1.2.2.2.2.2.2.2.2.2.2.1.1)
 (Option.bind (g116 r1.2.2.2.2.2.2.2.2.2.2.2.1.2.1.1.1 r1.2.2.2.2.2.2.2.2.2.2.2.1.2.1.2.1.1 r1.2.2.2.2.2.2.2.2.2.2.2.1.2.1.2.2.1.1) fun r13 =>
 cond (!r13)
 (some r1.2.2.2.2.2.2.2.2.2.2.2.1.1)
 (Option.bind (g116 r1.2.2.2.2.2.2.2.2.2.2.2.2.1.2.1.1.1 r1.2.2.2.2.2.2.2.2.2.2.2.2.1.2.1.2.1.1 r1.2.2.2.2.2.2.2.2.2.2.2.2.1.2.1.2.2.1.1) fun r14 =>
 cond (!r14)
 (some r1.2.2.2.2.2.2.2.2.2.2.2.2.1.1)
 (Option.bind (g116 r1.2.2.2.2.2.2.2.2.2.2.2.2.2.1.2.1.1.1 r1.2.2.2.2.2.2.2.2.2.2.2.2.2.1.2.1.2.1.1 r1.2.2.2.2.2.2.2.2.2.2.2.2.2.1.2.1.2.2.1.1) fun r15 =>
 cond (!r15)
 (some r1.2.2.2.2.2.2.2.2.2.2.2.2.2.1.1)
 (Option.bind (g116 r1.2.2.2.2.2.2.2.2.2.2.2.2.2.2.1.2.1.1.1 r1.2.2.2.2.2.2.2.2.2.2.2.2.2.2.1.2.1.2.1.1 r1.2.2.2.2.2.2.2.2.2.2.2.2.2.2.1.2.1.2.2.1.1) fun r16 =>
 cond (!r16)
 (some r1.2.2.2.2.2.2.2.2.2.2.2.2.2.2.1.1)
 (some ([] : List UInt8))))))))))))))))
theorem e70 (L : Lp) (g88 : Spec → Option y88) (g94 : (List Res) → (List (List Int)) → (List Queue) → Int → Int → Int → Int → Int → Int → Int → Int → Int → Int → Int → Int → Int → Int → Int → Option Bool) (g96 : (List Res) → (List (List Int)) → (List Queue) → Int → Int → Int → Int → Int → Int → Int → Int → Int → Int → Int → Int → Int → Int → Int → Option Bool) (g116 : Int → Int → Int → Option Bool) (g99 : (List Res) → (List (List Int)) → (List Queue) → Int → Int → Int → Int → Int → Int → Int → Int → Int → Int → Int → Int → Int → Int → Int → Option Bool) (g101 : (List Res) → (List (List Int)) → (List Queue) → Int → Int → Int → Int → Int → Int → Int → Int → Int → Int → Int → Int → Int → Int → Int → Option Bool) (g103 : (List Res) → (List (List Int)) → (List Queue) → Int → Int → Int → Int → Int → Int → Int → Int → Int → Int → Int → Int → Int → Int → Int → Option Bool) (x : s70.args.den) (h : denH s70.heap) : nrun [⟨88, s88, fun x h => g88 x.1⟩, ⟨94, s94, fun x h => g94 x.1.1 x.1.2.1 x.1.2.2.1 x.1.2.2.2.1 x.1.2.2.2.2.1 x.1.2.2.2.2.2.1 x.1.2.2.2.2.2.2.1 x.1.2.2.2.2.2.2.2.1 x.1.2.2.2.2.2.2.2.2.1 x.1.2.2.2.2.2.2.2.2.2.1 x.1.2.2.2.2.2.2.2.2.2.2.1 x.1.2.2.2.2.2.2.2.2.2.2.2.1 x.1.2.2.2.2.2.2.2.2.2.2.2.2.1 x.1.2.2.2.2.2.2.2.2.2.2.2.2.2.1 x.1.2.2.2.2.2.2.2.2.2.2.2.2.2.2.1 x.1.2.2.2.2.2.2.2.2.2.2.2.2.2.2.2.1 x.1.2.2.2.2.2.2.2.2.2.2.2.2.2.2.2.2.1 x.1.2.2.2.2.2.2.2.2.2.2.2.2.2.2.2.2.2.1⟩, ⟨96, s96, fun x h => g96 x.1.1 x.1.2.1 x.1.2.2.1 x.1.2.2.2.1 x.1.2.2.2.2.1 x.1.2.2.2.2.2.1 x.1.2.2.2.2.2.2.1 x.1.2.2.2.2.2.2.2.1 x.1.2.2.2.2.2.2.2.2.1 x.1.2.2.2.2.2.2.2.2.2.1 x.1.2.2.2.2.2.2.2.2.2.2.1 x.1.2.2.2.2.2.2.2.2.2.2.2.1 x.1.2.2.2.2.2.2.2.2.2.2.2.2.1 x.1.2.2.2.2.2.2.2.2.2.2.2.2.2.1 x.1.2.2.2.2.2.2.2.2.2.2.2.2.2.2.1 x.1.2.2.2.2.2.2.2.2.2.2.2.2.2.2.2.1 x.1.2.2.2.2.2.2.2.2.2.2.2.2.2.2.2.2.1 x.1.2.2.2.2.2.2.2.2.2.2.2.2.2.2.2.2.2.1⟩, ⟨116, s116, fun x h => g116 x.1.1 x.2.1.1 x.2.2.1.1⟩, ⟨99, s99, fun x h => g99 x.1.1 x.1.2.1 x.1.2.2.1 x.1.2.2.2.1 x.1.2.2.2.2.1 x.1.2.2.2.2.2.1 x.1.2.2.2.2.2.2.1 x.1.2.2.2.2.2.2.2.1 x.1.2.2.2.2.2.2.2.2.1 x.1.2.2.2.2.2.2.2.2.2.1 x.1.2.2.2.2.2.2.2.2.2.2.1 x.1.2.2.2.2.2.2.2.2.2.2.2.1 x.1.2.2.2.2.2.2.2.2.2.2.2.2.1 x.1.2.2.2.2.2.2.2.2.2.2.2.2.2.1 x.1.2.2.2.2.2.2.2.2.2.2.2.2.2.2.1 x.1.2.2.2.2.2.2.2.2.2.2.2.2.2.2.2.1 x.1.2.2.2.2.2.2.2.2.2.2.2.2.2.2.2.2.1 x.1.2.2.2.2.2.2.2.2.2.2.2.2.2.2.2.2.2.1⟩, ⟨101, s101, fun x h => g101 x.1.1 x.1.2.1 x.1.2.2.1 x.1.2.2.2.1 x.1.2.2.2.2.1 x.1.2.2.2.2.2.1 x.1.2.2.2.2.2.2.1 x.1.2.2.2.2.2.2.2.1 x.1.2.2.2.2.2.2.2.2.1 x.1.2.2.2.2.2.2.2.2.2.1 x.1.2.2.2.2.2.2.2.2.2.2.1 x.1.2.2.2.2.2.2.2.2.2.2.2.1 x.1.2.2.2.2.2.2.2.2.2.2.2.2.1 x.1.2.2.2.2.2.2.2.2.2.2.2.2.2.1 x.1.2.2.2.2.2.2.2.2.2.2.2.2.2.2.1 x.1.2.2.2.2.2.2.2.2.2.2.2.2.2.2.2.1 x.1.2.2.2.2.2.2.2.2.2.2.2.2.2.2.2.2.1 x.1.2.2.2.2.2.2.2.2.2.2.2.2.2.2.2.2.2.1⟩, ⟨103, s103, fun x h => g103 x.1.1 x.1.2.1 x.1.2.2.1 x.1.2.2.2.1 x.1.2.2.2.2.1 x.1.2.2.2.2.2.1 x.1.2.2.2.2.2.2.1 x.1.2.2.2.2.2.2.2.1 x.1.2.2.2.2.2.2.2.2.1 x.1.2.2.2.2.2.2.2.2.2.1 x.1.2.2.2.2.2.2.2.2.2.2.1 x.1.2.2.2.2.2.2.2.2.2.2.2.1 x.1.2.2.2.2.2.2.2.2.2.2.2.2.1 x.1.2.2.2.2.2.2.2.2.2.2.2.2.2.1 x.1.2.2.2.2.2.2.2.2.2.2.2.2.2.2.1 x.1.2.2.2.2.2.2.2.2.2.2.2.2.2.2.2.1 x.1.2.2.2.2.2.2.2.2.2.2.2.2.2.2.2.2.1 x.1.2.2.2.2.2.2.2.2.2.2.2.2.2.2.2.2.2.1⟩] L n70 s70 x h = F70 L g88 g94 g96 g116 g99 g101 g103 x.1 := by kernel_rfl
def f70 : Spec → Option (List UInt8) := F70 (@LN LOOPS) f88 f94 f96 f116 f99 f101 f103
@[reducible] def t70 : Ent := ⟨70, s70, fun x h => f70 x.1⟩
theorem k70 : chkNF Try.prog Try.f70 n70 = true := by kernel_rfl
theorem ok70 : NOk Try.prog t70 := NOk.body (T := [t88, t94, t96, t116, t99, t101, t103]) mixed (nall_cons ok88 (nall_cons ok94 (nall_cons ok96 (nall_cons ok116 (nall_cons ok99 (nall_cons ok101 (nall_cons ok103 nall_nil))))))) (oneEach_of (by kernel_rfl)) Try.func70 k70 (by kernel_rfl) (fun x h => e70 _ _ _ _ _ _ _ _ x h)
def n40 : NFunc := ⟨6, .seq (.region 1 [
 ⟨(some 1), .box 18 (.tmp 0), none, 0, none⟩,
 ⟨(some 2), .move (.const (.bool false)), none, 1, none⟩] []) (.seq (.region 4 [
 ⟨(some 3), .load true 18 (.tmp 1), none, 0, none⟩,
 ⟨(some 4), .call (.func 70) [(false, (.tmp 3))] false 4, none, 0, none⟩,
 ⟨(some 5), .bin .eql (.tmp 4) (.const (.str [])), none, 4, none⟩,
 ⟨(some 2), .move (.tmp 5), none, 4, none⟩] []) (.ret)), [.tmp 2], true⟩
def s40 : Sig := ⟨(.cons (.v .spec) .nil), [], ((.v .bool), []), []⟩
def F40 (L : Lp) (g70 : Spec → Option (List UInt8)) (as0 : Spec) : Option Bool :=
 Option.bind (g70 as0) fun r1 =>
 some (decide (r1 = ([] : List UInt8)))
theorem e40 (L : Lp) (g70 : Spec → Option (List UInt8)) (x : s40.args.den) (h : denH s40.heap) : nrun [⟨70, s70, fun x h => g70 x.1⟩] L n40 s40 x h = F40 L g70 x.1 := by kernel_rfl
def f40 : Spec → Option Bool := F40 (@LN LOOPS) f70
@[reducible] def t40 : Ent := ⟨40, s40, fun x h => f40 x.1⟩
theorem k40 : chkNF Try.prog Try.f40 n40 = true := by kernel_rfl
theorem ok40 : NOk Try.prog t40 := NOk.body (T := [t70]) mixed (nall_cons ok70 nall_nil) (oneEach_of (by kernel_rfl)) Try.func40 k40 (by kernel_rfl) (fun x h => e40 _ _ x h)
def n41 : NFunc := ⟨8, .seq (.region 0 [
 ⟨(some 2), .move (.const (.zsl)), none, 0, none⟩] []) (.seq (.seq (.region 0 [
 ⟨(some 3), .move (.tmp 0), none, 0, none⟩,
 ⟨(some 4), .eqI false (.tmp 3) (.const (.zsl)), none, 0, none⟩] []) (.cond (.tmp 4) (.seq (.region 0 [
 ⟨(some 2), .move (.const (.zsl)), none, 0, none⟩] []) (.ret)) (.skip))) (.seq (.region 2 [
 ⟨(some 5), .buildSlice 4 0 true [.int .i64 (0), .int .i64 (0), .int .i64 (0), .int .i64 (0)] [], none, 0, none⟩,
 ⟨(some 6), .move (.tmp 0), none, 1, none⟩,
 ⟨(some 7), .append 4 32 true (.tmp 5) (.tmp 6), none, 1, none⟩,
 ⟨(some 2), .move (.tmp 7), none, 2, none⟩] []) (.ret))), [.tmp 2], false⟩
def s41 : Sig := ⟨(.cons (.v (.list .res)) .nil), [], ((.slw 0 4), [.typed .res]), []⟩
def F41 (L : Lp)  (as0 : (List Res)) : Option (Unit × ((List Res) × Unit)) :=
 cond (List.isEmpty as0)
 (none)
 (cond (smallB (0 + (List.length as0)) 32)
 (some ((), ([] ++ as0, ())))
 (none))
theorem e41 (L : Lp)  (x : s41.args.den) (h : denH s41.heap) : nrun [] L n41 s41 x h = F41 L  x.1 := by kernel_rfl
def f41 : (List Res) → Option (Unit × ((List Res) × Unit)) := cloneF (F41 (@LN LOOPS))
@[reducible] def t41 : Ent := ⟨41, s41, fun x h => f41 x.1⟩
theorem k41 : chkNF Try.prog Try.f41 n41 = true := by kernel_rfl
theorem c41 (A : Option Addr) (c : Nat) (w : World) : Calls Try.prog 41 #[.slice A 0 c] w (fun e w' => ∃ A', e = .returned (.slice A' 0 0) ∧ Go.RowKit.Below w.heap.size w w') := by
 have hq := fun (u : World) => Lib.run_eql_slice_nil (P := Try.prog) u 42 23 A 0 c 0 0 Try.underlying42
 cases A with
 | none => (go_enter Try.func41, Try.ntmps41; go_wp2; go_ret; exact ⟨_, rfl, Go.RowKit.Below.refl _ _⟩)
 | some ad => (go_enter Try.func41, Try.ntmps41; go_wp2; go_ret; exact ⟨_, rfl, (Go.RowKit.Below.refl _ _).alloc (Nat.le_refl _) _⟩)
theorem b41 : NOk Try.prog ⟨41, s41, fun x h => F41 (@LN LOOPS) x.1⟩ := NOk.body (T := []) mixed nall_nil (oneEach_of (by kernel_rfl)) Try.func41 k41 (by kernel_rfl) (fun x h => e41 _  x h)
theorem ok41 : NOk Try.prog t41 := NOk.clone (t := .res) b41 (clone_empty .res b41.1 c41)
def sM4 : Sig := ⟨.nil, [], ((.mp 0), [.typed (.pair (.int .i64) .alloc)]), []⟩
def fM4 : Option (Unit × ((List (Int × Alloc)) × Unit)) := some ((), ([], ()))
@[reducible] def tM4 : Ent := ⟨1000764, sM4, fun x h => fM4 ⟩
theorem okM4 : NPk Try.prog tM4 := NPk.make 95
def n17 : NFunc := ⟨13, .seq (.region 1 [
 ⟨(some 1), .box 18 (.tmp 0), none, 0, none⟩,
 ⟨(some 2), .move (.const (.nilp)), none, 1, none⟩,
 ⟨(some 3), .move (.const (.int .i64 (0))), none, 1, none⟩] []) (.seq (.seq (.region 4 [
 ⟨(some 4), .load true 18 (.tmp 1), none, 0, none⟩,
 ⟨(some 5), .call (.func 40) [(false, (.tmp 4))] false 4, none, 0, none⟩,
 ⟨(some 6), .un .not (.tmp 5), none, 4, none⟩] []) (.cond (.tmp 6) (.seq (.region 0 [
 ⟨(some 2), .move (.const (.nilp)), none, 0, none⟩,
 ⟨(some 3), .move (.const (.int .i64 (2))), none, 0, none⟩] []) (.ret)) (.skip))) (.seq (.post [2, 3] [.frzC 2 0] (.region 9 [
 ⟨(some 7), .fieldAddr 0 (.tmp 1), none, 0, none⟩,
 ⟨(some 8), .load false 1 (.tmp 7), none, 0, none⟩,
 ⟨(some 9), .call (.func 41) [(false, (.tmp 8))] false 4, none, 0, none⟩,
 ⟨(some 10), .call (.const (.fn 1000764 [])) [] false 4, none, 4, none⟩,
 ⟨(some 11), .build [.zsl, .nilfn] [(0, 1, (.tmp 9)), (1, 1, (.tmp 10))], none, 8, none⟩,
 ⟨(some 12), .box 2 (.tmp 11), none, 8, none⟩,
 ⟨(some 2), .move (.tmp 12), none, 9, none⟩,
 ⟨(some 3), .move (.const (.int .i64 (0))), none, 9, none⟩] [])) (.ret))), [.tmp 2, .tmp 3], false⟩
def s17 : Sig := ⟨(.cons (.v .spec) .nil), [], ((.tup (.cons .nilp (.cons (.v (.int .i64)) .nil))), []), [((.tup (.cons (.ptr 0 0 0) (.cons (.v (.int .i64)) .nil))), [.cell false (.cons (.v (.list .res)) (.cons (.mp 1) .nil)), .typed (.pair (.int .i64) .alloc)])]⟩
def F17 (L : Lp) (g40 : Spec → Option Bool) (g41 : (List Res) → Option (Unit × ((List Res) × Unit))) (gM4 : Option (Unit × ((List (Int × Alloc)) × Unit))) (as0 : Spec) : Option ((Unit × (Int × Unit)) ⊕ ((Unit × (Int × Unit)) × (((List Res) × (Unit × Unit)) × ((List (Int × Alloc)) × Unit)))) :=
 Option.bind (g40 as0) fun r1 =>
 cond (!r1)
 (some (.inl ((), 2, ())))
 (Option.bind (g41 as0.nodes) fun r2 =>
 Option.bind (gM4) fun r3 =>
 some (.inr (((), 0, ()), ((r2.2.1, (), ()), r3.2.1, ()))))
theorem e17 (L : Lp) (g40 : Spec → Option Bool) (g41 : (List Res) → Option (Unit × ((List Res) × Unit))) (gM4 : Option (Unit × ((List (Int × Alloc)) × Unit))) (x : s17.args.den) (h : denH s17.heap) : nrun [⟨40, s40, fun x h => g40 x.1⟩, ⟨41, s41, fun x h => g41 x.1⟩, ⟨1000764, sM4, fun x h => gM4 ⟩] L n17 s17 x h = F17 L g40 g41 gM4 x.1 := by kernel_rfl
def f17 : Spec → Option ((Unit × (Int × Unit)) ⊕ ((Unit × (Int × Unit)) × (((List Res) × (Unit × Unit)) × ((List (Int × Alloc)) × Unit)))) := F17 (@LN LOOPS) f40 f41 fM4
@[reducible] def t17 : Ent := ⟨17, s17, fun x h => f17 x.1⟩
theorem k17 : chkNF Try.prog Try.f17 n17 = true := by kernel_rfl
theorem ok17 : NOk Try.prog t17 := NOk.body (T := [t40, t41, tM4]) mixed (nall_cons ok40 (nall_cons ok41 (nall_prim okM4 nall_nil))) (oneEach_of (by kernel_rfl)) Try.func17 k17 (by kernel_rfl) (fun x h => e17 _ _ _ _ x h)
def n19 : NFunc := ⟨74, .seq (.region 1 [
 ⟨(some 3), .box 6 (.tmp 1), none, 0, none⟩,
 ⟨(some 4), .move (.const (.int .i64 (0))), none, 1, none⟩] []) (.seq (.seq (.region 0 [
 ⟨(some 9), .move (.tmp 0), none, 0, none⟩,
 ⟨(some 10), .eqP false (.tmp 9) (.const (.nilp)), none, 0, none⟩] []) (.cond (.tmp 10) (.seq (.region 0 [
 ⟨(some 4), .move (.const (.int .i64 (1))), none, 0, none⟩] []) (.ret)) (.skip))) (.seq (.seq (.region 8 [
 ⟨(some 11), .fieldAddr 0 (.tmp 3), none, 0, (some ([], none))⟩,
 ⟨(some 12), .load false 1 (.tmp 11), none, 0, (some ([], none))⟩,
 ⟨(some 13), .bin .lss (.tmp 12) (.const (.int .i64 (1))), none, 0, (some ([], none))⟩,
 ⟨(some 14), .move (.tmp 13), none, 0, (some ([], none))⟩,
 ⟨(some 15), .fieldAddr 0 (.tmp 3), (some (14, false)), 0, (some ([], none))⟩,
 ⟨(some 16), .load false 1 (.tmp 15), (some (14, false)), 0, (some ([], none))⟩,
 ⟨(some 17), .bin .gtr (.tmp 16) (.const (.int .i64 (1048576))), (some (14, false)), 0, (some ([], none))⟩,
 ⟨(some 18), .pick (.tmp 14) (.const (.bool true)) (.tmp 17), none, 0, (some ([], none))⟩,
 ⟨(some 19), .move (.tmp 18), none, 0, (some ([], none))⟩,
 ⟨(some 20), .fieldAddr 5 (.tmp 3), (some (19, false)), 0, (some ([], none))⟩,
 ⟨(some 21), .load false 1 (.tmp 20), (some (19, false)), 0, (some ([], none))⟩,
 ⟨(some 22), .len (.tmp 21), (some (19, false)), 0, (some ([], none))⟩,
 ⟨(some 23), .bin .eql (.tmp 22) (.const (.int .i64 (0))), (some (19, false)), 0, (some ([], none))⟩,
 ⟨(some 24), .pick (.tmp 19) (.const (.bool true)) (.tmp 23), none, 0, (some ([], none))⟩,
 ⟨(some 25), .move (.tmp 24), none, 0, (some ([], none))⟩,
 ⟨(some 26), .fieldAddr 5 (.tmp 3), (some (25, false)), 0, (some ([], none))⟩,
 ⟨(some 27), .load false 1 (.tmp 26), (some (25, false)), 0, (some ([], none))⟩,
 ⟨(some 28), .move (.tmp 0), (some (25, false)), 0, (some ([], none))⟩,
 ⟨(some 29), .nilCheck (.tmp 28), (some (25, false)), 0, (some ([], none))⟩,
 ⟨(some 30), .fieldAddr 0 (.tmp 29), (some (25, false)), 0, (some ([], none))⟩,
 ⟨(some 31), .load false 1 (.tmp 30), (some (25, false)), 0, (some ([], none))⟩,
 ⟨(some 32), .len (.tmp 31), (some (25, false)), 0, (some ([], none))⟩,
 ⟨(some 33), .call (.func 44) [(false, (.tmp 27)), (false, (.tmp 32))] false 4, (some (25, false)), 0, (some ([], none))⟩,
 ⟨(some 34), .un .not (.tmp 33), (some (25, false)), 4, (some ([0, 1, 2, 3], none))⟩,
 ⟨(some 35), .pick (.tmp 25) (.const (.bool true)) (.tmp 34), none, 4, (some ([0, 1, 2, 3], none))⟩,
 ⟨(some 36), .move (.tmp 35), none, 4, (some ([0, 1, 2, 3], none))⟩,
 ⟨(some 37), .fieldAddr 1 (.tmp 3), (some (36, false)), 4, (some ([0, 1, 2, 3], none))⟩,
 ⟨(some 38), .load true 4 (.tmp 37), (some (36, false)), 4, (some ([0, 1, 2, 3], none))⟩,
 ⟨(some 39), .call (.func 45) [(false, (.tmp 38))] false 4, (some (36, false)), 4, (some ([0, 1, 2, 3], none))⟩,
 ⟨(some 40), .un .not (.tmp 39), (some (36, false)), 8, (some ([0, 1, 2, 3, 4, 5, 6, 7], none))⟩,
 ⟨(some 41), .pick (.tmp 36) (.const (.bool true)) (.tmp 40), none, 8, (some ([0, 1, 2, 3, 4, 5, 6, 7], none))⟩] []) (.cond (.tmp 41) (.seq (.region 0 [
 ⟨(some 4), .move (.const (.int .i64 (2))), none, 0, none⟩] []) (.ret)) (.skip))) (.seq (.seq (.region 5 [
 ⟨(some 43), .move (.tmp 0), none, 0, (some ([], none))⟩,
 ⟨(some 44), .nilCheck (.tmp 43), none, 0, (some ([], none))⟩,
 ⟨(some 45), .fieldAddr 1 (.tmp 44), none, 0, (some ([], none))⟩,
 ⟨(some 46), .load false 1 (.tmp 45), none, 0, (some ([], none))⟩,
 ⟨(some 47), .fieldAddr 0 (.tmp 3), none, 0, (some ([], none))⟩,
 ⟨(some 48), .load false 1 (.tmp 47), none, 0, (some ([], none))⟩,
 ⟨(some 49), .call (.const (.fn 1000761 [])) [(true, (.tmp 46)), (false, (.tmp 48))] true 4, none, 0, (some ([], none))⟩,
 ⟨(some 42), .move (.tmp 49), none, 4, (some ([0, 1, 2, 3], none))⟩,
 ⟨(some 50), .extract (.tmp 42) 0, none, 4, (some ([0, 1, 2, 3], none))⟩,
 ⟨(some 51), .extract (.tmp 42) 1, none, 4, (some ([0, 1, 2, 3], none))⟩,
 ⟨(some 5), .alloc [.int .i64 (0), .int .i64 (0), .int .i64 (0), .int .i64 (0), .int .i64 (0), .zsl], none, 4, (some ([], none))⟩,
 ⟨none, .store 6 (.tmp 5) (.tmp 50), none, 5, (some ([0, 1, 2, 3, 4], none))⟩,
 ⟨(some 6), .move (.tmp 51), none, 5, (some ([0, 1, 2, 3, 4], none))⟩] []) (.seq (.region 0 [
 ⟨(some 52), .move (.tmp 6), none, 0, none⟩] []) (.cond (.tmp 52) (.seq (.region 0 [
 ⟨(some 4), .move (.const (.int .i64 (31))), none, 0, none⟩] []) (.ret)) (.skip)))) (.seq (.region 4 [
 ⟨(some 54), .move (.tmp 0), none, 0, none⟩,
 ⟨(some 55), .load true 6 (.tmp 3), none, 0, none⟩,
 ⟨(some 56), .call (.func 42) [(true, (.tmp 54)), (false, (.tmp 55)), (false, (.func 46))] false 4, none, 0, none⟩,
 ⟨(some 53), .move (.tmp 56), none, 4, none⟩,
 ⟨(some 57), .extract (.tmp 53) 0, none, 4, none⟩,
 ⟨(some 58), .extract (.tmp 53) 1, none, 4, none⟩,
 ⟨(some 7), .move (.tmp 57), none, 4, none⟩,
 ⟨(some 8), .move (.tmp 58), none, 4, none⟩] []) (.seq (.seq (.region 0 [
 ⟨(some 59), .move (.tmp 8), none, 0, none⟩,
 ⟨(some 60), .bin .neq (.tmp 59) (.const (.int .i64 (0))), none, 0, none⟩] []) (.cond (.tmp 60) (.seq (.region 0 [
 ⟨(some 61), .move (.tmp 8), none, 0, none⟩,
 ⟨(some 4), .move (.tmp 61), none, 0, none⟩] []) (.ret)) (.skip))) (.seq (.region 0 [
 ⟨(some 62), .move (.tmp 0), none, 0, none⟩,
 ⟨(some 63), .move (.tmp 7), none, 0, none⟩,
 ⟨(some 64), .nilCheck (.tmp 62), none, 0, none⟩,
 ⟨(some 65), .fieldAddr 0 (.tmp 64), none, 0, none⟩,
 ⟨none, .store 1 (.tmp 65) (.tmp 63), none, 0, none⟩] []) (.seq (.region 8 [
 ⟨(some 66), .move (.tmp 0), none, 0, (some ([], none))⟩,
 ⟨(some 67), .nilCheck (.tmp 66), none, 0, (some ([], none))⟩,
 ⟨(some 68), .fieldAddr 1 (.tmp 67), none, 0, (some ([], none))⟩,
 ⟨(some 69), .load false 1 (.tmp 68), none, 0, (some ([], none))⟩,
 ⟨(some 70), .fieldAddr 0 (.tmp 3), none, 0, (some ([], none))⟩,
 ⟨(some 71), .load false 1 (.tmp 70), none, 0, (some ([], none))⟩,
 ⟨(some 72), .load true 6 (.tmp 3), none, 0, (some ([], none))⟩,
 ⟨(some 73), .call (.func 47) [(false, (.tmp 72))] true 4, none, 0, (some ([], none))⟩,
 ⟨none, .call (.const (.fn 1000762 [])) [(true, (.tmp 69)), (false, (.tmp 71)), (false, (.tmp 73))] false 4, none, 4, (some ([0, 1, 2, 3], none))⟩] []) (.seq (.region 0 [
 ⟨(some 4), .move (.const (.int .i64 (0))), none, 0, none⟩] []) (.ret))))))))), [.tmp 4], true⟩
def s19 : Sig := ⟨(.cons .nilp (.cons (.v .alloc) .nil)), [], ((.v (.int .i64)), []), []⟩
def F19 (L : Lp)  (a0 : Alloc) : Option Int :=
 some 1
theorem e19 (L : Lp)  (x : s19.args.den) (h : denH s19.heap) : nrun [] L n19 s19 x h = F19 L  x.2.1 := by kernel_rfl
def f19 : Alloc → Option Int := F19 (@LN LOOPS) 
@[reducible] def t19 : Ent := ⟨19, s19, fun x h => f19 x.2.1⟩
theorem k19 : chkNF Try.prog Try.f19 n19 = true := by kernel_rfl
theorem ok19 : NOk Try.prog t19 := NOk.body (T := []) mixed nall_nil (oneEach_of (by kernel_rfl)) Try.func19 k19 (by kernel_rfl) (fun x h => e19 _  x h)
def n20 : NFunc := ⟨10, .seq (.region 0 [
 ⟨(some 2), .move (.const (.zsl)), none, 0, none⟩] []) (.seq (.seq (.region 0 [
 ⟨(some 3), .move (.tmp 0), none, 0, none⟩,
 ⟨(some 4), .eqP false (.tmp 3) (.const (.nilp)), none, 0, none⟩] []) (.cond (.tmp 4) (.seq (.region 0 [
 ⟨(some 2), .move (.const (.zsl)), none, 0, none⟩] []) (.ret)) (.skip))) (.seq (.region 4 [
 ⟨(some 5), .move (.tmp 0), none, 0, none⟩,
 ⟨(some 6), .nilCheck (.tmp 5), none, 0, none⟩,
 ⟨(some 7), .fieldAddr 0 (.tmp 6), none, 0, none⟩,
 ⟨(some 8), .load false 1 (.tmp 7), none, 0, none⟩,
 ⟨(some 9), .call (.func 41) [(false, (.tmp 8))] false 4, none, 0, none⟩,
 ⟨(some 2), .move (.tmp 9), none, 4, none⟩] []) (.ret))), [.tmp 2], true⟩
def s20 : Sig := ⟨(.cons .nilp .nil), [], ((.v (.list .res)), []), []⟩
def F20 (L : Lp)   : Option (List Res) :=
 some []
theorem e20 (L : Lp)  (x : s20.args.den) (h : denH s20.heap) : nrun [] L n20 s20 x h = F20 L   := by kernel_rfl
def f20 : Option (List Res) := F20 (@LN LOOPS) 
@[reducible] def t20 : Ent := ⟨20, s20, fun x h => f20 ⟩
theorem k20 : chkNF Try.prog Try.f20 n20 = true := by kernel_rfl
theorem ok20 : NOk Try.prog t20 := NOk.body (T := []) mixed nall_nil (oneEach_of (by kernel_rfl)) Try.func20 k20 (by kernel_rfl) (fun x h => e20 _  x h)
def n18 : NFunc := ⟨40, .seq (.region 0 [
 ⟨(some 4), .move (.const (.int .i64 (0))), none, 0, none⟩] []) (.seq (.seq (.region 0 [
 ⟨(some 9), .move (.tmp 0), none, 0, none⟩,
 ⟨(some 10), .eqP false (.tmp 9) (.const (.nilp)), none, 0, none⟩] []) (.cond (.tmp 10) (.seq (.region 0 [
 ⟨(some 4), .move (.const (.int .i64 (1))), none, 0, none⟩] []) (.ret)) (.skip))) (.seq (.region 5 [
 ⟨(some 12), .move (.tmp 0), none, 0, none⟩,
 ⟨(some 13), .nilCheck (.tmp 12), none, 0, none⟩,
 ⟨(some 14), .fieldAddr 1 (.tmp 13), none, 0, none⟩,
 ⟨(some 15), .load false 1 (.tmp 14), none, 0, none⟩,
 ⟨(some 16), .move (.tmp 1), none, 0, none⟩,
 ⟨(some 17), .call (.const (.fn 1000761 [])) [(true, (.tmp 15)), (false, (.tmp 16))] false 4, none, 0, none⟩,
 ⟨(some 11), .move (.tmp 17), none, 4, none⟩,
 ⟨(some 18), .extract (.tmp 11) 0, none, 4, none⟩,
 ⟨(some 19), .extract (.tmp 11) 1, none, 4, none⟩,
 ⟨(some 5), .alloc [.int .i64 (0), .int .i64 (0), .int .i64 (0), .int .i64 (0), .int .i64 (0), .zsl], none, 4, none⟩,
 ⟨none, .store 6 (.tmp 5) (.tmp 18), none, 5, none⟩,
 ⟨(some 6), .move (.tmp 19), none, 5, none⟩] []) (.seq (.seq (.region 0 [
 ⟨(some 20), .move (.tmp 6), none, 0, none⟩,
 ⟨(some 21), .un .not (.tmp 20), none, 0, none⟩] []) (.cond (.tmp 21) (.seq (.region 0 [
 ⟨(some 4), .move (.const (.int .i64 (30))), none, 0, none⟩] []) (.ret)) (.skip))) (.seq (.region 4 [
 ⟨(some 23), .move (.tmp 0), none, 0, none⟩,
 ⟨(some 24), .load true 6 (.tmp 5), none, 0, none⟩,
 ⟨(some 25), .call (.func 42) [(true, (.tmp 23)), (false, (.tmp 24)), (false, (.func 43))] false 4, none, 0, none⟩,
 ⟨(some 22), .move (.tmp 25), none, 4, none⟩,
 ⟨(some 26), .extract (.tmp 22) 0, none, 4, none⟩,
 ⟨(some 27), .extract (.tmp 22) 1, none, 4, none⟩,
 ⟨(some 7), .move (.tmp 26), none, 4, none⟩,
 ⟨(some 8), .move (.tmp 27), none, 4, none⟩] []) (.seq (.seq (.region 0 [
 ⟨(some 28), .move (.tmp 8), none, 0, none⟩,
 ⟨(some 29), .bin .neq (.tmp 28) (.const (.int .i64 (0))), none, 0, none⟩] []) (.cond (.tmp 29) (.seq (.region 0 [
 ⟨(some 30), .move (.tmp 8), none, 0, none⟩,
 ⟨(some 4), .move (.tmp 30), none, 0, none⟩] []) (.ret)) (.skip))) (.seq (.region 0 [
 ⟨(some 31), .move (.tmp 0), none, 0, none⟩,
 ⟨(some 32), .move (.tmp 7), none, 0, none⟩,
 ⟨(some 33), .nilCheck (.tmp 31), none, 0, none⟩,
 ⟨(some 34), .fieldAddr 0 (.tmp 33), none, 0, none⟩,
 ⟨none, .store 1 (.tmp 34) (.tmp 32), none, 0, none⟩] []) (.seq (.region 4 [
 ⟨(some 35), .move (.tmp 0), none, 0, none⟩,
 ⟨(some 36), .nilCheck (.tmp 35), none, 0, none⟩,
 ⟨(some 37), .fieldAddr 1 (.tmp 36), none, 0, none⟩,
 ⟨(some 38), .load false 1 (.tmp 37), none, 0, none⟩,
 ⟨(some 39), .move (.tmp 1), none, 0, none⟩,
 ⟨none, .call (.const (.fn 1000763 [])) [(true, (.tmp 38)), (false, (.tmp 39))] false 4, none, 0, none⟩] []) (.seq (.region 0 [
 ⟨(some 4), .move (.const (.int .i64 (0))), none, 0, none⟩] []) (.ret))))))))), [.tmp 4], true⟩
def s18 : Sig := ⟨(.cons .nilp (.cons (.v (.int .i64)) .nil)), [], ((.v (.int .i64)), []), []⟩
def F18 (L : Lp)  (job0 : Int) : Option Int :=
 some 1
theorem e18 (L : Lp)  (x : s18.args.den) (h : denH s18.heap) : nrun [] L n18 s18 x h = F18 L  x.2.1 := by kernel_rfl
def f18 : Int → Option Int := F18 (@LN LOOPS) 
@[reducible] def t18 : Ent := ⟨18, s18, fun x h => f18 x.2.1⟩
theorem k18 : chkNF Try.prog Try.f18 n18 = true := by kernel_rfl
theorem ok18 : NOk Try.prog t18 := NOk.body (T := []) mixed nall_nil (oneEach_of (by kernel_rfl)) Try.func18 k18 (by kernel_rfl) (fun x h => e18 _  x h)
def n44 : NFunc := ⟨37, .seq (.region 0 [
 ⟨(some 4), .move (.const (.bool false)), none, 0, none⟩] []) (.seq (.region 0 [
 ⟨(some 5), .move (.const (.int .i64 (-1))), none, 0, none⟩] []) (.seq (.seq (.region 0 [
 ⟨(some 8), .move (.tmp 0), none, 0, none⟩,
 ⟨(some 9), .len (.tmp 8), none, 0, none⟩,
 ⟨(some 10), .move (.const (.int .i64 (0))), none, 0, none⟩] []) (.block 0 (.loop [1, 5, 8, 9, 10] ⟨[(5, (.v (.int .i64))), (10, (.v (.int .i64)))], [1, 8, 9], []⟩ (.seq (.region 0 [
 ⟨(some 11), .bin .lss (.tmp 10) (.tmp 9), none, 0, none⟩] []) (.seq (.cond (.tmp 11) (.skip) (.exit 0)) (.seq (.block 1 (.seq (.region 1 [
 ⟨(some 12), .indexSl 2 (.tmp 8) (.tmp 10), none, 0, none⟩,
 ⟨(some 13), .load true 2 (.tmp 12), none, 0, none⟩,
 ⟨(some 7), .alloc [.int .i64 (0), .int .i64 (0)], none, 0, none⟩,
 ⟨none, .store 2 (.tmp 7) (.tmp 13), none, 1, none⟩] []) (.seq (.seq (.region 0 [
 ⟨(some 14), .fieldAddr 0 (.tmp 7), none, 0, none⟩,
 ⟨(some 15), .load false 1 (.tmp 14), none, 0, none⟩,
 ⟨(some 16), .move (.tmp 5), none, 0, none⟩,
 ⟨(some 17), .bin .leq (.tmp 15) (.tmp 16), none, 0, none⟩,
 ⟨(some 18), .move (.tmp 17), none, 0, none⟩,
 ⟨(some 19), .fieldAddr 0 (.tmp 7), (some (18, false)), 0, none⟩,
 ⟨(some 20), .load false 1 (.tmp 19), (some (18, false)), 0, none⟩,
 ⟨(some 21), .move (.tmp 1), (some (18, false)), 0, none⟩,
 ⟨(some 22), .bin .geq (.tmp 20) (.tmp 21), (some (18, false)), 0, none⟩,
 ⟨(some 23), .pick (.tmp 18) (.const (.bool true)) (.tmp 22), none, 0, none⟩,
 ⟨(some 24), .move (.tmp 23), none, 0, none⟩,
 ⟨(some 25), .fieldAddr 1 (.tmp 7), (some (24, false)), 0, none⟩,
 ⟨(some 26), .load false 1 (.tmp 25), (some (24, false)), 0, none⟩,
 ⟨(some 27), .bin .lss (.tmp 26) (.const (.int .i64 (1))), (some (24, false)), 0, none⟩,
 ⟨(some 28), .pick (.tmp 24) (.const (.bool true)) (.tmp 27), none, 0, none⟩,
 ⟨(some 29), .move (.tmp 28), none, 0, none⟩,
 ⟨(some 30), .fieldAddr 1 (.tmp 7), (some (29, false)), 0, none⟩,
 ⟨(some 31), .load false 1 (.tmp 30), (some (29, false)), 0, none⟩,
 ⟨(some 32), .bin .gtr (.tmp 31) (.const (.int .i64 (64))), (some (29, false)), 0, none⟩,
 ⟨(some 33), .pick (.tmp 29) (.const (.bool true)) (.tmp 32), none, 0, none⟩] []) (.cond (.tmp 33) (.seq (.region 0 [
 ⟨(some 4), .move (.const (.bool false)), none, 0, none⟩] []) (.ret)) (.skip))) (.region 0 [
 ⟨(some 34), .fieldAddr 0 (.tmp 7), none, 0, none⟩,
 ⟨(some 35), .load false 1 (.tmp 34), none, 0, none⟩,
 ⟨(some 5), .move (.tmp 35), none, 0, none⟩] [])))) (.region 0 [
 ⟨(some 36), .bin .add (.tmp 10) (.const (.int .i64 (1))), none, 0, none⟩,
 ⟨(some 10), .move (.tmp 36), none, 0, none⟩] []))))))) (.seq (.region 0 [
 ⟨(some 4), .move (.const (.bool true)), none, 0, none⟩] []) (.ret)))), [.tmp 4], true⟩
def s44 : Sig := ⟨(.cons (.v (.list .share)) (.cons (.v (.int .i64)) .nil)), [], ((.v .bool), []), []⟩
def l44_0 (al0 : (List Share)) (nodes1 : Int) (nx3 : ((Int × (Int × Unit)) × Unit) → Option Bool) (last4 : Int) (z5 : Int) : Option Bool :=
 cond (decide (z5 < (List.length al0 : Int)))
 (cond (decide (0 ≤ z5))
 (Option.bind (al0[Int.toNat z5]?) fun y6 =>
 cond (decide (y6.node ≤ last4))
 (some false)
 (cond (decide (nodes1 ≤ y6.node))
 (some false)
 (cond (decide (y6.many < 1))
 (some false)
 (cond (decide (64 < y6.many))
 (some false)
 (nx3 ((y6.node, IntKind.wrap .i64 (z5 + 1), ()), ()))))))
 (none))
 (some true)
def F44 (L : Lp)  (al0 : (List Share)) (nodes1 : Int) : Option Bool :=
 L (fun (s2 : ((Int × (Int × Unit)) × Unit)) nx3 => l44_0 al0 nodes1 nx3 s2.1.1 s2.1.2.1) (((-1), 0, ()), ())
theorem e44 (L : Lp)  (x : s44.args.den) (h : denH s44.heap) : nrun [] L n44 s44 x h = F44 L  x.1 x.2.1 := by kernel_rfl
def f44 : (List Share) → Int → Option Bool := F44 (@LN LOOPS) 
@[reducible] def t44 : Ent := ⟨44, s44, fun x h => f44 x.1 x.2.1⟩
theorem k44 : chkNF Try.prog Try.f44 n44 = true := by kernel_rfl
theorem ok44 : NOk Try.prog t44 := NOk.body (T := []) mixed nall_nil (oneEach_of (by kernel_rfl)) Try.func44 k44 (by kernel_rfl) (fun x h => e44 _  x h)
def sM1 : Sig := ⟨(.cons (.mp 0) (.cons (.v (.int .i64)) .nil)), [.typed (.pair (.int .i64) .alloc)], ((.tup (.cons (.v .alloc) (.cons (.v .bool) .nil))), [.typed (.pair (.int .i64) .alloc)]), []⟩
def fM1 : Int → (List (Int × Alloc)) → Option ((Alloc × (Bool × Unit)) × ((List (Int × Alloc)) × Unit)) := mlook1 zMap
@[reducible] def tM1 : Ent := ⟨1000761, sM1, fun x h => fM1 x.2.1 h.1⟩
theorem okM1 : NPk Try.prog tM1 := NPk.look1 mapTyM
def s71 : Sig := ⟨(.cons (.v .res) (.cons (.v (.int .i64)) .nil)), [], ((.tup (.cons (.v .res) (.cons (.v (.int .i64)) .nil))), []), []⟩
def f71 : Res → Int → Option (Res × (Int × Unit)) := vecTimes
@[reducible] def t71 : Ent := ⟨71, s71, fun x h => f71 x.1 x.2.1⟩
theorem ok71 : NOk Try.prog t71 := ext71
def s46 : Sig := ⟨(.cons (.v .res) (.cons (.v .res) .nil)), [], ((.tup (.cons (.v .res) (.cons (.v (.int .i64)) .nil))), []), []⟩
def f46 : Res → Res → Option (Res × (Int × Unit)) := vecSub
@[reducible] def t46 : Ent := ⟨46, s46, fun x h => f46 x.1 x.2.1⟩
theorem ok46 : NOk Try.prog t46 := ext46
def n42 : NFunc := ⟨56, .seq (.region 1 [
 ⟨(some 4), .box 6 (.tmp 1), none, 0, none⟩,
 ⟨(some 6), .move (.const (.zsl)), none, 1, none⟩,
 ⟨(some 7), .move (.const (.int .i64 (0))), none, 1, none⟩] []) (.seq (.region 4 [
 ⟨(some 13), .move (.tmp 0), none, 0, none⟩,
 ⟨(some 14), .nilCheck (.tmp 13), none, 0, none⟩,
 ⟨(some 15), .fieldAddr 0 (.tmp 14), none, 0, none⟩,
 ⟨(some 16), .load false 1 (.tmp 15), none, 0, none⟩,
 ⟨(some 17), .call (.func 41) [(false, (.tmp 16))] false 4, none, 0, none⟩,
 ⟨(some 8), .move (.tmp 17), none, 4, none⟩] []) (.seq (.seq (.region 0 [
 ⟨(some 18), .fieldAddr 5 (.tmp 4), none, 0, none⟩,
 ⟨(some 19), .load false 1 (.tmp 18), none, 0, none⟩,
 ⟨(some 20), .len (.tmp 19), none, 0, none⟩,
 ⟨(some 21), .move (.const (.int .i64 (0))), none, 0, none⟩] []) (.block 0 (.loop [2, 4, 8, 19, 20, 21] ⟨[(4, (.ptr 2 0 0)), (8, (.slw 3 4)), (21, (.v (.int .i64)))], [2, 19, 20], [.cell false (.cons (.v (.list .res)) (.cons (.mp 1) .nil)), .typed (.pair (.int .i64) .alloc), .one false .alloc, .typed .res]⟩ (.seq (.region 0 [
 ⟨(some 22), .bin .lss (.tmp 21) (.tmp 20), none, 0, none⟩] []) (.seq (.cond (.tmp 22) (.skip) (.exit 0)) (.seq (.block 1 (.seq (.region 1 [
 ⟨(some 23), .indexSl 2 (.tmp 19) (.tmp 21), none, 0, none⟩,
 ⟨(some 24), .load true 2 (.tmp 23), none, 0, none⟩,
 ⟨(some 10), .alloc [.int .i64 (0), .int .i64 (0)], none, 0, none⟩,
 ⟨none, .store 2 (.tmp 10) (.tmp 24), none, 1, none⟩] []) (.seq (.region 5 [
 ⟨(some 26), .fieldAddr 1 (.tmp 4), none, 0, none⟩,
 ⟨(some 27), .load true 4 (.tmp 26), none, 0, none⟩,
 ⟨(some 28), .fieldAddr 1 (.tmp 10), none, 0, none⟩,
 ⟨(some 29), .load false 1 (.tmp 28), none, 0, none⟩,
 ⟨(some 30), .call (.func 71) [(false, (.tmp 27)), (false, (.tmp 29))] false 4, none, 0, none⟩,
 ⟨(some 25), .move (.tmp 30), none, 4, none⟩,
 ⟨(some 31), .extract (.tmp 25) 0, none, 4, none⟩,
 ⟨(some 32), .extract (.tmp 25) 1, none, 4, none⟩,
 ⟨(some 11), .alloc [.int .i64 (0), .int .i64 (0), .int .i64 (0), .int .i64 (0)], none, 4, none⟩,
 ⟨none, .store 4 (.tmp 11) (.tmp 31), none, 5, none⟩,
 ⟨(some 12), .move (.tmp 32), none, 5, none⟩] []) (.seq (.seq (.region 0 [
 ⟨(some 33), .move (.tmp 12), none, 0, none⟩,
 ⟨(some 34), .bin .neq (.tmp 33) (.const (.int .i64 (0))), none, 0, none⟩] []) (.cond (.tmp 34) (.seq (.region 0 [
 ⟨(some 35), .move (.tmp 12), none, 0, none⟩,
 ⟨(some 6), .move (.const (.zsl)), none, 0, none⟩,
 ⟨(some 7), .move (.tmp 35), none, 0, none⟩] []) (.ret)) (.skip))) (.seq (.region 4 [
 ⟨(some 37), .move (.tmp 8), none, 0, (some ([], none))⟩,
 ⟨(some 38), .fieldAddr 0 (.tmp 10), none, 0, (some ([], none))⟩,
 ⟨(some 39), .load false 1 (.tmp 38), none, 0, (some ([], none))⟩,
 ⟨(some 40), .move (.tmp 2), none, 0, (some ([], none))⟩,
 ⟨(some 41), .move (.tmp 8), none, 0, (some ([], none))⟩,
 ⟨(some 42), .fieldAddr 0 (.tmp 10), none, 0, (some ([], none))⟩,
 ⟨(some 43), .load false 1 (.tmp 42), none, 0, (some ([], none))⟩,
 ⟨(some 44), .indexSl 4 (.tmp 41) (.tmp 43), none, 0, (some ([], none))⟩,
 ⟨(some 45), .load true 4 (.tmp 44), none, 0, (some ([], none))⟩,
 ⟨(some 46), .load true 4 (.tmp 11), none, 0, (some ([], none))⟩,
 ⟨(some 47), .call (.tmp 40) [(false, (.tmp 45)), (false, (.tmp 46))] true 4, none, 0, (some ([], none))⟩,
 ⟨(some 36), .move (.tmp 47), none, 4, (some ([0, 1, 2, 3], none))⟩,
 ⟨(some 48), .extract (.tmp 36) 0, none, 4, (some ([0, 1, 2, 3], none))⟩,
 ⟨(some 49), .extract (.tmp 36) 1, none, 4, (some ([0, 1, 2, 3], none))⟩,
 ⟨(some 50), .indexSl 4 (.tmp 37) (.tmp 39), none, 4, (some ([0, 1, 2, 3], none))⟩,
 ⟨none, .store 4 (.tmp 50) (.tmp 48), none, 4, (some ([0, 1, 2, 3], none))⟩,
 ⟨(some 12), .move (.tmp 49), none, 4, (some ([0, 1, 2, 3], none))⟩] []) (.seq (.region 0 [
 ⟨(some 51), .move (.tmp 12), none, 0, none⟩,
 ⟨(some 52), .bin .neq (.tmp 51) (.const (.int .i64 (0))), none, 0, none⟩] []) (.cond (.tmp 52) (.seq (.region 0 [
 ⟨(some 53), .move (.tmp 12), none, 0, none⟩,
 ⟨(some 6), .move (.const (.zsl)), none, 0, none⟩,
 ⟨(some 7), .move (.tmp 53), none, 0, none⟩] []) (.ret)) (.skip)))))))) (.region 0 [
 ⟨(some 54), .bin .add (.tmp 21) (.const (.int .i64 (1))), none, 0, none⟩,
 ⟨(some 21), .move (.tmp 54), none, 0, none⟩] []))))))) (.seq (.region 0 [
 ⟨(some 55), .move (.tmp 8), none, 0, none⟩,
 ⟨(some 6), .move (.tmp 55), none, 0, none⟩,
 ⟨(some 7), .move (.const (.int .i64 (0))), none, 0, none⟩] []) (.ret)))), [.tmp 6, .tmp 7], true⟩
def s42 : Sig := ⟨(.cons (.ptr 0 0 0) (.cons (.v .alloc) (.cons (.fn 46 .nil) .nil))), [.cell false (.cons (.v (.list .res)) (.cons (.mp 1) .nil)), .typed (.pair (.int .i64) .alloc)], ((.tup (.cons (.v (.list .res)) (.cons (.v (.int .i64)) .nil))), [.cell false (.cons (.v (.list .res)) (.cons (.mp 1) .nil)), .typed (.pair (.int .i64) .alloc)]), []⟩
def l42_0 (g71 : Res → Int → Option (Res × (Int × Unit))) (g46 : Res → Res → Option (Res × (Int × Unit))) (a0 : Alloc) (nx5 : ((Unit × (Unit × (Int × Unit))) × (((List Res) × (Unit × Unit)) × ((List (Int × Alloc)) × (Alloc × ((List Res) × Unit))))) → Option (((List Res) × (Int × Unit)) × (((List Res) × (Unit × Unit)) × ((List (Int × Alloc)) × Unit)))) (z6 : Int) (z7 : (List Res)) (z8 : (List (Int × Alloc))) (z9 : Alloc) (z10 : (List Res)) : Option (((List Res) × (Int × Unit)) × (((List Res) × (Unit × Unit)) × ((List (Int × Alloc)) × Unit))) :=
 cond (decide (z6 < (List.length a0.shares : Int)))
 (cond (decide (0 ≤ z6))
 (Option.bind (a0.shares[Int.toNat z6]?) fun y11 =>
 Option.bind (g71 z9.need y11.many) fun r12 =>
 cond (!decide (r12.2.1 = 0))
 (some (([], r12.2.1, ()), ((z7, (), ()), z8, ())))
 (cond (decide (0 ≤ y11.node))
 (cond (decide ((Int.toNat y11.node) < (List.length z10)))
 (Option.bind (z10[Int.toNat y11.node]?) fun y13 =>
 Option.bind (g46 y13 r12.1) fun r14 =>
 cond (decide (0 ≤ y11.node))
 (cond (decide ((Int.toNat y11.node) < (List.length z10)))
 (Option.bind (z10[Int.toNat y11.node]?) fun y15 =>
 cond (!decide (r14.2.1 = 0))
 (some (([], r14.2.1, ()), ((z7, (), ()), z8, ())))
 (nx5 (((), (), IntKind.wrap .i64 (z6 + 1), ()), ((z7, (), ()), z8, z9, List.set z10 (Int.toNat y11.node) r14.1, ()))))
 (none))
 (none))
 (none))
 (none)))
 (none))
 (some ((z10, 0, ()), ((z7, (), ()), z8, ())))
def F42 (L : Lp) (g41 : (List Res) → Option (Unit × ((List Res) × Unit))) (g71 : Res → Int → Option (Res × (Int × Unit))) (g46 : Res → Res → Option (Res × (Int × Unit))) (a0 : Alloc) (a1 : (List Res)) (a2 : (List (Int × Alloc))) : Option (((List Res) × (Int × Unit)) × (((List Res) × (Unit × Unit)) × ((List (Int × Alloc)) × Unit))) :=
 Option.bind (g41 a1) fun r3 =>
 L (fun (s4 : ((Unit × (Unit × (Int × Unit))) × (((List Res) × (Unit × Unit)) × ((List (Int × Alloc)) × (Alloc × ((List Res) × Unit)))))) nx5 => l42_0 g71 g46 a0 nx5 s4.1.2.2.1 s4.2.1.1 s4.2.2.1 s4.2.2.2.1 s4.2.2.2.2.1) (((), (), 0, ()), ((a1, (), ()), a2, a0, r3.2.1, ()))
theorem e42 (L : Lp) (g41 : (List Res) → Option (Unit × ((List Res) × Unit))) (g71 : Res → Int → Option (Res × (Int × Unit))) (g46 : Res → Res → Option (Res × (Int × Unit))) (x : s42.args.den) (h : denH s42.heap) : nrun [⟨41, s41, fun x h => g41 x.1⟩, ⟨71, s71, fun x h => g71 x.1 x.2.1⟩, ⟨46, s46, fun x h => g46 x.1 x.2.1⟩] L n42 s42 x h = F42 L g41 g71 g46 x.2.1 h.1.1 h.2.1 := by kernel_rfl
def f42 : Alloc → (List Res) → (List (Int × Alloc)) → Option (((List Res) × (Int × Unit)) × (((List Res) × (Unit × Unit)) × ((List (Int × Alloc)) × Unit))) := F42 (@LN LOOPS) f41 f71 f46
@[reducible] def t42 : Ent := ⟨42, s42, fun x h => f42 x.2.1 h.1.1 h.2.1⟩
theorem k42 : chkNF Try.prog Try.f42 n42 = true := by kernel_rfl
theorem ok42 : NOk Try.prog t42 := NOk.body (T := [t41, t71, t46]) mixed (nall_cons ok41 (nall_cons ok71 (nall_cons ok46 nall_nil))) (oneEach_of (by kernel_rfl)) Try.func42 k42 (by kernel_rfl) (fun x h => e42 _ _ _ _ x h)
def n75 : NFunc := ⟨8, .seq (.region 0 [
 ⟨(some 2), .move (.const (.zsl)), none, 0, none⟩] []) (.seq (.seq (.region 0 [
 ⟨(some 3), .move (.tmp 0), none, 0, none⟩,
 ⟨(some 4), .eqI false (.tmp 3) (.const (.zsl)), none, 0, none⟩] []) (.cond (.tmp 4) (.seq (.region 0 [
 ⟨(some 2), .move (.const (.zsl)), none, 0, none⟩] []) (.ret)) (.skip))) (.seq (.region 2 [
 ⟨(some 5), .buildSlice 2 0 true [.int .i64 (0), .int .i64 (0)] [], none, 0, none⟩,
 ⟨(some 6), .move (.tmp 0), none, 1, none⟩,
 ⟨(some 7), .append 2 16 true (.tmp 5) (.tmp 6), none, 1, none⟩,
 ⟨(some 2), .move (.tmp 7), none, 2, none⟩] []) (.ret))), [.tmp 2], false⟩
def s75 : Sig := ⟨(.cons (.v (.list .share)) .nil), [], ((.slw 0 2), [.typed .share]), []⟩
def F75 (L : Lp)  (as0 : (List Share)) : Option (Unit × ((List Share) × Unit)) :=
 cond (List.isEmpty as0)
 (none)
 (cond (smallB (0 + (List.length as0)) 16)
 (some ((), ([] ++ as0, ())))
 (none))
theorem e75 (L : Lp)  (x : s75.args.den) (h : denH s75.heap) : nrun [] L n75 s75 x h = F75 L  x.1 := by kernel_rfl
def f75 : (List Share) → Option (Unit × ((List Share) × Unit)) := cloneF (F75 (@LN LOOPS))
@[reducible] def t75 : Ent := ⟨75, s75, fun x h => f75 x.1⟩
theorem k75 : chkNF Try.prog Try.f75 n75 = true := by kernel_rfl
theorem c75 (A : Option Addr) (c : Nat) (w : World) : Calls Try.prog 75 #[.slice A 0 c] w (fun e w' => ∃ A', e = .returned (.slice A' 0 0) ∧ Go.RowKit.Below w.heap.size w w') := by
 have hq := fun (u : World) => Lib.run_eql_slice_nil (P := Try.prog) u 55 89 A 0 c 0 0 Try.underlying55
 cases A with
 | none => (go_enter Try.func75, Try.ntmps75; go_wp2; go_ret; exact ⟨_, rfl, Go.RowKit.Below.refl _ _⟩)
 | some ad => (go_enter Try.func75, Try.ntmps75; go_wp2; go_ret; exact ⟨_, rfl, (Go.RowKit.Below.refl _ _).alloc (Nat.le_refl _) _⟩)
theorem b75 : NOk Try.prog ⟨75, s75, fun x h => F75 (@LN LOOPS) x.1⟩ := NOk.body (T := []) mixed nall_nil (oneEach_of (by kernel_rfl)) Try.func75 k75 (by kernel_rfl) (fun x h => e75 _  x h)
theorem ok75 : NOk Try.prog t75 := NOk.clone (t := .share) b75 (clone_empty .share b75.1 c75)
def n47 : NFunc := ⟨8, .seq (.region 2 [
 ⟨(some 1), .box 6 (.tmp 0), none, 0, none⟩,
 ⟨(some 2), .alloc [.int .i64 (0), .int .i64 (0), .int .i64 (0), .int .i64 (0), .int .i64 (0), .zsl], none, 1, none⟩] []) (.seq (.region 4 [
 ⟨(some 3), .fieldAddr 5 (.tmp 1), none, 0, none⟩,
 ⟨(some 4), .load false 1 (.tmp 3), none, 0, none⟩,
 ⟨(some 5), .call (.func 75) [(false, (.tmp 4))] false 4, none, 0, none⟩,
 ⟨(some 6), .fieldAddr 5 (.tmp 1), none, 4, none⟩,
 ⟨none, .store 1 (.tmp 6) (.tmp 5), none, 4, none⟩] []) (.seq (.region 0 [
 ⟨(some 7), .load true 6 (.tmp 1), none, 0, none⟩,
 ⟨none, .store 6 (.tmp 2) (.tmp 7), none, 0, none⟩] []) (.ret))), [.cell true 6 2], true⟩
def s47 : Sig := ⟨(.cons (.v .alloc) .nil), [], ((.v .alloc), []), []⟩
def F47 (L : Lp) (g75 : (List Share) → Option (Unit × ((List Share) × Unit))) (a0 : Alloc) : Option Alloc :=
 Option.bind (g75 a0.shares) fun r1 =>
 some (Alloc.mk a0.job a0.need r1.2.1)
theorem e47 (L : Lp) (g75 : (List Share) → Option (Unit × ((List Share) × Unit))) (x : s47.args.den) (h : denH s47.heap) : nrun [⟨75, s75, fun x h => g75 x.1⟩] L n47 s47 x h = F47 L g75 x.1 := by kernel_rfl
def f47 : Alloc → Option Alloc := F47 (@LN LOOPS) f75
@[reducible] def t47 : Ent := ⟨47, s47, fun x h => f47 x.1⟩
theorem k47 : chkNF Try.prog Try.f47 n47 = true := by kernel_rfl
theorem ok47 : NOk Try.prog t47 := NOk.body (T := [t75]) mixed (nall_cons ok75 nall_nil) (oneEach_of (by kernel_rfl)) Try.func47 k47 (by kernel_rfl) (fun x h => e47 _ _ x h)
def sM2 : Sig := ⟨(.cons (.mp 0) (.cons (.v (.int .i64)) (.cons (.v .alloc) .nil))), [.typed (.pair (.int .i64) .alloc)], ((.tup .nil), [.typed (.pair (.int .i64) .alloc)]), []⟩
def fM2 : Int → Alloc → (List (Int × Alloc)) → Option (Unit × ((List (Int × Alloc)) × Unit)) := mput
@[reducible] def tM2 : Ent := ⟨1000762, sM2, fun x h => fM2 x.2.1 x.2.2.1 h.1⟩
theorem okM2 : NPk Try.prog tM2 := NPk.put mapTyM
def n19_1 : NFunc := ⟨74, .seq (.region 1 [
 ⟨(some 3), .box 6 (.tmp 1), none, 0, none⟩,
 ⟨(some 4), .move (.const (.int .i64 (0))), none, 1, none⟩] []) (.seq (.seq (.region 0 [
 ⟨(some 9), .move (.tmp 0), none, 0, none⟩,
 ⟨(some 10), .eqP false (.tmp 9) (.const (.nilp)), none, 0, none⟩] []) (.cond (.tmp 10) (.seq (.region 0 [
 ⟨(some 4), .move (.const (.int .i64 (1))), none, 0, none⟩] []) (.ret)) (.skip))) (.seq (.seq (.region 8 [
 ⟨(some 11), .fieldAddr 0 (.tmp 3), none, 0, (some ([], none))⟩,
 ⟨(some 12), .load false 1 (.tmp 11), none, 0, (some ([], none))⟩,
 ⟨(some 13), .bin .lss (.tmp 12) (.const (.int .i64 (1))), none, 0, (some ([], none))⟩,
 ⟨(some 14), .move (.tmp 13), none, 0, (some ([], none))⟩,
 ⟨(some 15), .fieldAddr 0 (.tmp 3), (some (14, false)), 0, (some ([], none))⟩,
 ⟨(some 16), .load false 1 (.tmp 15), (some (14, false)), 0, (some ([], none))⟩,
 ⟨(some 17), .bin .gtr (.tmp 16) (.const (.int .i64 (1048576))), (some (14, false)), 0, (some ([], none))⟩,
 ⟨(some 18), .pick (.tmp 14) (.const (.bool true)) (.tmp 17), none, 0, (some ([], none))⟩,
 ⟨(some 19), .move (.tmp 18), none, 0, (some ([], none))⟩,
 ⟨(some 20), .fieldAddr 5 (.tmp 3), (some (19, false)), 0, (some ([], none))⟩,
 ⟨(some 21), .load false 1 (.tmp 20), (some (19, false)), 0, (some ([], none))⟩,
 ⟨(some 22), .len (.tmp 21), (some (19, false)), 0, (some ([], none))⟩,
 ⟨(some 23), .bin .eql (.tmp 22) (.const (.int .i64 (0))), (some (19, false)), 0, (some ([], none))⟩,
 ⟨(some 24), .pick (.tmp 19) (.const (.bool true)) (.tmp 23), none, 0, (some ([], none))⟩,
 ⟨(some 25), .move (.tmp 24), none, 0, (some ([], none))⟩,
 ⟨(some 26), .fieldAddr 5 (.tmp 3), (some (25, false)), 0, (some ([], none))⟩,
 ⟨(some 27), .load false 1 (.tmp 26), (some (25, false)), 0, (some ([], none))⟩,
 ⟨(some 28), .move (.tmp 0), (some (25, false)), 0, (some ([], none))⟩,
 ⟨(some 29), .nilCheck (.tmp 28), (some (25, false)), 0, (some ([], none))⟩,
 ⟨(some 30), .fieldAddr 0 (.tmp 29), (some (25, false)), 0, (some ([], none))⟩,
 ⟨(some 31), .load false 1 (.tmp 30), (some (25, false)), 0, (some ([], none))⟩,
 ⟨(some 32), .len (.tmp 31), (some (25, false)), 0, (some ([], none))⟩,
 ⟨(some 33), .call (.func 44) [(false, (.tmp 27)), (false, (.tmp 32))] false 4, (some (25, false)), 0, (some ([], none))⟩,
 ⟨(some 34), .un .not (.tmp 33), (some (25, false)), 4, (some ([0, 1, 2, 3], none))⟩,
 ⟨(some 35), .pick (.tmp 25) (.const (.bool true)) (.tmp 34), none, 4, (some ([0, 1, 2, 3], none))⟩,
 ⟨(some 36), .move (.tmp 35), none, 4, (some ([0, 1, 2, 3], none))⟩,
 ⟨(some 37), .fieldAddr 1 (.tmp 3), (some (36, false)), 4, (some ([0, 1, 2, 3], none))⟩,
 ⟨(some 38), .load true 4 (.tmp 37), (some (36, false)), 4, (some ([0, 1, 2, 3], none))⟩,
 ⟨(some 39), .call (.func 45) [(false, (.tmp 38))] false 4, (some (36, false)), 4, (some ([0, 1, 2, 3], none))⟩,
 ⟨(some 40), .un .not (.tmp 39), (some (36, false)), 8, (some ([0, 1, 2, 3, 4, 5, 6, 7], none))⟩,
 ⟨(some 41), .pick (.tmp 36) (.const (.bool true)) (.tmp 40), none, 8, (some ([0, 1, 2, 3, 4, 5, 6, 7], none))⟩] []) (.cond (.tmp 41) (.seq (.region 0 [
 ⟨(some 4), .move (.const (.int .i64 (2))), none, 0, none⟩] []) (.ret)) (.skip))) (.seq (.seq (.region 5 [
 ⟨(some 43), .move (.tmp 0), none, 0, (some ([], none))⟩,
 ⟨(some 44), .nilCheck (.tmp 43), none, 0, (some ([], none))⟩,
 ⟨(some 45), .fieldAddr 1 (.tmp 44), none, 0, (some ([], none))⟩,
 ⟨(some 46), .load false 1 (.tmp 45), none, 0, (some ([], some [0]))⟩,
 ⟨(some 47), .fieldAddr 0 (.tmp 3), none, 0, (some ([], none))⟩,
 ⟨(some 48), .load false 1 (.tmp 47), none, 0, (some ([], some [2]))⟩,
 ⟨(some 49), .call (.const (.fn 1000761 [])) [(true, (.tmp 46)), (false, (.tmp 48))] false 4, none, 0, (some ([], some [1]))⟩,
 ⟨(some 42), .move (.tmp 49), none, 4, (some ([0, 1, 2, 3], none))⟩,
 ⟨(some 50), .extract (.tmp 42) 0, none, 4, (some ([0, 1, 2, 3], none))⟩,
 ⟨(some 51), .extract (.tmp 42) 1, none, 4, (some ([0, 1, 2, 3], none))⟩,
 ⟨(some 5), .alloc [.int .i64 (0), .int .i64 (0), .int .i64 (0), .int .i64 (0), .int .i64 (0), .zsl], none, 4, (some ([], some []))⟩,
 ⟨none, .store 6 (.tmp 5) (.tmp 50), none, 5, (some ([4], some []))⟩,
 ⟨(some 6), .move (.tmp 51), none, 5, (some ([0, 1, 2, 3, 4], none))⟩] []) (.seq (.region 0 [
 ⟨(some 52), .move (.tmp 6), none, 0, none⟩] []) (.cond (.tmp 52) (.seq (.region 0 [
 ⟨(some 4), .move (.const (.int .i64 (31))), none, 0, none⟩] []) (.ret)) (.skip)))) (.seq (.region 4 [
 ⟨(some 54), .move (.tmp 0), none, 0, none⟩,
 ⟨(some 55), .load true 6 (.tmp 3), none, 0, none⟩,
 ⟨(some 56), .call (.func 42) [(true, (.tmp 54)), (false, (.tmp 55)), (false, (.func 46))] false 4, none, 0, none⟩,
 ⟨(some 53), .move (.tmp 56), none, 4, none⟩,
 ⟨(some 57), .extract (.tmp 53) 0, none, 4, none⟩,
 ⟨(some 58), .extract (.tmp 53) 1, none, 4, none⟩,
 ⟨(some 7), .move (.tmp 57), none, 4, none⟩,
 ⟨(some 8), .move (.tmp 58), none, 4, none⟩] []) (.seq (.seq (.region 0 [
 ⟨(some 59), .move (.tmp 8), none, 0, none⟩,
 ⟨(some 60), .bin .neq (.tmp 59) (.const (.int .i64 (0))), none, 0, none⟩] []) (.cond (.tmp 60) (.seq (.region 0 [
 ⟨(some 61), .move (.tmp 8), none, 0, none⟩,
 ⟨(some 4), .move (.tmp 61), none, 0, none⟩] []) (.ret)) (.skip))) (.seq (.region 0 [
 ⟨(some 62), .move (.tmp 0), none, 0, none⟩,
 ⟨(some 63), .move (.tmp 7), none, 0, none⟩,
 ⟨(some 64), .nilCheck (.tmp 62), none, 0, none⟩,
 ⟨(some 65), .fieldAddr 0 (.tmp 64), none, 0, none⟩,
 ⟨none, .store 1 (.tmp 65) (.tmp 63), none, 0, none⟩] []) (.seq (.region 8 [
 ⟨(some 66), .move (.tmp 0), none, 0, (some ([], none))⟩,
 ⟨(some 67), .nilCheck (.tmp 66), none, 0, (some ([], none))⟩,
 ⟨(some 68), .fieldAddr 1 (.tmp 67), none, 0, (some ([], none))⟩,
 ⟨(some 69), .load false 1 (.tmp 68), none, 0, (some ([], none))⟩,
 ⟨(some 70), .fieldAddr 0 (.tmp 3), none, 0, (some ([], none))⟩,
 ⟨(some 71), .load false 1 (.tmp 70), none, 0, (some ([], none))⟩,
 ⟨(some 72), .load true 6 (.tmp 3), none, 0, (some ([], none))⟩,
 ⟨(some 73), .call (.func 47) [(false, (.tmp 72))] true 4, none, 0, (some ([], none))⟩,
 ⟨none, .call (.const (.fn 1000762 [])) [(true, (.tmp 69)), (false, (.tmp 71)), (false, (.tmp 73))] false 4, none, 4, (some ([0, 1, 2, 3], none))⟩] []) (.seq (.region 0 [
 ⟨(some 4), .move (.const (.int .i64 (0))), none, 0, none⟩] []) (.ret))))))))), [.tmp 4], true⟩
def s19_1 : Sig := ⟨(.cons (.ptr 0 0 0) (.cons (.v .alloc) .nil)), [.cell false (.cons (.v (.list .res)) (.cons (.mp 1) .nil)), .typed (.pair (.int .i64) .alloc)], ((.v (.int .i64)), [.cell false (.cons (.v (.list .res)) (.cons (.mp 1) .nil)), .typed (.pair (.int .i64) .alloc)]), []⟩
def F19_1 (L : Lp) (g44 : (List Share) → Int → Option Bool) (g45 : Res → Option Bool) (gM1 : Int → (List (Int × Alloc)) → Option ((Alloc × (Bool × Unit)) × ((List (Int × Alloc)) × Unit))) (g42 : Alloc → (List Res) → (List (Int × Alloc)) → Option (((List Res) × (Int × Unit)) × (((List Res) × (Unit × Unit)) × ((List (Int × Alloc)) × Unit)))) (g47 : Alloc → Option Alloc) (gM2 : Int → Alloc → (List (Int × Alloc)) → Option (Unit × ((List (Int × Alloc)) × Unit))) (a0 : Alloc) (a1 : (List Res)) (a2 : (List (Int × Alloc))) : Option (Int × (((List Res) × (Unit × Unit)) × ((List (Int × Alloc)) × Unit))) :=
 cond (decide (a0.job < 1))
 (some (2, ((a1, (), ()), a2, ())))
 (cond (decide (1048576 < a0.job))
 (some (2, ((a1, (), ()), a2, ())))
 (cond (decide ((List.length a0.shares : Int) = 0))
 (some (2, ((a1, (), ()), a2, ())))
 (Option.bind (g44 a0.shares (List.length a1 : Int)) fun r3 =>
 cond (!r3)
 (some (2, ((a1, (), ()), a2, ())))
 (Option.bind (g45 a0.need) fun r4 =>
 cond (!r4)
 (some (2, ((a1, (), ()), a2, ())))
 (Option.bind (gM1 a0.job a2) fun r5 =>
 cond r5.1.2.1
 (some (31, ((a1, (), ()), r5.2.1, ())))
 (Option.bind (g42 a0 a1 r5.2.1) fun r6 =>
 cond (!decide (r6.1.2.1 = 0))
 (some (r6.1.2.1, ((r6.2.1.1, (), ()), r6.2.2.1, ())))
 (Option.bind (g47 a0) fun r7 =>
 Option.bind (gM2 a0.job r7 r6.2.2.1) fun r8 =>
 some (0, ((r6.1.1, (), ()), r8.2.1, ())))))))))
theorem e19_1 (L : Lp) (g44 : (List Share) → Int → Option Bool) (g45 : Res → Option Bool) (gM1 : Int → (List (Int × Alloc)) → Option ((Alloc × (Bool × Unit)) × ((List (Int × Alloc)) × Unit))) (g42 : Alloc → (List Res) → (List (Int × Alloc)) → Option (((List Res) × (Int × Unit)) × (((List Res) × (Unit × Unit)) × ((List (Int × Alloc)) × Unit)))) (g47 : Alloc → Option Alloc) (gM2 : Int → Alloc → (List (Int × Alloc)) → Option (Unit × ((List (Int × Alloc)) × Unit))) (x : s19_1.args.den) (h : denH s19_1.heap) : nrun [⟨44, s44, fun x h => g44 x.1 x.2.1⟩, ⟨45, s45, fun x h => g45 x.1⟩, ⟨1000761, sM1, fun x h => gM1 x.2.1 h.1⟩, ⟨42, s42, fun x h => g42 x.2.1 h.1.1 h.2.1⟩, ⟨47, s47, fun x h => g47 x.1⟩, ⟨1000762, sM2, fun x h => gM2 x.2.1 x.2.2.1 h.1⟩] L n19_1 s19_1 x h = F19_1 L g44 g45 gM1 g42 g47 gM2 x.2.1 h.1.1 h.2.1 := by kernel_rfl
def f19_1 : Alloc → (List Res) → (List (Int × Alloc)) → Option (Int × (((List Res) × (Unit × Unit)) × ((List (Int × Alloc)) × Unit))) := F19_1 (@LN LOOPS) f44 f45 fM1 f42 f47 fM2
@[reducible] def t19_1 : Ent := ⟨19, s19_1, fun x h => f19_1 x.2.1 h.1.1 h.2.1⟩
theorem k19_1 : chkNF Try.prog Try.f19 n19_1 = true := by kernel_rfl
theorem ok19_1 : NOk Try.prog t19_1 := NOk.body (T := [t44, t45, tM1, t42, t47, tM2]) mixed (nall_cons ok44 (nall_cons ok45 (nall_prim okM1 (nall_cons ok42 (nall_cons ok47 (nall_prim okM2 nall_nil)))))) (oneEach_of (by kernel_rfl)) Try.func19 k19_1 (by kernel_rfl) (fun x h => e19_1 _ _ _ _ _ _ _ x h)
def n20_1 : NFunc := ⟨10, .seq (.region 0 [
 ⟨(some 2), .move (.const (.zsl)), none, 0, none⟩] []) (.seq (.seq (.region 0 [
 ⟨(some 3), .move (.tmp 0), none, 0, none⟩,
 ⟨(some 4), .eqP false (.tmp 3) (.const (.nilp)), none, 0, none⟩] []) (.cond (.tmp 4) (.seq (.region 0 [
 ⟨(some 2), .move (.const (.zsl)), none, 0, none⟩] []) (.ret)) (.skip))) (.seq (.region 4 [
 ⟨(some 5), .move (.tmp 0), none, 0, none⟩,
 ⟨(some 6), .nilCheck (.tmp 5), none, 0, none⟩,
 ⟨(some 7), .fieldAddr 0 (.tmp 6), none, 0, none⟩,
 ⟨(some 8), .load false 1 (.tmp 7), none, 0, none⟩,
 ⟨(some 9), .call (.func 41) [(false, (.tmp 8))] false 4, none, 0, none⟩,
 ⟨(some 2), .move (.tmp 9), none, 4, none⟩] []) (.ret))), [.tmp 2], true⟩
def s20_1 : Sig := ⟨(.cons (.ptr 0 0 0) .nil), [.cell false (.cons (.v (.list .res)) (.cons (.mp 1) .nil)), .typed (.pair (.int .i64) .alloc)], ((.v (.list .res)), [.cell false (.cons (.v (.list .res)) (.cons (.mp 1) .nil)), .typed (.pair (.int .i64) .alloc)]), []⟩
def F20_1 (L : Lp) (g41 : (List Res) → Option (Unit × ((List Res) × Unit))) (a0 : (List Res)) (a1 : (List (Int × Alloc))) : Option ((List Res) × (((List Res) × (Unit × Unit)) × ((List (Int × Alloc)) × Unit))) :=
 Option.bind (g41 a0) fun r2 =>
 some (r2.2.1, ((a0, (), ()), a1, ()))
theorem e20_1 (L : Lp) (g41 : (List Res) → Option (Unit × ((List Res) × Unit))) (x : s20_1.args.den) (h : denH s20_1.heap) : nrun [⟨41, s41, fun x h => g41 x.1⟩] L n20_1 s20_1 x h = F20_1 L g41 h.1.1 h.2.1 := by kernel_rfl
def f20_1 : (List Res) → (List (Int × Alloc)) → Option ((List Res) × (((List Res) × (Unit × Unit)) × ((List (Int × Alloc)) × Unit))) := F20_1 (@LN LOOPS) f41
@[reducible] def t20_1 : Ent := ⟨20, s20_1, fun x h => f20_1 h.1.1 h.2.1⟩
theorem k20_1 : chkNF Try.prog Try.f20 n20_1 = true := by kernel_rfl
theorem ok20_1 : NOk Try.prog t20_1 := NOk.body (T := [t41]) mixed (nall_cons ok41 nall_nil) (oneEach_of (by kernel_rfl)) Try.func20 k20_1 (by kernel_rfl) (fun x h => e20_1 _ _ x h)
def s43 : Sig := ⟨(.cons (.v .res) (.cons (.v .res) .nil)), [], ((.tup (.cons (.v .res) (.cons (.v (.int .i64)) .nil))), []), []⟩
def f43 : Res → Res → Option (Res × (Int × Unit)) := vecAdd
@[reducible] def t43 : Ent := ⟨43, s43, fun x h => f43 x.1 x.2.1⟩
theorem ok43 : NOk Try.prog t43 := ext43
def n42_1 : NFunc := ⟨56, .seq (.region 1 [
 ⟨(some 4), .box 6 (.tmp 1), none, 0, none⟩,
 ⟨(some 6), .move (.const (.zsl)), none, 1, none⟩,
 ⟨(some 7), .move (.const (.int .i64 (0))), none, 1, none⟩] []) (.seq (.region 4 [
 ⟨(some 13), .move (.tmp 0), none, 0, none⟩,
 ⟨(some 14), .nilCheck (.tmp 13), none, 0, none⟩,
 ⟨(some 15), .fieldAddr 0 (.tmp 14), none, 0, none⟩,
 ⟨(some 16), .load false 1 (.tmp 15), none, 0, none⟩,
 ⟨(some 17), .call (.func 41) [(false, (.tmp 16))] false 4, none, 0, none⟩,
 ⟨(some 8), .move (.tmp 17), none, 4, none⟩] []) (.seq (.seq (.region 0 [
 ⟨(some 18), .fieldAddr 5 (.tmp 4), none, 0, none⟩,
 ⟨(some 19), .load false 1 (.tmp 18), none, 0, none⟩,
 ⟨(some 20), .len (.tmp 19), none, 0, none⟩,
 ⟨(some 21), .move (.const (.int .i64 (0))), none, 0, none⟩] []) (.block 0 (.loop [2, 4, 8, 19, 20, 21] ⟨[(4, (.ptr 2 0 0)), (8, (.slw 3 4)), (21, (.v (.int .i64)))], [2, 19, 20], [.cell false (.cons (.v (.list .res)) (.cons (.mp 1) .nil)), .typed (.pair (.int .i64) .alloc), .one false .alloc, .typed .res]⟩ (.seq (.region 0 [
 ⟨(some 22), .bin .lss (.tmp 21) (.tmp 20), none, 0, none⟩] []) (.seq (.cond (.tmp 22) (.skip) (.exit 0)) (.seq (.block 1 (.seq (.region 1 [
 ⟨(some 23), .indexSl 2 (.tmp 19) (.tmp 21), none, 0, none⟩,
 ⟨(some 24), .load true 2 (.tmp 23), none, 0, none⟩,
 ⟨(some 10), .alloc [.int .i64 (0), .int .i64 (0)], none, 0, none⟩,
 ⟨none, .store 2 (.tmp 10) (.tmp 24), none, 1, none⟩] []) (.seq (.region 5 [
 ⟨(some 26), .fieldAddr 1 (.tmp 4), none, 0, none⟩,
 ⟨(some 27), .load true 4 (.tmp 26), none, 0, none⟩,
 ⟨(some 28), .fieldAddr 1 (.tmp 10), none, 0, none⟩,
 ⟨(some 29), .load false 1 (.tmp 28), none, 0, none⟩,
 ⟨(some 30), .call (.func 71) [(false, (.tmp 27)), (false, (.tmp 29))] false 4, none, 0, none⟩,
 ⟨(some 25), .move (.tmp 30), none, 4, none⟩,
 ⟨(some 31), .extract (.tmp 25) 0, none, 4, none⟩,
 ⟨(some 32), .extract (.tmp 25) 1, none, 4, none⟩,
 ⟨(some 11), .alloc [.int .i64 (0), .int .i64 (0), .int .i64 (0), .int .i64 (0)], none, 4, none⟩,
 ⟨none, .store 4 (.tmp 11) (.tmp 31), none, 5, none⟩,
 ⟨(some 12), .move (.tmp 32), none, 5, none⟩] []) (.seq (.seq (.region 0 [
 ⟨(some 33), .move (.tmp 12), none, 0, none⟩,
 ⟨(some 34), .bin .neq (.tmp 33) (.const (.int .i64 (0))), none, 0, none⟩] []) (.cond (.tmp 34) (.seq (.region 0 [
 ⟨(some 35), .move (.tmp 12), none, 0, none⟩,
 ⟨(some 6), .move (.const (.zsl)), none, 0, none⟩,
 ⟨(some 7), .move (.tmp 35), none, 0, none⟩] []) (.ret)) (.skip))) (.seq (.region 4 [
 ⟨(some 37), .move (.tmp 8), none, 0, (some ([], none))⟩,
 ⟨(some 38), .fieldAddr 0 (.tmp 10), none, 0, (some ([], none))⟩,
 ⟨(some 39), .load false 1 (.tmp 38), none, 0, (some ([], none))⟩,
 ⟨(some 40), .move (.tmp 2), none, 0, (some ([], none))⟩,
 ⟨(some 41), .move (.tmp 8), none, 0, (some ([], none))⟩,
 ⟨(some 42), .fieldAddr 0 (.tmp 10), none, 0, (some ([], none))⟩,
 ⟨(some 43), .load false 1 (.tmp 42), none, 0, (some ([], none))⟩,
 ⟨(some 44), .indexSl 4 (.tmp 41) (.tmp 43), none, 0, (some ([], none))⟩,
 ⟨(some 45), .load true 4 (.tmp 44), none, 0, (some ([], none))⟩,
 ⟨(some 46), .load true 4 (.tmp 11), none, 0, (some ([], none))⟩,
 ⟨(some 47), .call (.tmp 40) [(false, (.tmp 45)), (false, (.tmp 46))] true 4, none, 0, (some ([], none))⟩,
 ⟨(some 36), .move (.tmp 47), none, 4, (some ([0, 1, 2, 3], none))⟩,
 ⟨(some 48), .extract (.tmp 36) 0, none, 4, (some ([0, 1, 2, 3], none))⟩,
 ⟨(some 49), .extract (.tmp 36) 1, none, 4, (some ([0, 1, 2, 3], none))⟩,
 ⟨(some 50), .indexSl 4 (.tmp 37) (.tmp 39), none, 4, (some ([0, 1, 2, 3], none))⟩,
 ⟨none, .store 4 (.tmp 50) (.tmp 48), none, 4, (some ([0, 1, 2, 3], none))⟩,
 ⟨(some 12), .move (.tmp 49), none, 4, (some ([0, 1, 2, 3], none))⟩] []) (.seq (.region 0 [
 ⟨(some 51), .move (.tmp 12), none, 0, none⟩,
 ⟨(some 52), .bin .neq (.tmp 51) (.const (.int .i64 (0))), none, 0, none⟩] []) (.cond (.tmp 52) (.seq (.region 0 [
 ⟨(some 53), .move (.tmp 12), none, 0, none⟩,
 ⟨(some 6), .move (.const (.zsl)), none, 0, none⟩,
 ⟨(some 7), .move (.tmp 53), none, 0, none⟩] []) (.ret)) (.skip)))))))) (.region 0 [
 ⟨(some 54), .bin .add (.tmp 21) (.const (.int .i64 (1))), none, 0, none⟩,
 ⟨(some 21), .move (.tmp 54), none, 0, none⟩] []))))))) (.seq (.region 0 [
 ⟨(some 55), .move (.tmp 8), none, 0, none⟩,
 ⟨(some 6), .move (.tmp 55), none, 0, none⟩,
 ⟨(some 7), .move (.const (.int .i64 (0))), none, 0, none⟩] []) (.ret)))), [.tmp 6, .tmp 7], true⟩
def s42_1 : Sig := ⟨(.cons (.ptr 0 0 0) (.cons (.v .alloc) (.cons (.fn 43 .nil) .nil))), [.cell false (.cons (.v (.list .res)) (.cons (.mp 1) .nil)), .typed (.pair (.int .i64) .alloc)], ((.tup (.cons (.v (.list .res)) (.cons (.v (.int .i64)) .nil))), [.cell false (.cons (.v (.list .res)) (.cons (.mp 1) .nil)), .typed (.pair (.int .i64) .alloc)]), []⟩
def l42_1_0 (g71 : Res → Int → Option (Res × (Int × Unit))) (g43 : Res → Res → Option (Res × (Int × Unit))) (a0 : Alloc) (nx5 : ((Unit × (Unit × (Int × Unit))) × (((List Res) × (Unit × Unit)) × ((List (Int × Alloc)) × (Alloc × ((List Res) × Unit))))) → Option (((List Res) × (Int × Unit)) × (((List Res) × (Unit × Unit)) × ((List (Int × Alloc)) × Unit)))) (z6 : Int) (z7 : (List Res)) (z8 : (List (Int × Alloc))) (z9 : Alloc) (z10 : (List Res)) : Option (((List Res) × (Int × Unit)) × (((List Res) × (Unit × Unit)) × ((List (Int × Alloc)) × Unit))) :=
 cond (decide (z6 < (List.length a0.shares : Int)))
 (cond (decide (0 ≤ z6))
 (Option.bind (a0.shares[Int.toNat z6]?) fun y11 =>
 Option.bind (g71 z9.need y11.many) fun r12 =>
 cond (!decide (r12.2.1 = 0))
 (some (([], r12.2.1, ()), ((z7, (), ()), z8, ())))
 (cond (decide (0 ≤ y11.node))
 (cond (decide ((Int.toNat y11.node) < (List.length z10)))
 (Option.bind (z10[Int.toNat y11.node]?) fun y13 =>
 Option.bind (g43 y13 r12.1) fun r14 =>
 cond (decide (0 ≤ y11.node))
 (cond (decide ((Int.toNat y11.node) < (List.length z10)))
 (Option.bind (z10[Int.toNat y11.node]?) fun y15 =>
 cond (!decide (r14.2.1 = 0))
 (some (([], r14.2.1, ()), ((z7, (), ()), z8, ())))
 (nx5 (((), (), IntKind.wrap .i64 (z6 + 1), ()), ((z7, (), ()), z8, z9, List.set z10 (Int.toNat y11.node) r14.1, ()))))
 (none))
 (none))
 (none))
 (none)))
 (none))
 (some ((z10, 0, ()), ((z7, (), ()), z8, ())))
def F42_1 (L : Lp) (g41 : (List Res) → Option (Unit × ((List Res) × Unit))) (g71 : Res → Int → Option (Res × (Int × Unit))) (g43 : Res → Res → Option (Res × (Int × Unit))) (a0 : Alloc) (a1 : (List Res)) (a2 : (List (Int × Alloc))) : Option (((List Res) × (Int × Unit)) × (((List Res) × (Unit × Unit)) × ((List (Int × Alloc)) × Unit))) :=
 Option.bind (g41 a1) fun r3 =>
 L (fun (s4 : ((Unit × (Unit × (Int × Unit))) × (((List Res) × (Unit × Unit)) × ((List (Int × Alloc)) × (Alloc × ((List Res) × Unit)))))) nx5 => l42_1_0 g71 g43 a0 nx5 s4.1.2.2.1 s4.2.1.1 s4.2.2.1 s4.2.2.2.1 s4.2.2.2.2.1) (((), (), 0, ()), ((a1, (), ()), a2, a0, r3.2.1, ()))
theorem e42_1 (L : Lp) (g41 : (List Res) → Option (Unit × ((List Res) × Unit))) (g71 : Res → Int → Option (Res × (Int × Unit))) (g43 : Res → Res → Option (Res × (Int × Unit))) (x : s42_1.args.den) (h : denH s42_1.heap) : nrun [⟨41, s41, fun x h => g41 x.1⟩, ⟨71, s71, fun x h => g71 x.1 x.2.1⟩, ⟨43, s43, fun x h => g43 x.1 x.2.1⟩] L n42_1 s42_1 x h = F42_1 L g41 g71 g43 x.2.1 h.1.1 h.2.1 := by kernel_rfl
def f42_1 : Alloc → (List Res) → (List (Int × Alloc)) → Option (((List Res) × (Int × Unit)) × (((List Res) × (Unit × Unit)) × ((List (Int × Alloc)) × Unit))) := F42_1 (@LN LOOPS) f41 f71 f43
@[reducible] def t42_1 : Ent := ⟨42, s42_1, fun x h => f42_1 x.2.1 h.1.1 h.2.1⟩
theorem k42_1 : chkNF Try.prog Try.f42 n42_1 = true := by kernel_rfl
theorem ok42_1 : NOk Try.prog t42_1 := NOk.body (T := [t41, t71, t43]) mixed (nall_cons ok41 (nall_cons ok71 (nall_cons ok43 nall_nil))) (oneEach_of (by kernel_rfl)) Try.func42 k42_1 (by kernel_rfl) (fun x h => e42_1 _ _ _ _ x h)
def sM3 : Sig := ⟨(.cons (.mp 0) (.cons (.v (.int .i64)) .nil)), [.typed (.pair (.int .i64) .alloc)], ((.tup .nil), [.typed (.pair (.int .i64) .alloc)]), []⟩
def fM3 : Int → (List (Int × Alloc)) → Option (Unit × ((List (Int × Alloc)) × Unit)) := mdrop
@[reducible] def tM3 : Ent := ⟨1000763, sM3, fun x h => fM3 x.2.1 h.1⟩
theorem okM3 : NPk Try.prog tM3 := NPk.drop mapTyM
def n18_1 : NFunc := ⟨40, .seq (.region 0 [
 ⟨(some 4), .move (.const (.int .i64 (0))), none, 0, none⟩] []) (.seq (.seq (.region 0 [
 ⟨(some 9), .move (.tmp 0), none, 0, none⟩,
 ⟨(some 10), .eqP false (.tmp 9) (.const (.nilp)), none, 0, none⟩] []) (.cond (.tmp 10) (.seq (.region 0 [
 ⟨(some 4), .move (.const (.int .i64 (1))), none, 0, none⟩] []) (.ret)) (.skip))) (.seq (.region 5 [
 ⟨(some 12), .move (.tmp 0), none, 0, none⟩,
 ⟨(some 13), .nilCheck (.tmp 12), none, 0, none⟩,
 ⟨(some 14), .fieldAddr 1 (.tmp 13), none, 0, none⟩,
 ⟨(some 15), .load false 1 (.tmp 14), none, 0, none⟩,
 ⟨(some 16), .move (.tmp 1), none, 0, none⟩,
 ⟨(some 17), .call (.const (.fn 1000761 [])) [(true, (.tmp 15)), (false, (.tmp 16))] false 4, none, 0, none⟩,
 ⟨(some 11), .move (.tmp 17), none, 4, none⟩,
 ⟨(some 18), .extract (.tmp 11) 0, none, 4, none⟩,
 ⟨(some 19), .extract (.tmp 11) 1, none, 4, none⟩,
 ⟨(some 5), .alloc [.int .i64 (0), .int .i64 (0), .int .i64 (0), .int .i64 (0), .int .i64 (0), .zsl], none, 4, none⟩,
 ⟨none, .store 6 (.tmp 5) (.tmp 18), none, 5, none⟩,
 ⟨(some 6), .move (.tmp 19), none, 5, none⟩] []) (.seq (.seq (.region 0 [
 ⟨(some 20), .move (.tmp 6), none, 0, none⟩,
 ⟨(some 21), .un .not (.tmp 20), none, 0, none⟩] []) (.cond (.tmp 21) (.seq (.region 0 [
 ⟨(some 4), .move (.const (.int .i64 (30))), none, 0, none⟩] []) (.ret)) (.skip))) (.seq (.region 4 [
 ⟨(some 23), .move (.tmp 0), none, 0, none⟩,
 ⟨(some 24), .load true 6 (.tmp 5), none, 0, none⟩,
 ⟨(some 25), .call (.func 42) [(true, (.tmp 23)), (false, (.tmp 24)), (false, (.func 43))] false 4, none, 0, none⟩,
 ⟨(some 22), .move (.tmp 25), none, 4, none⟩,
 ⟨(some 26), .extract (.tmp 22) 0, none, 4, none⟩,
 ⟨(some 27), .extract (.tmp 22) 1, none, 4, none⟩,
 ⟨(some 7), .move (.tmp 26), none, 4, none⟩,
 ⟨(some 8), .move (.tmp 27), none, 4, none⟩] []) (.seq (.seq (.region 0 [
 ⟨(some 28), .move (.tmp 8), none, 0, none⟩,
 ⟨(some 29), .bin .neq (.tmp 28) (.const (.int .i64 (0))), none, 0, none⟩] []) (.cond (.tmp 29) (.seq (.region 0 [
 ⟨(some 30), .move (.tmp 8), none, 0, none⟩,
 ⟨(some 4), .move (.tmp 30), none, 0, none⟩] []) (.ret)) (.skip))) (.seq (.region 0 [
 ⟨(some 31), .move (.tmp 0), none, 0, none⟩,
 ⟨(some 32), .move (.tmp 7), none, 0, none⟩,
 ⟨(some 33), .nilCheck (.tmp 31), none, 0, none⟩,
 ⟨(some 34), .fieldAddr 0 (.tmp 33), none, 0, none⟩,
 ⟨none, .store 1 (.tmp 34) (.tmp 32), none, 0, none⟩] []) (.seq (.region 4 [
 ⟨(some 35), .move (.tmp 0), none, 0, none⟩,
 ⟨(some 36), .nilCheck (.tmp 35), none, 0, none⟩,
 ⟨(some 37), .fieldAddr 1 (.tmp 36), none, 0, none⟩,
 ⟨(some 38), .load false 1 (.tmp 37), none, 0, none⟩,
 ⟨(some 39), .move (.tmp 1), none, 0, none⟩,
 ⟨none, .call (.const (.fn 1000763 [])) [(true, (.tmp 38)), (false, (.tmp 39))] false 4, none, 0, none⟩] []) (.seq (.region 0 [
 ⟨(some 4), .move (.const (.int .i64 (0))), none, 0, none⟩] []) (.ret))))))))), [.tmp 4], true⟩
def s18_1 : Sig := ⟨(.cons (.ptr 0 0 0) (.cons (.v (.int .i64)) .nil)), [.cell false (.cons (.v (.list .res)) (.cons (.mp 1) .nil)), .typed (.pair (.int .i64) .alloc)], ((.v (.int .i64)), [.cell false (.cons (.v (.list .res)) (.cons (.mp 1) .nil)), .typed (.pair (.int .i64) .alloc)]), []⟩
def F18_1 (L : Lp) (gM1 : Int → (List (Int × Alloc)) → Option ((Alloc × (Bool × Unit)) × ((List (Int × Alloc)) × Unit))) (g42_1 : Alloc → (List Res) → (List (Int × Alloc)) → Option (((List Res) × (Int × Unit)) × (((List Res) × (Unit × Unit)) × ((List (Int × Alloc)) × Unit)))) (gM3 : Int → (List (Int × Alloc)) → Option (Unit × ((List (Int × Alloc)) × Unit))) (job0 : Int) (a1 : (List Res)) (a2 : (List (Int × Alloc))) : Option (Int × (((List Res) × (Unit × Unit)) × ((List (Int × Alloc)) × Unit))) :=
 Option.bind (gM1 job0 a2) fun r3 =>
 cond (!r3.1.2.1)
 (some (30, ((a1, (), ()), r3.2.1, ())))
 (Option.bind (g42_1 r3.1.1 a1 r3.2.1) fun r4 =>
 cond (!decide (r4.1.2.1 = 0))
 (some (r4.1.2.1, ((r4.2.1.1, (), ()), r4.2.2.1, ())))
 (Option.bind (gM3 job0 r4.2.2.1) fun r5 =>
 some (0, ((r4.1.1, (), ()), r5.2.1, ()))))
theorem e18_1 (L : Lp) (gM1 : Int → (List (Int × Alloc)) → Option ((Alloc × (Bool × Unit)) × ((List (Int × Alloc)) × Unit))) (g42_1 : Alloc → (List Res) → (List (Int × Alloc)) → Option (((List Res) × (Int × Unit)) × (((List Res) × (Unit × Unit)) × ((List (Int × Alloc)) × Unit)))) (gM3 : Int → (List (Int × Alloc)) → Option (Unit × ((List (Int × Alloc)) × Unit))) (x : s18_1.args.den) (h : denH s18_1.heap) : nrun [⟨1000761, sM1, fun x h => gM1 x.2.1 h.1⟩, ⟨42, s42_1, fun x h => g42_1 x.2.1 h.1.1 h.2.1⟩, ⟨1000763, sM3, fun x h => gM3 x.2.1 h.1⟩] L n18_1 s18_1 x h = F18_1 L gM1 g42_1 gM3 x.2.1 h.1.1 h.2.1 := by kernel_rfl
def f18_1 : Int → (List Res) → (List (Int × Alloc)) → Option (Int × (((List Res) × (Unit × Unit)) × ((List (Int × Alloc)) × Unit))) := F18_1 (@LN LOOPS) fM1 f42_1 fM3
@[reducible] def t18_1 : Ent := ⟨18, s18_1, fun x h => f18_1 x.2.1 h.1.1 h.2.1⟩
theorem k18_1 : chkNF Try.prog Try.f18 n18_1 = true := by kernel_rfl
theorem ok18_1 : NOk Try.prog t18_1 := NOk.body (T := [tM1, t42_1, tM3]) mixed (nall_prim okM1 (nall_cons ok42_1 (nall_prim okM3 nall_nil))) (oneEach_of (by kernel_rfl)) Try.func18 k18_1 (by kernel_rfl) (fun x h => e18_1 _ _ _ _ x h)
def n13 : NFunc := ⟨58, .seq (.region 0 [
 ⟨(some 0), .move (.const (.bool false)), none, 0, none⟩] []) (.seq (.region 8 [
 ⟨(some 8), .call (.func 38) [] false 4, none, 0, none⟩,
 ⟨(some 9), .call (.func 17) [(false, (.tmp 8))] false 4, none, 4, none⟩,
 ⟨(some 7), .move (.tmp 9), none, 8, none⟩,
 ⟨(some 10), .extract (.tmp 7) 0, none, 8, none⟩,
 ⟨(some 11), .extract (.tmp 7) 1, none, 8, none⟩,
 ⟨(some 1), .move (.tmp 10), none, 8, none⟩,
 ⟨(some 2), .move (.tmp 11), none, 8, none⟩] []) (.seq (.region 5 [
 ⟨(some 12), .move (.tmp 1), none, 0, none⟩,
 ⟨(some 13), .build [.int .i64 (0), .int .i64 (0), .int .i64 (0), .int .i64 (0)] [(0, 1, (.const (.int .i64 (3))))], none, 0, none⟩,
 ⟨(some 14), .build [.int .i64 (0), .int .i64 (0)] [(0, 1, (.const (.int .i64 (0)))), (1, 1, (.const (.int .i64 (1))))], none, 0, none⟩,
 ⟨(some 15), .buildSlice 2 1 true [.int .i64 (0), .int .i64 (0)] [(0, (.tmp 14))], none, 0, none⟩,
 ⟨(some 16), .build [.int .i64 (0), .int .i64 (0), .int .i64 (0), .int .i64 (0), .int .i64 (0), .zsl] [(0, 1, (.const (.int .i64 (1)))), (1, 4, (.tmp 13)), (5, 1, (.tmp 15))], none, 1, none⟩,
 ⟨(some 17), .call (.func 19) [(true, (.tmp 12)), (false, (.tmp 16))] false 4, none, 1, none⟩,
 ⟨(some 3), .move (.tmp 17), none, 5, none⟩] []) (.seq (.region 4 [
 ⟨(some 18), .move (.tmp 1), none, 0, none⟩,
 ⟨(some 19), .call (.func 20) [(true, (.tmp 18))] false 4, none, 0, none⟩,
 ⟨(some 4), .move (.tmp 19), none, 4, none⟩] []) (.seq (.region 4 [
 ⟨(some 20), .move (.tmp 1), none, 0, none⟩,
 ⟨(some 21), .call (.func 18) [(true, (.tmp 20)), (false, (.const (.int .i64 (1))))] false 4, none, 0, none⟩,
 ⟨(some 5), .move (.tmp 21), none, 4, none⟩] []) (.seq (.region 4 [
 ⟨(some 22), .move (.tmp 1), none, 0, none⟩,
 ⟨(some 23), .call (.func 20) [(true, (.tmp 22))] false 4, none, 0, none⟩,
 ⟨(some 6), .move (.tmp 23), none, 4, none⟩] []) (.seq (.region 0 [
 ⟨(some 24), .move (.tmp 2), none, 0, none⟩,
 ⟨(some 25), .bin .eql (.tmp 24) (.const (.int .i64 (0))), none, 0, none⟩,
 ⟨(some 26), .move (.tmp 25), none, 0, none⟩,
 ⟨(some 27), .move (.tmp 3), (some (26, true)), 0, none⟩,
 ⟨(some 28), .bin .eql (.tmp 27) (.const (.int .i64 (0))), (some (26, true)), 0, none⟩,
 ⟨(some 29), .pick (.tmp 26) (.tmp 28) (.const (.bool false)), none, 0, none⟩,
 ⟨(some 30), .move (.tmp 29), none, 0, none⟩,
 ⟨(some 31), .move (.tmp 4), (some (30, true)), 0, none⟩,
 ⟨(some 32), .len (.tmp 31), (some (30, true)), 0, none⟩,
 ⟨(some 33), .bin .eql (.tmp 32) (.const (.int .i64 (2))), (some (30, true)), 0, none⟩,
 ⟨(some 34), .pick (.tmp 30) (.tmp 33) (.const (.bool false)), none, 0, none⟩,
 ⟨(some 35), .move (.tmp 34), none, 0, none⟩,
 ⟨(some 36), .move (.tmp 4), (some (35, true)), 0, none⟩,
 ⟨(some 37), .indexSl 4 (.tmp 36) (.const (.int .i64 (0))), (some (35, true)), 0, none⟩,
 ⟨(some 38), .fieldAddr 0 (.tmp 37), (some (35, true)), 0, none⟩,
 ⟨(some 39), .load false 1 (.tmp 38), (some (35, true)), 0, none⟩,
 ⟨(some 40), .bin .eql (.tmp 39) (.const (.int .i64 (1))), (some (35, true)), 0, none⟩,
 ⟨(some 41), .pick (.tmp 35) (.tmp 40) (.const (.bool false)), none, 0, none⟩,
 ⟨(some 42), .move (.tmp 41), none, 0, none⟩,
 ⟨(some 43), .move (.tmp 5), (some (42, true)), 0, none⟩,
 ⟨(some 44), .bin .eql (.tmp 43) (.const (.int .i64 (0))), (some (42, true)), 0, none⟩,
 ⟨(some 45), .pick (.tmp 42) (.tmp 44) (.const (.bool false)), none, 0, none⟩,
 ⟨(some 46), .move (.tmp 45), none, 0, none⟩,
 ⟨(some 47), .move (.tmp 6), (some (46, true)), 0, none⟩,
 ⟨(some 48), .len (.tmp 47), (some (46, true)), 0, none⟩,
 ⟨(some 49), .bin .eql (.tmp 48) (.const (.int .i64 (2))), (some (46, true)), 0, none⟩,
 ⟨(some 50), .pick (.tmp 46) (.tmp 49) (.const (.bool false)), none, 0, none⟩,
 ⟨(some 51), .move (.tmp 50), none, 0, none⟩,
 ⟨(some 52), .move (.tmp 6), (some (51, true)), 0, none⟩,
 ⟨(some 53), .indexSl 4 (.tmp 52) (.const (.int .i64 (0))), (some (51, true)), 0, none⟩,
 ⟨(some 54), .fieldAddr 0 (.tmp 53), (some (51, true)), 0, none⟩,
 ⟨(some 55), .load false 1 (.tmp 54), (some (51, true)), 0, none⟩,
 ⟨(some 56), .bin .eql (.tmp 55) (.const (.int .i64 (4))), (some (51, true)), 0, none⟩,
 ⟨(some 57), .pick (.tmp 51) (.tmp 56) (.const (.bool false)), none, 0, none⟩,
 ⟨(some 0), .move (.tmp 57), none, 0, none⟩] []) (.ret))))))), [.tmp 0], true⟩
def s13 : Sig := ⟨.nil, [], ((.v .bool), []), []⟩
def F13 (L : Lp) (g38 : Option Spec) (g17 : Spec → Option ((Unit × (Int × Unit)) ⊕ ((Unit × (Int × Unit)) × (((List Res) × (Unit × Unit)) × ((List (Int × Alloc)) × Unit))))) (g19 : Alloc → Option Int) (g20 : Option (List Res)) (g18 : Int → Option Int) (g19_1 : Alloc → (List Res) → (List (Int × Alloc)) → Option (Int × (((List Res) × (Unit × Unit)) × ((List (Int × Alloc)) × Unit)))) (g20_1 : (List Res) → (List (Int × Alloc)) → Option ((List Res) × (((List Res) × (Unit × Unit)) × ((List (Int × Alloc)) × Unit)))) (g18_1 : Int → (List Res) → (List (Int × Alloc)) → Option (Int × (((List Res) × (Unit × Unit)) × ((List (Int × Alloc)) × Unit))))  : Option Bool :=
 Option.bind (g38) fun r0 =>
 Option.bind (g17 r0) (Sum.elim (fun r1 =>
 Option.bind (g19 (Alloc.mk 1 (Res.mk 3 0 0 0) [Share.mk 0 1])) fun r2 =>
 Option.bind (g20) fun r3 =>
 Option.bind (g18 1) fun r4 =>
 Option.bind (g20) fun r5 =>
 cond (decide (r1.2.1 = 0))
 (cond (decide (r2 = 0))
 (cond (decide ((List.length r3 : Int) = 2))
 (Option.bind (r3[0]?) fun y6 =>
 cond (decide (y6.cpu = 1))
 (cond (decide (r4 = 0))
 (cond (decide ((List.length r5 : Int) = 2))
 (Option.bind (r5[0]?) fun y7 =>
 some (decide (y7.cpu = 4)))
 (some false))
 (some false))
 (some false))
 (some false))
 (some false))
 (some false)) (fun r8 =>
 Option.bind (g19_1 (Alloc.mk 1 (Res.mk 3 0 0 0) [Share.mk 0 1]) r8.2.1.1 r8.2.2.1) fun r9 =>
 Option.bind (g20_1 r9.2.1.1 r9.2.2.1) fun r10 =>
 Option.bind (g18_1 1 r10.2.1.1 r10.2.2.1) fun r11 =>
 Option.bind (g20_1 r11.2.1.1 r11.2.2.1) fun r12 =>
 cond (decide (r8.1.2.1 = 0))
 (cond (decide (r9.1 = 0))
 (cond (decide ((List.length r10.1 : Int) = 2))
 (Option.bind (r10.1[0]?) fun y13 =>
 cond (decide (y13.cpu = 1))
 (cond (decide (r11.1 = 0))
 (cond (decide ((List.length r12.1 : Int) = 2))
 (Option.bind (r12.1[0]?) fun y14 =>
 some (decide (y14.cpu = 4)))
 (some false))
 (some false))
 (some false))
 (some false))
 (some false))
 (some false)))
theorem e13 (L : Lp) (g38 : Option Spec) (g17 : Spec → Option ((Unit × (Int × Unit)) ⊕ ((Unit × (Int × Unit)) × (((List Res) × (Unit × Unit)) × ((List (Int × Alloc)) × Unit))))) (g19 : Alloc → Option Int) (g20 : Option (List Res)) (g18 : Int → Option Int) (g19_1 : Alloc → (List Res) → (List (Int × Alloc)) → Option (Int × (((List Res) × (Unit × Unit)) × ((List (Int × Alloc)) × Unit)))) (g20_1 : (List Res) → (List (Int × Alloc)) → Option ((List Res) × (((List Res) × (Unit × Unit)) × ((List (Int × Alloc)) × Unit)))) (g18_1 : Int → (List Res) → (List (Int × Alloc)) → Option (Int × (((List Res) × (Unit × Unit)) × ((List (Int × Alloc)) × Unit)))) (x : s13.args.den) (h : denH s13.heap) : nrun [⟨38, s38, fun x h => g38 ⟩, ⟨17, s17, fun x h => g17 x.1⟩, ⟨19, s19, fun x h => g19 x.2.1⟩, ⟨20, s20, fun x h => g20 ⟩, ⟨18, s18, fun x h => g18 x.2.1⟩, ⟨19, s19_1, fun x h => g19_1 x.2.1 h.1.1 h.2.1⟩, ⟨20, s20_1, fun x h => g20_1 h.1.1 h.2.1⟩, ⟨18, s18_1, fun x h => g18_1 x.2.1 h.1.1 h.2.1⟩] L n13 s13 x h = F13 L g38 g17 g19 g20 g18 g19_1 g20_1 g18_1  := by kernel_rfl
def f13 : Option Bool := F13 (@LN LOOPS) f38 f17 f19 f20 f18 f19_1 f20_1 f18_1
@[reducible] def t13 : Ent := ⟨13, s13, fun x h => f13 ⟩
theorem k13 : chkNF Try.prog Try.f13 n13 = true := by kernel_rfl
theorem ok13 : NOk Try.prog t13 := NOk.body (T := [t38, t17, t19, t20, t18, t19_1, t20_1, t18_1]) mixed (nall_cons ok38 (nall_cons ok17 (nall_cons ok19 (nall_cons ok20 (nall_cons ok18 (nall_cons ok19_1 (nall_cons ok20_1 (nall_cons ok18_1 nall_nil)))))))) (oneEach_of (by kernel_rfl)) Try.func13 k13 (by kernel_rfl) (fun x h => e13 _ _ _ _ _ _ _ _ _ x h)
def n14 : NFunc := ⟨46, .seq (.region 1 [
 ⟨(some 1), .box 18 (.tmp 0), none, 0, none⟩,
 ⟨(some 2), .move (.const (.bool false)), none, 1, none⟩] []) (.seq (.seq (.region 0 [
 ⟨(some 7), .fieldAddr 0 (.tmp 1), none, 0, none⟩,
 ⟨(some 8), .load false 1 (.tmp 7), none, 0, none⟩,
 ⟨(some 9), .len (.tmp 8), none, 0, none⟩,
 ⟨(some 10), .bin .gtr (.tmp 9) (.const (.int .i64 (40))), none, 0, none⟩,
 ⟨(some 11), .move (.tmp 10), none, 0, none⟩,
 ⟨(some 12), .fieldAddr 1 (.tmp 1), (some (11, false)), 0, none⟩,
 ⟨(some 13), .load false 1 (.tmp 12), (some (11, false)), 0, none⟩,
 ⟨(some 14), .len (.tmp 13), (some (11, false)), 0, none⟩,
 ⟨(some 15), .bin .gtr (.tmp 14) (.const (.int .i64 (20))), (some (11, false)), 0, none⟩,
 ⟨(some 16), .pick (.tmp 11) (.const (.bool true)) (.tmp 15), none, 0, none⟩,
 ⟨(some 17), .move (.tmp 16), none, 0, none⟩,
 ⟨(some 18), .fieldAddr 2 (.tmp 1), (some (17, false)), 0, none⟩,
 ⟨(some 19), .load false 1 (.tmp 18), (some (17, false)), 0, none⟩,
 ⟨(some 20), .len (.tmp 19), (some (17, false)), 0, none⟩,
 ⟨(some 21), .bin .gtr (.tmp 20) (.const (.int .i64 (20))), (some (17, false)), 0, none⟩,
 ⟨(some 22), .pick (.tmp 17) (.const (.bool true)) (.tmp 21), none, 0, none⟩] []) (.cond (.tmp 22) (.seq (.region 0 [
 ⟨(some 2), .move (.const (.bool false)), none, 0, none⟩] []) (.ret)) (.skip))) (.seq (.seq (.region 0 [
 ⟨(some 23), .fieldAddr 1 (.tmp 1), none, 0, none⟩,
 ⟨(some 24), .load false 1 (.tmp 23), none, 0, none⟩,
 ⟨(some 25), .len (.tmp 24), none, 0, none⟩,
 ⟨(some 26), .move (.const (.int .i64 (0))), none, 0, none⟩] []) (.block 0 (.loop [1, 24, 25, 26] ⟨[(1, (.ptr 0 0 0)), (26, (.v (.int .i64)))], [24, 25], [.one false .spec]⟩ (.seq (.region 0 [
 ⟨(some 27), .bin .lss (.tmp 26) (.tmp 25), none, 0, none⟩] []) (.seq (.cond (.tmp 27) (.skip) (.exit 0)) (.seq (.block 1 (.seq (.region 0 [
 ⟨(some 28), .indexSl 1 (.tmp 24) (.tmp 26), none, 0, none⟩,
 ⟨(some 29), .load false 1 (.tmp 28), none, 0, none⟩,
 ⟨(some 4), .move (.tmp 29), none, 0, none⟩] []) (.seq (.region 0 [
 ⟨(some 30), .move (.tmp 4), none, 0, none⟩,
 ⟨(some 31), .len (.tmp 30), none, 0, none⟩,
 ⟨(some 32), .bin .gtr (.tmp 31) (.const (.int .i64 (40))), none, 0, none⟩] []) (.cond (.tmp 32) (.seq (.region 0 [
 ⟨(some 2), .move (.const (.bool false)), none, 0, none⟩] []) (.ret)) (.skip))))) (.region 0 [
 ⟨(some 33), .bin .add (.tmp 26) (.const (.int .i64 (1))), none, 0, none⟩,
 ⟨(some 26), .move (.tmp 33), none, 0, none⟩] []))))))) (.seq (.seq (.region 0 [
 ⟨(some 34), .fieldAddr 2 (.tmp 1), none, 0, none⟩,
 ⟨(some 35), .load false 1 (.tmp 34), none, 0, none⟩,
 ⟨(some 36), .len (.tmp 35), none, 0, none⟩,
 ⟨(some 37), .move (.const (.int .i64 (0))), none, 0, none⟩] []) (.block 2 (.loop [35, 36, 37] ⟨[(37, (.v (.int .i64)))], [35, 36], []⟩ (.seq (.region 0 [
 ⟨(some 38), .bin .lss (.tmp 37) (.tmp 36), none, 0, none⟩] []) (.seq (.cond (.tmp 38) (.skip) (.exit 2)) (.seq (.block 3 (.seq (.region 1 [
 ⟨(some 39), .indexSl 6 (.tmp 35) (.tmp 37), none, 0, none⟩,
 ⟨(some 40), .load true 6 (.tmp 39), none, 0, none⟩,
 ⟨(some 6), .alloc [.int .i64 (0), .zsl, .int .i64 (0), .int .i64 (0), .int .i64 (0), .int .i64 (0)], none, 0, none⟩,
 ⟨none, .store 6 (.tmp 6) (.tmp 40), none, 1, none⟩] []) (.seq (.region 0 [
 ⟨(some 41), .fieldAddr 1 (.tmp 6), none, 0, none⟩,
 ⟨(some 42), .load false 1 (.tmp 41), none, 0, none⟩,
 ⟨(some 43), .len (.tmp 42), none, 0, none⟩,
 ⟨(some 44), .bin .gtr (.tmp 43) (.const (.int .i64 (40))), none, 0, none⟩] []) (.cond (.tmp 44) (.seq (.region 0 [
 ⟨(some 2), .move (.const (.bool false)), none, 0, none⟩] []) (.ret)) (.skip))))) (.region 0 [
 ⟨(some 45), .bin .add (.tmp 37) (.const (.int .i64 (1))), none, 0, none⟩,
 ⟨(some 37), .move (.tmp 45), none, 0, none⟩] []))))))) (.seq (.region 0 [
 ⟨(some 2), .move (.const (.bool true)), none, 0, none⟩] []) (.ret))))), [.tmp 2], true⟩
def s14 : Sig := ⟨(.cons (.v .spec) .nil), [], ((.v .bool), []), []⟩
def l14_0 (z4 : Spec) (nx7 : ((Int × Unit) × Unit) → Option Bool) (z8 : Int) : Option Bool :=
 cond (decide (z8 < (List.length z4.queues : Int)))
 (cond (decide (0 ≤ z8))
 (Option.bind (z4.queues[Int.toNat z8]?) fun y9 =>
 cond (decide (40 < (List.length y9.users : Int)))
 (some false)
 (nx7 ((IntKind.wrap .i64 (z8 + 1), ()), ())))
 (none))
 (some true)
def l14_1 (L : Lp) (as0 : Spec) (nx2 : ((Unit × (Int × Unit)) × (Spec × Unit)) → Option Bool) (z3 : Int) (z4 : Spec) : Option Bool :=
 cond (decide (z3 < (List.length as0.parts : Int)))
 (cond (decide (0 ≤ z3))
 (Option.bind (as0.parts[Int.toNat z3]?) fun y5 =>
 cond (decide (40 < (List.length y5 : Int)))
 (some false)
 (nx2 (((), IntKind.wrap .i64 (z3 + 1), ()), (z4, ()))))
 (none))
 (L (fun (s6 : ((Int × Unit) × Unit)) nx7 => l14_0 z4 nx7 s6.1.1) ((0, ()), ()))
def F14 (L : Lp)  (as0 : Spec) : Option Bool :=
 cond (decide (40 < (List.length as0.nodes : Int)))
 (some false)
 (cond (decide (20 < (List.length as0.parts : Int)))
 (some false)
 (cond (decide (20 < (List.length as0.queues : Int)))
 (some false)
 (L (fun (s1 : ((Unit × (Int × Unit)) × (Spec × Unit))) nx2 => l14_1 L as0 nx2 s1.1.2.1 s1.2.1) (((), 0, ()), (as0, ())))))
theorem e14 (L : Lp)  (x : s14.args.den) (h : denH s14.heap) : nrun [] L n14 s14 x h = F14 L  x.1 := by kernel_rfl
def f14 : Spec → Option Bool := F14 (@LN LOOPS) 
@[reducible] def t14 : Ent := ⟨14, s14, fun x h => f14 x.1⟩
theorem k14 : chkNF Try.prog Try.f14 n14 = true := by kernel_rfl
theorem ok14 : NOk Try.prog t14 := NOk.body (T := []) mixed nall_nil (oneEach_of (by kernel_rfl)) Try.func14 k14 (by kernel_rfl) (fun x h => e14 _  x h)
def n15 : NFunc := ⟨20, .seq (.region 0 [
 ⟨(some 2), .move (.const (.bool false)), none, 0, none⟩] []) (.seq (.seq (.region 0 [
 ⟨(some 5), .move (.tmp 0), none, 0, none⟩,
 ⟨(some 6), .len (.tmp 5), none, 0, none⟩,
 ⟨(some 7), .bin .gtr (.tmp 6) (.const (.int .i64 (30))), none, 0, none⟩] []) (.cond (.tmp 7) (.seq (.region 0 [
 ⟨(some 2), .move (.const (.bool false)), none, 0, none⟩] []) (.ret)) (.skip))) (.seq (.seq (.region 0 [
 ⟨(some 8), .move (.tmp 0), none, 0, none⟩,
 ⟨(some 9), .len (.tmp 8), none, 0, none⟩,
 ⟨(some 10), .move (.const (.int .i64 (0))), none, 0, none⟩] []) (.block 0 (.loop [8, 9, 10] ⟨[(10, (.v (.int .i64)))], [8, 9], []⟩ (.seq (.region 0 [
 ⟨(some 11), .bin .lss (.tmp 10) (.tmp 9), none, 0, none⟩] []) (.seq (.cond (.tmp 11) (.skip) (.exit 0)) (.seq (.block 1 (.seq (.region 1 [
 ⟨(some 12), .indexSl 7 (.tmp 8) (.tmp 10), none, 0, none⟩,
 ⟨(some 13), .load true 7 (.tmp 12), none, 0, none⟩,
 ⟨(some 4), .alloc [.bool false, .int .i64 (0), .int .i64 (0), .int .i64 (0), .int .i64 (0), .int .i64 (0), .zsl], none, 0, none⟩,
 ⟨none, .store 7 (.tmp 4) (.tmp 13), none, 1, none⟩] []) (.seq (.region 0 [
 ⟨(some 14), .fieldAddr 1 (.tmp 4), none, 0, none⟩,
 ⟨(some 15), .fieldAddr 5 (.tmp 14), none, 0, none⟩,
 ⟨(some 16), .load false 1 (.tmp 15), none, 0, none⟩,
 ⟨(some 17), .len (.tmp 16), none, 0, none⟩,
 ⟨(some 18), .bin .gtr (.tmp 17) (.const (.int .i64 (40))), none, 0, none⟩] []) (.cond (.tmp 18) (.seq (.region 0 [
 ⟨(some 2), .move (.const (.bool false)), none, 0, none⟩] []) (.ret)) (.skip))))) (.region 0 [
 ⟨(some 19), .bin .add (.tmp 10) (.const (.int .i64 (1))), none, 0, none⟩,
 ⟨(some 10), .move (.tmp 19), none, 0, none⟩] []))))))) (.seq (.region 0 [
 ⟨(some 2), .move (.const (.bool true)), none, 0, none⟩] []) (.ret)))), [.tmp 2], true⟩
def s15 : Sig := ⟨(.cons (.v (.list (.pair .bool .alloc))) .nil), [], ((.v .bool), []), []⟩
def l15_0 (al0 : (List (Bool × Alloc))) (nx2 : ((Int × Unit) × Unit) → Option Bool) (z3 : Int) : Option Bool :=
 cond (decide (z3 < (List.length al0 : Int)))
 (cond (decide (0 ≤ z3))
 (Option.bind (al0[Int.toNat z3]?) fun y4 =>
 cond (decide (40 < (List.length y4.2.shares : Int)))
 (some false)
 (nx2 ((IntKind.wrap .i64 (z3 + 1), ()), ())))
 (none))
 (some true)
def F15 (L : Lp)  (al0 : (List (Bool × Alloc))) : Option Bool :=
 cond (decide (30 < (List.length al0 : Int)))
 (some false)
 (L (fun (s1 : ((Int × Unit) × Unit)) nx2 => l15_0 al0 nx2 s1.1.1) ((0, ()), ()))
theorem e15 (L : Lp)  (x : s15.args.den) (h : denH s15.heap) : nrun [] L n15 s15 x h = F15 L  x.1 := by kernel_rfl
def f15 : (List (Bool × Alloc)) → Option Bool := F15 (@LN LOOPS) 
@[reducible] def t15 : Ent := ⟨15, s15, fun x h => f15 x.1⟩
theorem k15 : chkNF Try.prog Try.f15 n15 = true := by kernel_rfl
theorem ok15 : NOk Try.prog t15 := NOk.body (T := []) mixed nall_nil (oneEach_of (by kernel_rfl)) Try.func15 k15 (by kernel_rfl) (fun x h => e15 _  x h)
def n66 : NFunc := ⟨15, .seq (.region 0 [
 ⟨(some 6), .move (.const (.bool false)), none, 0, none⟩] []) (.seq (.region 0 [
 ⟨(some 7), .move (.tmp 1), none, 0, none⟩,
 ⟨(some 8), .move (.tmp 0), none, 0, none⟩,
 ⟨(some 9), .bin .leq (.tmp 7) (.tmp 8), none, 0, none⟩,
 ⟨(some 10), .move (.tmp 9), none, 0, none⟩,
 ⟨(some 11), .move (.tmp 0), (some (10, true)), 0, none⟩,
 ⟨(some 12), .move (.tmp 2), (some (10, true)), 0, none⟩,
 ⟨(some 13), .bin .leq (.tmp 11) (.tmp 12), (some (10, true)), 0, none⟩,
 ⟨(some 14), .pick (.tmp 10) (.tmp 13) (.const (.bool false)), none, 0, none⟩,
 ⟨(some 6), .move (.tmp 14), none, 0, none⟩] []) (.ret)), [.tmp 6], true⟩
def s66 : Sig := ⟨(.cons (.v (.int .i64)) (.cons (.v (.int .i64)) (.cons (.v (.int .i64)) .nil))), [], ((.v .bool), []), []⟩
def F66 (L : Lp)  (an0 : Int) (lo1 : Int) (hi2 : Int) : Option Bool :=
 cond (decide (lo1 ≤ an0))
 (some (decide (an0 ≤ hi2)))
 (some false)
theorem e66 (L : Lp)  (x : s66.args.den) (h : denH s66.heap) : nrun [] L n66 s66 x h = F66 L  x.1 x.2.1 x.2.2.1 := by kernel_rfl
def f66 : Int → Int → Int → Option Bool := F66 (@LN LOOPS) 
@[reducible] def t66 : Ent := ⟨66, s66, fun x h => f66 x.1 x.2.1 x.2.2.1⟩
theorem k66 : chkNF Try.prog Try.f66 n66 = true := by kernel_rfl
theorem ok66 : NOk Try.prog t66 := NOk.body (T := []) mixed nall_nil (oneEach_of (by kernel_rfl)) Try.func66 k66 (by kernel_rfl) (fun x h => e66 _  x h)
def n50 : NFunc := ⟨9, .seq (.region 0 [
 ⟨(some 2), .move (.const (.bool false)), none, 0, none⟩] []) (.seq (.region 0 [
 ⟨(some 3), .move (.tmp 0), none, 0, none⟩,
 ⟨(some 4), .bin .geq (.tmp 3) (.const (.int .i64 (0))), none, 0, none⟩,
 ⟨(some 5), .move (.tmp 4), none, 0, none⟩,
 ⟨(some 6), .move (.tmp 0), (some (5, true)), 0, none⟩,
 ⟨(some 7), .bin .leq (.tmp 6) (.const (.int .i64 (1048576))), (some (5, true)), 0, none⟩,
 ⟨(some 8), .pick (.tmp 5) (.tmp 7) (.const (.bool false)), none, 0, none⟩,
 ⟨(some 2), .move (.tmp 8), none, 0, none⟩] []) (.ret)), [.tmp 2], true⟩
def s50 : Sig := ⟨(.cons (.v (.int .i64)) .nil), [], ((.v .bool), []), []⟩
def F50 (L : Lp)  (an0 : Int) : Option Bool :=
 cond (decide (0 ≤ an0))
 (some (decide (an0 ≤ 1048576)))
 (some false)
theorem e50 (L : Lp)  (x : s50.args.den) (h : denH s50.heap) : nrun [] L n50 s50 x h = F50 L  x.1 := by kernel_rfl
def f50 : Int → Option Bool := F50 (@LN LOOPS) 
@[reducible] def t50 : Ent := ⟨50, s50, fun x h => f50 x.1⟩
theorem k50 : chkNF Try.prog Try.f50 n50 = true := by kernel_rfl
theorem ok50 : NOk Try.prog t50 := NOk.body (T := []) mixed nall_nil (oneEach_of (by kernel_rfl)) Try.func50 k50 (by kernel_rfl) (fun x h => e50 _  x h)
def n25 : NFunc := ⟨21, .seq (.region 1 [
 ⟨(some 1), .box 4 (.tmp 0), none, 0, none⟩,
 ⟨(some 2), .move (.const (.bool false)), none, 1, none⟩] []) (.seq (.region 16 [
 ⟨(some 3), .fieldAddr 0 (.tmp 1), none, 0, none⟩,
 ⟨(some 4), .load false 1 (.tmp 3), none, 0, none⟩,
 ⟨(some 5), .call (.func 50) [(false, (.tmp 4))] false 4, none, 0, none⟩,
 ⟨(some 6), .move (.tmp 5), none, 4, none⟩,
 ⟨(some 7), .fieldAddr 1 (.tmp 1), (some (6, true)), 4, none⟩,
 ⟨(some 8), .load false 1 (.tmp 7), (some (6, true)), 4, none⟩,
 ⟨(some 9), .call (.func 50) [(false, (.tmp 8))] false 4, (some (6, true)), 4, none⟩,
 ⟨(some 10), .pick (.tmp 6) (.tmp 9) (.const (.bool false)), none, 8, none⟩,
 ⟨(some 11), .move (.tmp 10), none, 8, none⟩,
 ⟨(some 12), .fieldAddr 2 (.tmp 1), (some (11, true)), 8, none⟩,
 ⟨(some 13), .load false 1 (.tmp 12), (some (11, true)), 8, none⟩,
 ⟨(some 14), .call (.func 50) [(false, (.tmp 13))] false 4, (some (11, true)), 8, none⟩,
 ⟨(some 15), .pick (.tmp 11) (.tmp 14) (.const (.bool false)), none, 12, none⟩,
 ⟨(some 16), .move (.tmp 15), none, 12, none⟩,
 ⟨(some 17), .fieldAddr 3 (.tmp 1), (some (16, true)), 12, none⟩,
 ⟨(some 18), .load false 1 (.tmp 17), (some (16, true)), 12, none⟩,
 ⟨(some 19), .call (.func 50) [(false, (.tmp 18))] false 4, (some (16, true)), 12, none⟩,
 ⟨(some 20), .pick (.tmp 16) (.tmp 19) (.const (.bool false)), none, 16, none⟩,
 ⟨(some 2), .move (.tmp 20), none, 16, none⟩] []) (.ret)), [.tmp 2], true⟩
def s25 : Sig := ⟨(.cons (.v .res) .nil), [], ((.v .bool), []), []⟩
def F25 (L : Lp) (g50 : Int → Option Bool) (a0 : Res) : Option Bool :=
 Option.bind (g50 a0.cpu) fun r1 =>
 cond r1
 (Option.bind (g50 a0.mem) fun r2 =>
 cond r2
 (Option.bind (g50 a0.gpu) fun r3 =>
 cond r3
 (Option.bind (g50 a0.lic) fun r4 =>
 some r4)
 (some false))
 (some false))
 (some false)
theorem e25 (L : Lp) (g50 : Int → Option Bool) (x : s25.args.den) (h : denH s25.heap) : nrun [⟨50, s50, fun x h => g50 x.1⟩] L n25 s25 x h = F25 L g50 x.1 := by kernel_rfl
def f25 : Res → Option Bool := F25 (@LN LOOPS) f50
@[reducible] def t25 : Ent := ⟨25, s25, fun x h => f25 x.1⟩
theorem k25 : chkNF Try.prog Try.f25 n25 = true := by kernel_rfl
theorem ok25 : NOk Try.prog t25 := NOk.body (T := [t50]) mixed (nall_cons ok50 nall_nil) (oneEach_of (by kernel_rfl)) Try.func25 k25 (by kernel_rfl) (fun x h => e25 _ _ x h)
def n67 : NFunc := ⟨22, .seq (.region 1 [
 ⟨(some 1), .box 18 (.tmp 0), none, 0, none⟩,
 ⟨(some 2), .move (.const (.bool false)), none, 1, none⟩] []) (.seq (.seq (.region 0 [
 ⟨(some 3), .move (.const (.int .i64 (0))), none, 0, none⟩] []) (.block 0 (.loop [1, 3] ⟨[(1, (.ptr 0 0 0)), (3, (.v (.int .i64)))], [], [.one false .spec]⟩ (.seq (.seq (.region 0 [
 ⟨(some 4), .move (.tmp 3), none, 0, none⟩,
 ⟨(some 5), .fieldAddr 0 (.tmp 1), none, 0, none⟩,
 ⟨(some 6), .load false 1 (.tmp 5), none, 0, none⟩,
 ⟨(some 7), .len (.tmp 6), none, 0, none⟩,
 ⟨(some 8), .bin .lss (.tmp 4) (.tmp 7), none, 0, none⟩] []) (.cond (.tmp 8) (.skip) (.exit 0))) (.seq (.block 1 (.seq (.region 4 [
 ⟨(some 11), .fieldAddr 0 (.tmp 1), none, 0, none⟩,
 ⟨(some 12), .load false 1 (.tmp 11), none, 0, none⟩,
 ⟨(some 13), .move (.tmp 3), none, 0, none⟩,
 ⟨(some 14), .indexSl 4 (.tmp 12) (.tmp 13), none, 0, none⟩,
 ⟨(some 15), .load true 4 (.tmp 14), none, 0, none⟩,
 ⟨(some 16), .call (.func 25) [(false, (.tmp 15))] false 4, none, 0, none⟩,
 ⟨(some 17), .un .not (.tmp 16), none, 4, none⟩] []) (.cond (.tmp 17) (.seq (.region 0 [
 ⟨(some 2), .move (.const (.bool false)), none, 0, none⟩] []) (.ret)) (.skip)))) (.region 0 [
 ⟨(some 9), .move (.tmp 3), none, 0, none⟩,
 ⟨(some 10), .bin .add (.tmp 9) (.const (.int .i64 (1))), none, 0, none⟩,
 ⟨(some 3), .move (.tmp 10), none, 0, none⟩] [])))))) (.seq (.region 4 [
 ⟨(some 18), .fieldAddr 0 (.tmp 1), none, 0, none⟩,
 ⟨(some 19), .load false 1 (.tmp 18), none, 0, none⟩,
 ⟨(some 20), .len (.tmp 19), none, 0, none⟩,
 ⟨(some 21), .call (.func 66) [(false, (.tmp 20)), (false, (.const (.int .i64 (1)))), (false, (.const (.int .i64 (16))))] false 4, none, 0, none⟩,
 ⟨(some 2), .move (.tmp 21), none, 4, none⟩] []) (.ret))), [.tmp 2], true⟩
def s67 : Sig := ⟨(.cons (.v .spec) .nil), [], ((.v .bool), []), []⟩
def l67_0 (g25 : Res → Option Bool) (g66 : Int → Int → Int → Option Bool) (nx2 : ((Unit × (Int × Unit)) × (Spec × Unit)) → Option Bool) (i3 : Int) (z4 : Spec) : Option Bool :=
 cond (decide (i3 < (List.length z4.nodes : Int)))
 (cond (decide (0 ≤ i3))
 (Option.bind (z4.nodes[Int.toNat i3]?) fun y5 =>
 Option.bind (g25 y5) fun r6 =>
 cond (!r6)
 (some false)
 (nx2 (((), IntKind.wrap .i64 (i3 + 1), ()), (z4, ()))))
 (none))
 (Option.bind (g66 (List.length z4.nodes : Int) 1 16) fun r7 =>
 some r7)
def F67 (L : Lp) (g25 : Res → Option Bool) (g66 : Int → Int → Int → Option Bool) (as0 : Spec) : Option Bool :=
 L (fun (s1 : ((Unit × (Int × Unit)) × (Spec × Unit))) nx2 => l67_0 g25 g66 nx2 s1.1.2.1 s1.2.1) (((), 0, ()), (as0, ()))
theorem e67 (L : Lp) (g25 : Res → Option Bool) (g66 : Int → Int → Int → Option Bool) (x : s67.args.den) (h : denH s67.heap) : nrun [⟨25, s25, fun x h => g25 x.1⟩, ⟨66, s66, fun x h => g66 x.1 x.2.1 x.2.2.1⟩] L n67 s67 x h = F67 L g25 g66 x.1 := by kernel_rfl
def f67 : Spec → Option Bool := F67 (@LN LOOPS) f25 f66
@[reducible] def t67 : Ent := ⟨67, s67, fun x h => f67 x.1⟩
theorem k67 : chkNF Try.prog Try.f67 n67 = true := by kernel_rfl
theorem ok67 : NOk Try.prog t67 := NOk.body (T := [t25, t66]) mixed (nall_cons ok25 (nall_cons ok66 nall_nil)) (oneEach_of (by kernel_rfl)) Try.func67 k67 (by kernel_rfl) (fun x h => e67 _ _ _ x h)
def n87 : NFunc := ⟨41, .seq (.region 0 [
 ⟨(some 4), .move (.const (.bool false)), none, 0, none⟩] []) (.seq (.seq (.region 0 [
 ⟨(some 5), .move (.const (.int .i64 (0))), none, 0, none⟩] []) (.block 0 (.loop [0, 1, 5] ⟨[(5, (.v (.int .i64)))], [0, 1], []⟩ (.seq (.seq (.region 0 [
 ⟨(some 6), .move (.tmp 5), none, 0, none⟩,
 ⟨(some 7), .move (.tmp 0), none, 0, none⟩,
 ⟨(some 8), .len (.tmp 7), none, 0, none⟩,
 ⟨(some 9), .bin .lss (.tmp 6) (.tmp 8), none, 0, none⟩] []) (.cond (.tmp 9) (.skip) (.exit 0))) (.seq (.block 1 (.seq (.region 0 [
 ⟨(some 12), .move (.tmp 0), none, 0, (some ([], none))⟩,
 ⟨(some 13), .move (.tmp 5), none, 0, (some ([], none))⟩,
 ⟨(some 14), .indexSl 1 (.tmp 12) (.tmp 13), none, 0, (some ([], none))⟩,
 ⟨(some 15), .load false 1 (.tmp 14), none, 0, (some ([], none))⟩,
 ⟨(some 16), .bin .lss (.tmp 15) (.const (.int .i64 (0))), none, 0, (some ([], none))⟩,
 ⟨(some 17), .move (.tmp 16), none, 0, (some ([], none))⟩,
 ⟨(some 18), .move (.tmp 0), (some (17, false)), 0, (some ([], none))⟩,
 ⟨(some 19), .move (.tmp 5), (some (17, false)), 0, (some ([], none))⟩,
 ⟨(some 20), .indexSl 1 (.tmp 18) (.tmp 19), (some (17, false)), 0, (some ([], none))⟩,
 ⟨(some 21), .load false 1 (.tmp 20), (some (17, false)), 0, (some ([], none))⟩,
 ⟨(some 22), .move (.tmp 1), (some (17, false)), 0, (some ([], none))⟩,
 ⟨(some 23), .bin .geq (.tmp 21) (.tmp 22), (some (17, false)), 0, (some ([], none))⟩,
 ⟨(some 24), .pick (.tmp 17) (.const (.bool true)) (.tmp 23), none, 0, (some ([], none))⟩,
 ⟨(some 25), .move (.tmp 24), none, 0, (some ([], none))⟩,
 ⟨(some 26), .move (.tmp 5), (some (25, false)), 0, (some ([], none))⟩,
 ⟨(some 27), .bin .gtr (.tmp 26) (.const (.int .i64 (0))), (some (25, false)), 0, (some ([], none))⟩,
 ⟨(some 28), .move (.tmp 27), (some (25, false)), 0, (some ([], none))⟩,
 ⟨(some 29), .move (.tmp 0), (some (28, true)), 0, (some ([], none))⟩,
 ⟨(some 30), .move (.tmp 5), (some (28, true)), 0, (some ([], none))⟩,
 ⟨(some 31), .bin .sub (.tmp 30) (.const (.int .i64 (1))), (some (28, true)), 0, (some ([], none))⟩,
 ⟨(some 32), .indexSl 1 (.tmp 29) (.tmp 31), (some (28, true)), 0, (some ([], none))⟩,
 ⟨(some 33), .load false 1 (.tmp 32), (some (28, true)), 0, (some ([], none))⟩,
 ⟨(some 34), .move (.tmp 0), (some (28, true)), 0, (some ([], none))⟩,
 ⟨(some 35), .move (.tmp 5), (some (28, true)), 0, (some ([], none))⟩,
 ⟨(some 36), .indexSl 1 (.tmp 34) (.tmp 35), (some (28, true)), 0, (some ([], none))⟩,
 ⟨(some 37), .load false 1 (.tmp 36), (some (28, true)), 0, (some ([], none))⟩,
 ⟨(some 38), .bin .geq (.tmp 33) (.tmp 37), (some (28, true)), 0, (some ([], none))⟩,
 ⟨(some 39), .pick (.tmp 28) (.tmp 38) (.const (.bool false)), (some (25, false)), 0, (some ([], none))⟩,
 ⟨(some 40), .pick (.tmp 25) (.const (.bool true)) (.tmp 39), none, 0, (some ([], none))⟩] []) (.cond (.tmp 40) (.seq (.region 0 [
 ⟨(some 4), .move (.const (.bool false)), none, 0, none⟩] []) (.ret)) (.skip)))) (.region 0 [
 ⟨(some 10), .move (.tmp 5), none, 0, none⟩,
 ⟨(some 11), .bin .add (.tmp 10) (.const (.int .i64 (1))), none, 0, none⟩,
 ⟨(some 5), .move (.tmp 11), none, 0, none⟩] [])))))) (.seq (.region 0 [
 ⟨(some 4), .move (.const (.bool true)), none, 0, none⟩] []) (.ret))), [.tmp 4], true⟩
def s87 : Sig := ⟨(.cons (.v (.list (.int .i64))) (.cons (.v (.int .i64)) .nil)), [], ((.v .bool), []), []⟩
def l87_0 (al0 : (List Int)) (below1 : Int) (nx3 : ((Int × Unit) × Unit) → Option Bool) (i4 : Int) : Option Bool :=
 cond (decide (i4 < (List.length al0 : Int)))
 (cond (decide (0 ≤ i4))
 (Option.bind (al0[Int.toNat i4]?) fun y5 =>
 cond (decide (y5 < 0))
 (some false)
 (cond (decide (0 ≤ i4))
 (Option.bind (al0[Int.toNat i4]?) fun y6 =>
 cond (decide (below1 ≤ y6))
 (some false)
 (cond (decide (0 < i4))
 (cond (decide (0 ≤ (IntKind.wrap .i64 (i4 - 1))))
 (Option.bind (al0[Int.toNat (IntKind.wrap .i64 (i4 - 1))]?) fun y7 =>
 cond (decide (0 ≤ i4))
 (Option.bind (al0[Int.toNat i4]?) fun y8 =>
 cond (decide (y8 ≤ y7))
 (some false)
 (nx3 ((IntKind.wrap .i64 (i4 + 1), ()), ())))
 (none))
 (none))
 (nx3 ((IntKind.wrap .i64 (i4 + 1), ()), ()))))
 (none)))
 (none))
 (some true)
def F87 (L : Lp)  (al0 : (List Int)) (below1 : Int) : Option Bool :=
 L (fun (s2 : ((Int × Unit) × Unit)) nx3 => l87_0 al0 below1 nx3 s2.1.1) ((0, ()), ())
theorem e87 (L : Lp)  (x : s87.args.den) (h : denH s87.heap) : nrun [] L n87 s87 x h = F87 L  x.1 x.2.1 := by kernel_rfl
def f87 : (List Int) → Int → Option Bool := F87 (@LN LOOPS) 
@[reducible] def t87 : Ent := ⟨87, s87, fun x h => f87 x.1 x.2.1⟩
theorem k87 : chkNF Try.prog Try.f87 n87 = true := by kernel_rfl
theorem ok87 : NOk Try.prog t87 := NOk.body (T := []) mixed nall_nil (oneEach_of (by kernel_rfl)) Try.func87 k87 (by kernel_rfl) (fun x h => e87 _  x h)
def n68 : NFunc := ⟨34, .seq (.region 1 [
 ⟨(some 1), .box 18 (.tmp 0), none, 0, none⟩,
 ⟨(some 2), .move (.const (.bool false)), none, 1, none⟩] []) (.seq (.seq (.region 0 [
 ⟨(some 3), .move (.const (.int .i64 (0))), none, 0, none⟩] []) (.block 0 (.loop [1, 3] ⟨[(1, (.ptr 0 0 0)), (3, (.v (.int .i64)))], [], [.one false .spec]⟩ (.seq (.seq (.region 0 [
 ⟨(some 4), .move (.tmp 3), none, 0, none⟩,
 ⟨(some 5), .fieldAddr 1 (.tmp 1), none, 0, none⟩,
 ⟨(some 6), .load false 1 (.tmp 5), none, 0, none⟩,
 ⟨(some 7), .len (.tmp 6), none, 0, none⟩,
 ⟨(some 8), .bin .lss (.tmp 4) (.tmp 7), none, 0, none⟩] []) (.cond (.tmp 8) (.skip) (.exit 0))) (.seq (.block 1 (.seq (.region 4 [
 ⟨(some 11), .fieldAddr 1 (.tmp 1), none, 0, (some ([], none))⟩,
 ⟨(some 12), .load false 1 (.tmp 11), none, 0, (some ([], none))⟩,
 ⟨(some 13), .move (.tmp 3), none, 0, (some ([], none))⟩,
 ⟨(some 14), .indexSl 1 (.tmp 12) (.tmp 13), none, 0, (some ([], none))⟩,
 ⟨(some 15), .load false 1 (.tmp 14), none, 0, (some ([], none))⟩,
 ⟨(some 16), .len (.tmp 15), none, 0, (some ([], none))⟩,
 ⟨(some 17), .bin .lss (.tmp 16) (.const (.int .i64 (1))), none, 0, (some ([], none))⟩,
 ⟨(some 18), .move (.tmp 17), none, 0, (some ([], none))⟩,
 ⟨(some 19), .fieldAddr 1 (.tmp 1), (some (18, false)), 0, (some ([], none))⟩,
 ⟨(some 20), .load false 1 (.tmp 19), (some (18, false)), 0, (some ([], none))⟩,
 ⟨(some 21), .move (.tmp 3), (some (18, false)), 0, (some ([], none))⟩,
 ⟨(some 22), .indexSl 1 (.tmp 20) (.tmp 21), (some (18, false)), 0, (some ([], none))⟩,
 ⟨(some 23), .load false 1 (.tmp 22), (some (18, false)), 0, (some ([], none))⟩,
 ⟨(some 24), .fieldAddr 0 (.tmp 1), (some (18, false)), 0, (some ([], none))⟩,
 ⟨(some 25), .load false 1 (.tmp 24), (some (18, false)), 0, (some ([], none))⟩,
 ⟨(some 26), .len (.tmp 25), (some (18, false)), 0, (some ([], none))⟩,
 ⟨(some 27), .call (.func 87) [(false, (.tmp 23)), (false, (.tmp 26))] false 4, (some (18, false)), 0, (some ([], none))⟩,
 ⟨(some 28), .un .not (.tmp 27), (some (18, false)), 4, (some ([0, 1, 2, 3], none))⟩,
 ⟨(some 29), .pick (.tmp 18) (.const (.bool true)) (.tmp 28), none, 4, (some ([0, 1, 2, 3], none))⟩] []) (.cond (.tmp 29) (.seq (.region 0 [
 ⟨(some 2), .move (.const (.bool false)), none, 0, none⟩] []) (.ret)) (.skip)))) (.region 0 [
 ⟨(some 9), .move (.tmp 3), none, 0, none⟩,
 ⟨(some 10), .bin .add (.tmp 9) (.const (.int .i64 (1))), none, 0, none⟩,
 ⟨(some 3), .move (.tmp 10), none, 0, none⟩] [])))))) (.seq (.region 4 [
 ⟨(some 30), .fieldAddr 1 (.tmp 1), none, 0, none⟩,
 ⟨(some 31), .load false 1 (.tmp 30), none, 0, none⟩,
 ⟨(some 32), .len (.tmp 31), none, 0, none⟩,
 ⟨(some 33), .call (.func 66) [(false, (.tmp 32)), (false, (.const (.int .i64 (1)))), (false, (.const (.int .i64 (8))))] false 4, none, 0, none⟩,
 ⟨(some 2), .move (.tmp 33), none, 4, none⟩] []) (.ret))), [.tmp 2], true⟩
def s68 : Sig := ⟨(.cons (.v .spec) .nil), [], ((.v .bool), []), []⟩
def l68_0 (g87 : (List Int) → Int → Option Bool) (g66 : Int → Int → Int → Option Bool) (nx2 : ((Unit × (Int × Unit)) × (Spec × Unit)) → Option Bool) (i3 : Int) (z4 : Spec) : Option Bool :=
 cond (decide (i3 < (List.length z4.parts : Int)))
 (cond (decide (0 ≤ i3))
 (Option.bind (z4.parts[Int.toNat i3]?) fun y5 =>
 cond (decide ((List.length y5 : Int) < 1))
 (some false)
 (cond (decide (0 ≤ i3))
 (Option.bind (z4.parts[Int.toNat i3]?) fun y6 =>
 Option.bind (g87 y6 (List.length z4.nodes : Int)) fun r7 =>
 cond (!r7)
 (some false)
 (nx2 (((), IntKind.wrap .i64 (i3 + 1), ()), (z4, ()))))
 (none)))
 (none))
 (Option.bind (g66 (List.length z4.parts : Int) 1 8) fun r8 =>
 some r8)
def F68 (L : Lp) (g87 : (List Int) → Int → Option Bool) (g66 : Int → Int → Int → Option Bool) (as0 : Spec) : Option Bool :=
 L (fun (s1 : ((Unit × (Int × Unit)) × (Spec × Unit))) nx2 => l68_0 g87 g66 nx2 s1.1.2.1 s1.2.1) (((), 0, ()), (as0, ()))
theorem e68 (L : Lp) (g87 : (List Int) → Int → Option Bool) (g66 : Int → Int → Int → Option Bool) (x : s68.args.den) (h : denH s68.heap) : nrun [⟨87, s87, fun x h => g87 x.1 x.2.1⟩, ⟨66, s66, fun x h => g66 x.1 x.2.1 x.2.2.1⟩] L n68 s68 x h = F68 L g87 g66 x.1 := by kernel_rfl
def f68 : Spec → Option Bool := F68 (@LN LOOPS) f87 f66
@[reducible] def t68 : Ent := ⟨68, s68, fun x h => f68 x.1⟩
theorem k68 : chkNF Try.prog Try.f68 n68 = true := by kernel_rfl
theorem ok68 : NOk Try.prog t68 := NOk.body (T := [t87, t66]) mixed (nall_cons ok87 (nall_cons ok66 nall_nil)) (oneEach_of (by kernel_rfl)) Try.func68 k68 (by kernel_rfl) (fun x h => e68 _ _ _ x h)
def n69 : NFunc := ⟨64, .seq (.region 1 [
 ⟨(some 1), .box 18 (.tmp 0), none, 0, none⟩,
 ⟨(some 2), .move (.const (.bool false)), none, 1, none⟩] []) (.seq (.seq (.region 0 [
 ⟨(some 3), .move (.const (.int .i64 (0))), none, 0, none⟩] []) (.block 0 (.loop [1, 3] ⟨[(1, (.ptr 0 0 0)), (3, (.v (.int .i64)))], [], [.one false .spec]⟩ (.seq (.seq (.region 0 [
 ⟨(some 5), .move (.tmp 3), none, 0, none⟩,
 ⟨(some 6), .fieldAddr 2 (.tmp 1), none, 0, none⟩,
 ⟨(some 7), .load false 1 (.tmp 6), none, 0, none⟩,
 ⟨(some 8), .len (.tmp 7), none, 0, none⟩,
 ⟨(some 9), .bin .lss (.tmp 5) (.tmp 8), none, 0, none⟩] []) (.cond (.tmp 9) (.skip) (.exit 0))) (.seq (.block 1 (.seq (.region 1 [
 ⟨(some 12), .fieldAddr 2 (.tmp 1), none, 0, none⟩,
 ⟨(some 13), .load false 1 (.tmp 12), none, 0, none⟩,
 ⟨(some 14), .move (.tmp 3), none, 0, none⟩,
 ⟨(some 15), .indexSl 6 (.tmp 13) (.tmp 14), none, 0, none⟩,
 ⟨(some 16), .load true 6 (.tmp 15), none, 0, none⟩,
 ⟨(some 4), .alloc [.int .i64 (0), .zsl, .int .i64 (0), .int .i64 (0), .int .i64 (0), .int .i64 (0)], none, 0, none⟩,
 ⟨none, .store 6 (.tmp 4) (.tmp 16), none, 1, none⟩] []) (.seq (.region 20 [
 ⟨(some 17), .fieldAddr 0 (.tmp 4), none, 0, none⟩,
 ⟨(some 18), .load false 1 (.tmp 17), none, 0, none⟩,
 ⟨(some 19), .bin .lss (.tmp 18) (.const (.int .i64 (0))), none, 0, none⟩,
 ⟨(some 20), .move (.tmp 19), none, 0, none⟩,
 ⟨(some 21), .fieldAddr 0 (.tmp 4), (some (20, false)), 0, none⟩,
 ⟨(some 22), .load false 1 (.tmp 21), (some (20, false)), 0, none⟩,
 ⟨(some 23), .fieldAddr 1 (.tmp 1), (some (20, false)), 0, none⟩,
 ⟨(some 24), .load false 1 (.tmp 23), (some (20, false)), 0, none⟩,
 ⟨(some 25), .len (.tmp 24), (some (20, false)), 0, none⟩,
 ⟨(some 26), .bin .geq (.tmp 22) (.tmp 25), (some (20, false)), 0, none⟩,
 ⟨(some 27), .pick (.tmp 20) (.const (.bool true)) (.tmp 26), none, 0, none⟩,
 ⟨(some 28), .move (.tmp 27), none, 0, none⟩,
 ⟨(some 29), .fieldAddr 1 (.tmp 4), (some (28, false)), 0, none⟩,
 ⟨(some 30), .load false 1 (.tmp 29), (some (28, false)), 0, none⟩,
 ⟨(some 31), .fieldAddr 3 (.tmp 1), (some (28, false)), 0, none⟩,
 ⟨(some 32), .load false 1 (.tmp 31), (some (28, false)), 0, none⟩,
 ⟨(some 33), .call (.func 87) [(false, (.tmp 30)), (false, (.tmp 32))] false 4, (some (28, false)), 0, none⟩,
 ⟨(some 34), .un .not (.tmp 33), (some (28, false)), 4, none⟩,
 ⟨(some 35), .pick (.tmp 28) (.const (.bool true)) (.tmp 34), none, 4, none⟩,
 ⟨(some 36), .move (.tmp 35), none, 4, none⟩,
 ⟨(some 37), .fieldAddr 2 (.tmp 4), (some (36, false)), 4, none⟩,
 ⟨(some 38), .load false 1 (.tmp 37), (some (36, false)), 4, none⟩,
 ⟨(some 39), .call (.func 66) [(false, (.tmp 38)), (false, (.const (.int .i64 (1)))), (false, (.const (.int .i64 (256))))] false 4, (some (36, false)), 4, none⟩,
 ⟨(some 40), .un .not (.tmp 39), (some (36, false)), 8, none⟩,
 ⟨(some 41), .pick (.tmp 36) (.const (.bool true)) (.tmp 40), none, 8, none⟩,
 ⟨(some 42), .move (.tmp 41), none, 8, none⟩,
 ⟨(some 43), .fieldAddr 3 (.tmp 4), (some (42, false)), 8, none⟩,
 ⟨(some 44), .load false 1 (.tmp 43), (some (42, false)), 8, none⟩,
 ⟨(some 45), .call (.func 66) [(false, (.tmp 44)), (false, (.const (.int .i64 (1)))), (false, (.const (.int .i64 (256))))] false 4, (some (42, false)), 8, none⟩,
 ⟨(some 46), .un .not (.tmp 45), (some (42, false)), 12, none⟩,
 ⟨(some 47), .pick (.tmp 42) (.const (.bool true)) (.tmp 46), none, 12, none⟩,
 ⟨(some 48), .move (.tmp 47), none, 12, none⟩,
 ⟨(some 49), .fieldAddr 4 (.tmp 4), (some (48, false)), 12, none⟩,
 ⟨(some 50), .load false 1 (.tmp 49), (some (48, false)), 12, none⟩,
 ⟨(some 51), .call (.func 66) [(false, (.tmp 50)), (false, (.const (.int .i64 (1)))), (false, (.const (.int .i64 (256))))] false 4, (some (48, false)), 12, none⟩,
 ⟨(some 52), .un .not (.tmp 51), (some (48, false)), 16, none⟩,
 ⟨(some 53), .pick (.tmp 48) (.const (.bool true)) (.tmp 52), none, 16, none⟩,
 ⟨(some 54), .move (.tmp 53), none, 16, none⟩,
 ⟨(some 55), .fieldAddr 5 (.tmp 4), (some (54, false)), 16, none⟩,
 ⟨(some 56), .load false 1 (.tmp 55), (some (54, false)), 16, none⟩,
 ⟨(some 57), .call (.func 66) [(false, (.tmp 56)), (false, (.const (.int .i64 (0)))), (false, (.const (.int .i64 (100))))] false 4, (some (54, false)), 16, none⟩,
 ⟨(some 58), .un .not (.tmp 57), (some (54, false)), 20, none⟩,
 ⟨(some 59), .pick (.tmp 54) (.const (.bool true)) (.tmp 58), none, 20, none⟩] []) (.cond (.tmp 59) (.seq (.region 0 [
 ⟨(some 2), .move (.const (.bool false)), none, 0, none⟩] []) (.ret)) (.skip))))) (.region 0 [
 ⟨(some 10), .move (.tmp 3), none, 0, none⟩,
 ⟨(some 11), .bin .add (.tmp 10) (.const (.int .i64 (1))), none, 0, none⟩,
 ⟨(some 3), .move (.tmp 11), none, 0, none⟩] [])))))) (.seq (.region 4 [
 ⟨(some 60), .fieldAddr 2 (.tmp 1), none, 0, none⟩,
 ⟨(some 61), .load false 1 (.tmp 60), none, 0, none⟩,
 ⟨(some 62), .len (.tmp 61), none, 0, none⟩,
 ⟨(some 63), .call (.func 66) [(false, (.tmp 62)), (false, (.const (.int .i64 (1)))), (false, (.const (.int .i64 (8))))] false 4, none, 0, none⟩,
 ⟨(some 2), .move (.tmp 63), none, 4, none⟩] []) (.ret))), [.tmp 2], true⟩
def s69 : Sig := ⟨(.cons (.v .spec) .nil), [], ((.v .bool), []), []⟩
def l69_0 (g87 : (List Int) → Int → Option Bool) (g66 : Int → Int → Int → Option Bool) (nx2 : ((Unit × (Int × Unit)) × (Spec × Unit)) → Option Bool) (i3 : Int) (z4 : Spec) : Option Bool :=
 cond (decide (i3 < (List.length z4.queues : Int)))
 (cond (decide (0 ≤ i3))
 (Option.bind (z4.queues[Int.toNat i3]?) fun y5 =>
 cond (decide (y5.part < 0))
 (some false)
 (cond (decide ((List.length z4.parts : Int) ≤ y5.part))
 (some false)
 (Option.bind (g87 y5.users z4.users) fun r6 =>
 cond (!r6)
 (some false)
 (Option.bind (g66 y5.maxJobs 1 256) fun r7 =>
 cond (!r7)
 (some false)
 (Option.bind (g66 y5.maxRun 1 256) fun r8 =>
 cond (!r8)
 (some false)
 (Option.bind (g66 y5.maxUser 1 256) fun r9 =>
 cond (!r9)
 (some false)
 (Option.bind (g66 y5.qos 0 100) fun r10 =>
 cond (!r10)
 (some false)
 (nx2 (((), IntKind.wrap .i64 (i3 + 1), ()), (z4, ()))))))))))
 (none))
 (Option.bind (g66 (List.length z4.queues : Int) 1 8) fun r11 =>
 some r11)
def F69 (L : Lp) (g87 : (List Int) → Int → Option Bool) (g66 : Int → Int → Int → Option Bool) (as0 : Spec) : Option Bool :=
 L (fun (s1 : ((Unit × (Int × Unit)) × (Spec × Unit))) nx2 => l69_0 g87 g66 nx2 s1.1.2.1 s1.2.1) (((), 0, ()), (as0, ()))
theorem e69 (L : Lp) (g87 : (List Int) → Int → Option Bool) (g66 : Int → Int → Int → Option Bool) (x : s69.args.den) (h : denH s69.heap) : nrun [⟨87, s87, fun x h => g87 x.1 x.2.1⟩, ⟨66, s66, fun x h => g66 x.1 x.2.1 x.2.2.1⟩] L n69 s69 x h = F69 L g87 g66 x.1 := by kernel_rfl
def f69 : Spec → Option Bool := F69 (@LN LOOPS) f87 f66
@[reducible] def t69 : Ent := ⟨69, s69, fun x h => f69 x.1⟩
theorem k69 : chkNF Try.prog Try.f69 n69 = true := by kernel_rfl
theorem ok69 : NOk Try.prog t69 := NOk.body (T := [t87, t66]) mixed (nall_cons ok87 (nall_cons ok66 nall_nil)) (oneEach_of (by kernel_rfl)) Try.func69 k69 (by kernel_rfl) (fun x h => e69 _ _ _ x h)
def n39 : NFunc := ⟨83, .seq (.region 1 [
 ⟨(some 1), .box 18 (.tmp 0), none, 0, none⟩,
 ⟨(some 2), .move (.const (.str [])), none, 1, none⟩] []) (.seq (.region 1 [
 ⟨(some 8), .fieldAddr 4 (.tmp 1), none, 0, none⟩,
 ⟨(some 9), .load true 4 (.tmp 8), none, 0, none⟩,
 ⟨(some 3), .alloc [.int .i64 (0), .int .i64 (0), .int .i64 (0), .int .i64 (0)], none, 0, none⟩,
 ⟨none, .store 4 (.tmp 3) (.tmp 9), none, 1, none⟩] []) (.seq (.meet [1, 4] [] ⟨[(1, (.ptr 0 0 0)), (4, (.v .bool))], [], [.one false .spec]⟩ (.region 16 [
 ⟨(some 10), .fieldAddr 0 (.tmp 3), none, 0, none⟩,
 ⟨(some 11), .load false 1 (.tmp 10), none, 0, none⟩,
 ⟨(some 12), .call (.func 66) [(false, (.tmp 11)), (false, (.const (.int .i64 (0)))), (false, (.const (.int .i64 (1000))))] false 4, none, 0, none⟩,
 ⟨(some 13), .move (.tmp 12), none, 4, none⟩,
 ⟨(some 14), .fieldAddr 1 (.tmp 3), (some (13, true)), 4, none⟩,
 ⟨(some 15), .load false 1 (.tmp 14), (some (13, true)), 4, none⟩,
 ⟨(some 16), .call (.func 66) [(false, (.tmp 15)), (false, (.const (.int .i64 (0)))), (false, (.const (.int .i64 (1000))))] false 4, (some (13, true)), 4, none⟩,
 ⟨(some 17), .pick (.tmp 13) (.tmp 16) (.const (.bool false)), none, 8, none⟩,
 ⟨(some 18), .move (.tmp 17), none, 8, none⟩,
 ⟨(some 19), .fieldAddr 2 (.tmp 3), (some (18, true)), 8, none⟩,
 ⟨(some 20), .load false 1 (.tmp 19), (some (18, true)), 8, none⟩,
 ⟨(some 21), .call (.func 66) [(false, (.tmp 20)), (false, (.const (.int .i64 (0)))), (false, (.const (.int .i64 (1000))))] false 4, (some (18, true)), 8, none⟩,
 ⟨(some 22), .pick (.tmp 18) (.tmp 21) (.const (.bool false)), none, 12, none⟩,
 ⟨(some 23), .move (.tmp 22), none, 12, none⟩,
 ⟨(some 24), .fieldAddr 3 (.tmp 3), (some (23, true)), 12, none⟩,
 ⟨(some 25), .load false 1 (.tmp 24), (some (23, true)), 12, none⟩,
 ⟨(some 26), .call (.func 66) [(false, (.tmp 25)), (false, (.const (.int .i64 (0)))), (false, (.const (.int .i64 (1000))))] false 4, (some (23, true)), 12, none⟩,
 ⟨(some 27), .pick (.tmp 23) (.tmp 26) (.const (.bool false)), none, 16, none⟩,
 ⟨(some 4), .move (.tmp 27), none, 16, none⟩] [])) (.seq (.region 1 [
 ⟨(some 28), .buildSlice 1 15 true [.str []] [(0, (.const (.str [78, 111, 100, 101, 115]))), (1, (.const (.str [80, 97, 114, 116, 115]))), (2, (.const (.str [85, 115, 101, 114, 115]))), (3, (.const (.str [81, 117, 101, 117, 101, 115]))), (4, (.const (.str [87, 101, 105, 103, 104, 116, 115]))), (5, (.const (.str [68, 101, 99, 97, 121]))), (6, (.const (.str [77, 111, 100, 101]))), (7, (.const (.str [74, 111, 98, 115]))), (8, (.const (.str [73, 100, 115]))), (9, (.const (.str [86, 101, 114, 115, 105, 111, 110, 115]))), (10, (.const (.str [76, 105, 110, 103, 101, 114]))), (11, (.const (.str [75, 101, 101, 112]))), (12, (.const (.str [73, 110]))), (13, (.const (.str [79, 117, 116]))), (14, (.const (.str [67, 97, 99, 104, 101])))], none, 0, none⟩,
 ⟨(some 5), .move (.tmp 28), none, 1, none⟩] []) (.seq (.region 57 [
 ⟨(some 29), .load true 18 (.tmp 1), none, 0, (some ([], none))⟩,
 ⟨(some 30), .call (.func 67) [(false, (.tmp 29))] true 4, none, 0, (some ([], none))⟩,
 ⟨(some 31), .load true 18 (.tmp 1), none, 4, (some ([], none))⟩,
 ⟨(some 32), .call (.func 68) [(false, (.tmp 31))] true 4, none, 4, (some ([0, 1, 2, 3], none))⟩,
 ⟨(some 33), .fieldAddr 3 (.tmp 1), none, 8, (some ([], none))⟩,
 ⟨(some 34), .load false 1 (.tmp 33), none, 8, (some ([], none))⟩,
 ⟨(some 35), .call (.func 66) [(false, (.tmp 34)), (false, (.const (.int .i64 (1)))), (false, (.const (.int .i64 (8))))] true 4, none, 8, (some ([0, 1, 2, 3, 4, 5, 6, 7], none))⟩,
 ⟨(some 36), .load true 18 (.tmp 1), none, 12, (some ([], none))⟩,
 ⟨(some 37), .call (.func 69) [(false, (.tmp 36))] true 4, none, 12, (some ([0, 1, 2, 3, 4, 5, 6, 7, 8, 9, 10, 11], none))⟩,
 ⟨(some 38), .move (.tmp 4), none, 16, (some ([], none))⟩,
 ⟨(some 39), .fieldAddr 8 (.tmp 1), none, 16, (some ([], none))⟩,
 ⟨(some 40), .load false 1 (.tmp 39), none, 16, (some ([], none))⟩,
 ⟨(some 41), .call (.func 66) [(false, (.tmp 40)), (false, (.const (.int .i64 (1)))), (false, (.const (.int .i64 (16))))] true 4, none, 16, (some ([0, 1, 2, 3, 4, 5, 6, 7, 8, 9, 10, 11, 12, 13, 14, 15], none))⟩,
 ⟨(some 42), .fieldAddr 9 (.tmp 1), none, 20, (some ([], none))⟩,
 ⟨(some 43), .load false 1 (.tmp 42), none, 20, (some ([], none))⟩,
 ⟨(some 44), .call (.func 66) [(false, (.tmp 43)), (false, (.const (.int .i64 (1)))), (false, (.const (.int .i64 (2))))] true 4, none, 20, (some ([0, 1, 2, 3, 4, 5, 6, 7, 8, 9, 10, 11, 12, 13, 14, 15, 16, 17, 18, 19], none))⟩,
 ⟨(some 45), .fieldAddr 10 (.tmp 1), none, 24, (some ([], none))⟩,
 ⟨(some 46), .load false 1 (.tmp 45), none, 24, (some ([], none))⟩,
 ⟨(some 47), .call (.func 66) [(false, (.tmp 46)), (false, (.const (.int .i64 (1)))), (false, (.const (.int .i64 (256))))] true 4, none, 24, (some ([0, 1, 2, 3, 4, 5, 6, 7, 8, 9, 10, 11, 12, 13, 14, 15, 16, 17, 18, 19, 20, 21, 22, 23], none))⟩,
 ⟨(some 48), .fieldAddr 11 (.tmp 1), none, 28, (some ([], none))⟩,
 ⟨(some 49), .load false 1 (.tmp 48), none, 28, (some ([], none))⟩,
 ⟨(some 50), .call (.func 66) [(false, (.tmp 49)), (false, (.const (.int .i64 (1)))), (false, (.const (.int .i64 (1048576))))] true 4, none, 28, (some ([0, 1, 2, 3, 4, 5, 6, 7, 8, 9, 10, 11, 12, 13, 14, 15, 16, 17, 18, 19, 20, 21, 22, 23, 24, 25, 26, 27], none))⟩,
 ⟨(some 51), .fieldAddr 12 (.tmp 1), none, 32, (some ([], none))⟩,
 ⟨(some 52), .load false 1 (.tmp 51), none, 32, (some ([], none))⟩,
 ⟨(some 53), .call (.func 66) [(false, (.tmp 52)), (false, (.const (.int .i64 (1)))), (false, (.const (.int .i64 (65536))))] true 4, none, 32, (some ([0, 1, 2, 3, 4, 5, 6, 7, 8, 9, 10, 11, 12, 13, 14, 15, 16, 17, 18, 19, 20, 21, 22, 23, 24, 25, 26, 27, 28, 29, 30, 31], none))⟩,
 ⟨(some 54), .fieldAddr 13 (.tmp 1), none, 36, (some ([], none))⟩,
 ⟨(some 55), .load false 1 (.tmp 54), none, 36, (some ([], none))⟩,
 ⟨(some 56), .call (.func 66) [(false, (.tmp 55)), (false, (.const (.int .i64 (0)))), (false, (.const (.int .i64 (65536))))] true 4, none, 36, (some ([0, 1, 2, 3, 4, 5, 6, 7, 8, 9, 10, 11, 12, 13, 14, 15, 16, 17, 18, 19, 20, 21, 22, 23, 24, 25, 26, 27, 28, 29, 30, 31, 32, 33, 34, 35], none))⟩,
 ⟨(some 57), .fieldAddr 14 (.tmp 1), none, 40, (some ([], none))⟩,
 ⟨(some 58), .load false 1 (.tmp 57), none, 40, (some ([], none))⟩,
 ⟨(some 59), .call (.func 66) [(false, (.tmp 58)), (false, (.const (.int .i64 (1)))), (false, (.const (.int .i64 (16))))] true 4, none, 40, (some ([0, 1, 2, 3, 4, 5, 6, 7, 8, 9, 10, 11, 12, 13, 14, 15, 16, 17, 18, 19, 20, 21, 22, 23, 24, 25, 26, 27, 28, 29, 30, 31, 32, 33, 34, 35, 36, 37, 38, 39], none))⟩,
 ⟨(some 60), .fieldAddr 15 (.tmp 1), none, 44, (some ([], none))⟩,
 ⟨(some 61), .load false 1 (.tmp 60), none, 44, (some ([], none))⟩,
 ⟨(some 62), .call (.func 66) [(false, (.tmp 61)), (false, (.const (.int .i64 (1)))), (false, (.const (.int .i64 (8))))] true 4, none, 44, (some ([0, 1, 2, 3, 4, 5, 6, 7, 8, 9, 10, 11, 12, 13, 14, 15, 16, 17, 18, 19, 20, 21, 22, 23, 24, 25, 26, 27, 28, 29, 30, 31, 32, 33, 34, 35, 36, 37, 38, 39, 40, 41, 42, 43], none))⟩,
 ⟨(some 63), .fieldAddr 16 (.tmp 1), none, 48, (some ([], none))⟩,
 ⟨(some 64), .load false 1 (.tmp 63), none, 48, (some ([], none))⟩,
 ⟨(some 65), .call (.func 66) [(false, (.tmp 64)), (false, (.const (.int .i64 (1)))), (false, (.const (.int .i64 (16))))] true 4, none, 48, (some ([0, 1, 2, 3, 4, 5, 6, 7, 8, 9, 10, 11, 12, 13, 14, 15, 16, 17, 18, 19, 20, 21, 22, 23, 24, 25, 26, 27, 28, 29, 30, 31, 32, 33, 34, 35, 36, 37, 38, 39, 40, 41, 42, 43, 44, 45, 46, 47], none))⟩,
 ⟨(some 66), .fieldAddr 17 (.tmp 1), none, 52, (some ([], none))⟩,
 ⟨(some 67), .load false 1 (.tmp 66), none, 52, (some ([], none))⟩,
 ⟨(some 68), .call (.func 66) [(false, (.tmp 67)), (false, (.const (.int .i64 (0)))), (false, (.const (.int .i64 (16))))] false 4, none, 52, (some ([0, 1, 2, 3, 4, 5, 6, 7, 8, 9, 10, 11, 12, 13, 14, 15, 16, 17, 18, 19, 20, 21, 22, 23, 24, 25, 26, 27, 28, 29, 30, 31, 32, 33, 34, 35, 36, 37, 38, 39, 40, 41, 42, 43, 44, 45, 46, 47, 48, 49, 50, 51], none))⟩,
 ⟨(some 69), .buildSlice 1 15 true [.bool false] [(0, (.tmp 30)), (1, (.tmp 32)), (2, (.tmp 35)), (3, (.tmp 37)), (4, (.tmp 38)), (5, (.tmp 41)), (6, (.tmp 44)), (7, (.tmp 47)), (8, (.tmp 50)), (9, (.tmp 53)), (10, (.tmp 56)), (11, (.tmp 59)), (12, (.tmp 62)), (13, (.tmp 65)), (14, (.tmp 68))], none, 56, (some ([0, 1, 2, 3, 4, 5, 6, 7, 8, 9, 10, 11, 12, 13, 14, 15, 16, 17, 18, 19, 20, 21, 22, 23, 24, 25, 26, 27, 28, 29, 30, 31, 32, 33, 34, 35, 36, 37, 38, 39, 40, 41, 42, 43, 44, 45, 46, 47, 48, 49, 50, 51, 52, 53, 54, 55], none))⟩,
 ⟨(some 6), .move (.tmp 69), none, 57, (some ([0, 1, 2, 3, 4, 5, 6, 7, 8, 9, 10, 11, 12, 13, 14, 15, 16, 17, 18, 19, 20, 21, 22, 23, 24, 25, 26, 27, 28, 29, 30, 31, 32, 33, 34, 35, 36, 37, 38, 39, 40, 41, 42, 43, 44, 45, 46, 47, 48, 49, 50, 51, 52, 53, 54, 55, 56], none))⟩] []) (.seq (.seq (.region 0 [
 ⟨(some 7), .move (.const (.int .i64 (0))), none, 0, none⟩] []) (.block 0 (.loopU [5, 6, 7] 16 (.seq (.seq (.region 0 [
 ⟨(some 70), .move (.tmp 7), none, 0, none⟩,
 ⟨(some 71), .bin .lss (.tmp 70) (.const (.int .i64 (15))), none, 0, none⟩] []) (.cond (.tmp 71) (.skip) (.exit 0))) (.seq (.block 1 (.seq (.region 0 [
 ⟨(some 74), .move (.tmp 6), none, 0, none⟩,
 ⟨(some 75), .move (.tmp 7), none, 0, none⟩,
 ⟨(some 76), .indexSl 1 (.tmp 74) (.tmp 75), none, 0, none⟩,
 ⟨(some 77), .load false 1 (.tmp 76), none, 0, none⟩,
 ⟨(some 78), .un .not (.tmp 77), none, 0, none⟩] []) (.cond (.tmp 78) (.seq (.region 0 [
 ⟨(some 79), .move (.tmp 5), none, 0, none⟩,
 ⟨(some 80), .move (.tmp 7), none, 0, none⟩,
 ⟨(some 81), .indexSl 1 (.tmp 79) (.tmp 80), none, 0, none⟩,
 ⟨(some 82), .load false 1 (.tmp 81), none, 0, none⟩,
 ⟨(some 2), .move (.tmp 82), none, 0, none⟩] []) (.ret)) (.skip)))) (.region 0 [
 ⟨(some 72), .move (.tmp 7), none, 0, none⟩,
 ⟨(some 73), .bin .add (.tmp 72) (.const (.int .i64 (1))), none, 0, none⟩,
 ⟨(some 7), .move (.tmp 73), none, 0, none⟩] [])))))) (.seq (.region 0 [
 ⟨(some 2), .move (.const (.str [])), none, 0, none⟩] []) (.ret))))))), [.tmp 2], true⟩
def s39 : Sig := ⟨(.cons (.v .spec) .nil), [], ((.v .str), []), []⟩
def F39 (L : Lp) (g66 : Int → Int → Int → Option Bool) (g67 : Spec → Option Bool) (g68 : Spec → Option Bool) (g69 : Spec → Option Bool) (as0 : Spec) : Option (List UInt8) :=
 Option.bind (α := ((Unit × (Bool × Unit)) × (Spec × Unit)))
 (Option.bind (g66 as0.weights.age 0 1000) fun r1 =>
 cond r1
 (Option.bind (g66 as0.weights.size 0 1000) fun r2 =>
 cond r2
 (Option.bind (g66 as0.weights.qos 0 1000) fun r3 =>
 cond r3
 (Option.bind (g66 as0.weights.share 0 1000) fun r4 =>
 some (((), r4, ()), (as0, ())))
 (some (((), false, ()), (as0, ()))))
 (some (((), false, ()), (as0, ()))))
 (some (((), false, ()), (as0, ())))) fun x5 =>
 Option.bind (g67 x5.2.1) fun r6 =>
 Option.bind (g68 x5.2.1) fun r7 =>
 Option.bind (g66 x5.2.1.users 1 8) fun r8 =>
 Option.bind (g69 x5.2.1) fun r9 =>
 Option.bind (g66 x5.2.1.decay 1 16) fun r10 =>
 Option.bind (g66 x5.2.1.mode 1 2) fun r11 =>
 Option.bind (g66 x5.2.1.jobs 1 256) fun r12 =>
 Option.bind (g66 x5.2.1.ids 1 1048576) fun r13 =>
 Option.bind (g66 x5.2.1.versions 1 65536) fun r14 =>
 Option.bind (g66 x5.2.1.linger 0 65536) fun r15 =>
 Option.bind (g66 x5.2.1.keep 1 16) fun r16 =>
 Option.bind (g66 x5.2.1.inn 1 8) fun r17 =>
 Option.bind (g66 x5.2.1.out 1 16) fun r18 =>
 Option.bind (g66 x5.2.1.cache 0 16) fun r19 =>
 cond (!r6)
 (some ([78, 111, 100, 101, 115] : List UInt8))
 (cond (!r7)
 (some ([80, 97, 114, 116, 115] : List UInt8))
 (cond (!r8)
 (some ([85, 115, 101, 114, 115] : List UInt8))
 (cond (!r9)
 (some ([81, 117, 101, 117, 101, 115] : List UInt8))
 (cond (!x5.1.2.1)
 (some ([87, 101, 105, 103, 104, 116, 115] : List UInt8))
 (cond (!r10)
 (some ([68, 101, 99, 97, 121] : List UInt8))
 (cond (!r11)
 (some ([77, 111, 100, 101] : List UInt8))
 (cond (!r12)
 (some ([74, 111, 98, 115] : List UInt8))
 (cond (!r13)
 (some ([73, 100, 115] : List UInt8))
 (cond (!r14)
 (some ([86, 101, 114, 115, 105, 111, 110, 115] : List UInt8))
 (cond (!r15)
 (some ([76, 105, 110, 103, 101, 114] : List UInt8))
 (cond (!r16)
 (some ([75, 101, 101, 112] : List UInt8))
 (cond (!r17)
 (some ([73, 110] : List UInt8))
 (cond (!r18)
 (some ([79, 117, 116] : List UInt8))
 (cond (!r19)
 (some ([67, 97, 99, 104, 101] : List UInt8))
 (some ([] : List UInt8))))))))))))))))
theorem e39 (L : Lp) (g66 : Int → Int → Int → Option Bool) (g67 : Spec → Option Bool) (g68 : Spec → Option Bool) (g69 : Spec → Option Bool) (x : s39.args.den) (h : denH s39.heap) : nrun [⟨66, s66, fun x h => g66 x.1 x.2.1 x.2.2.1⟩, ⟨67, s67, fun x h => g67 x.1⟩, ⟨68, s68, fun x h => g68 x.1⟩, ⟨69, s69, fun x h => g69 x.1⟩] L n39 s39 x h = F39 L g66 g67 g68 g69 x.1 := by kernel_rfl
def f39 : Spec → Option (List UInt8) := F39 (@LN LOOPS) f66 f67 f68 f69
@[reducible] def t39 : Ent := ⟨39, s39, fun x h => f39 x.1⟩
theorem k39 : chkNF Try.prog Try.f39 n39 = true := by kernel_rfl
theorem ok39 : NOk Try.prog t39 := NOk.body (T := [t66, t67, t68, t69]) mixed (nall_cons ok66 (nall_cons ok67 (nall_cons ok68 (nall_cons ok69 nall_nil)))) (oneEach_of (by kernel_rfl)) Try.func39 k39 (by kernel_rfl) (fun x h => e39 _ _ _ _ _ x h)
def n16 : NFunc := ⟨6, .seq (.region 1 [
 ⟨(some 1), .box 18 (.tmp 0), none, 0, none⟩,
 ⟨(some 2), .move (.const (.bool false)), none, 1, none⟩] []) (.seq (.region 4 [
 ⟨(some 3), .load true 18 (.tmp 1), none, 0, none⟩,
 ⟨(some 4), .call (.func 39) [(false, (.tmp 3))] false 4, none, 0, none⟩,
 ⟨(some 5), .bin .eql (.tmp 4) (.const (.str [])), none, 4, none⟩,
 ⟨(some 2), .move (.tmp 5), none, 4, none⟩] []) (.ret)), [.tmp 2], true⟩
def s16 : Sig := ⟨(.cons (.v .spec) .nil), [], ((.v .bool), []), []⟩
def F16 (L : Lp) (g39 : Spec → Option (List UInt8)) (as0 : Spec) : Option Bool :=
 Option.bind (g39 as0) fun r1 =>
 some (decide (r1 = ([] : List UInt8)))
theorem e16 (L : Lp) (g39 : Spec → Option (List UInt8)) (x : s16.args.den) (h : denH s16.heap) : nrun [⟨39, s39, fun x h => g39 x.1⟩] L n16 s16 x h = F16 L g39 x.1 := by kernel_rfl
def f16 : Spec → Option Bool := F16 (@LN LOOPS) f39
@[reducible] def t16 : Ent := ⟨16, s16, fun x h => f16 x.1⟩
theorem k16 : chkNF Try.prog Try.f16 n16 = true := by kernel_rfl
theorem ok16 : NOk Try.prog t16 := NOk.body (T := [t39]) mixed (nall_cons ok39 nall_nil) (oneEach_of (by kernel_rfl)) Try.func16 k16 (by kernel_rfl) (fun x h => e16 _ _ x h)
def n49 : NFunc := ⟨4, .seq (.region 1 [
 ⟨(some 1), .box 1 (.tmp 0), none, 0, none⟩,
 ⟨(some 2), .move (.const (.nilfn)), none, 1, none⟩] []) (.seq (.region 0 [
 ⟨(some 3), .makeFunc 78 [(.tmp 1)], none, 0, none⟩,
 ⟨(some 2), .move (.tmp 3), none, 0, none⟩] []) (.ret)), [.tmp 2], false⟩
def s49 : Sig := ⟨(.cons (.mp 0) .nil), [.typed (.pair (.int .i64) .alloc)], ((.fn 78 (.cons (.ptr 1 0 0) .nil)), [.typed (.pair (.int .i64) .alloc), .cell false (.cons (.mp 0) .nil)]), []⟩
def F49 (L : Lp)  (a0 : (List (Int × Alloc))) : Option ((Unit × Unit) × ((List (Int × Alloc)) × ((Unit × Unit) × Unit))) :=
 some (((), ()), (a0, ((), ()), ()))
theorem e49 (L : Lp)  (x : s49.args.den) (h : denH s49.heap) : nrun [] L n49 s49 x h = F49 L  h.1 := by kernel_rfl
def f49 : (List (Int × Alloc)) → Option ((Unit × Unit) × ((List (Int × Alloc)) × ((Unit × Unit) × Unit))) := F49 (@LN LOOPS) 
@[reducible] def t49 : Ent := ⟨49, s49, fun x h => f49 h.1⟩
theorem k49 : chkNF Try.prog Try.f49 n49 = true := by kernel_rfl
theorem ok49 : NOk Try.prog t49 := NOk.body (T := []) mixed nall_nil (oneEach_of (by kernel_rfl)) Try.func49 k49 (by kernel_rfl) (fun x h => e49 _  x h)
def s48 : Sig := ⟨(.cons (.fn 78 (.cons (.ptr 0 0 0) .nil)) .nil), [.cell false (.cons (.mp 1) .nil), .typed (.pair (.int .i64) .alloc)], ((.slw 2 1), [.cell false (.cons (.mp 1) .nil), .typed (.pair (.int .i64) .alloc), .typed (.int .i64)]), []⟩
def f48 : (List (Int × Alloc)) → Option (Unit × ((Unit × Unit) × ((List (Int × Alloc)) × ((List Int) × Unit)))) := mkeys
@[reducible] def t48 : Ent := ⟨48, s48, fun x h => f48 h.2.1⟩
theorem ok48 : NOk Try.prog t48 := ext48
def sM0 : Sig := ⟨(.cons (.mp 0) (.cons (.v (.int .i64)) .nil)), [.typed (.pair (.int .i64) .alloc)], ((.v .alloc), [.typed (.pair (.int .i64) .alloc)]), []⟩
def fM0 : Int → (List (Int × Alloc)) → Option (Alloc × ((List (Int × Alloc)) × Unit)) := mlook0 zMap
@[reducible] def tM0 : Ent := ⟨1000760, sM0, fun x h => fM0 x.2.1 h.1⟩
theorem okM0 : NPk Try.prog tM0 := NPk.look0 mapTyM
def n21 : NFunc := ⟨31, .seq (.region 0 [
 ⟨(some 2), .move (.const (.zsl)), none, 0, none⟩] []) (.seq (.seq (.region 0 [
 ⟨(some 6), .move (.tmp 0), none, 0, none⟩,
 ⟨(some 7), .eqP false (.tmp 6) (.const (.nilp)), none, 0, none⟩] []) (.cond (.tmp 7) (.seq (.region 0 [
 ⟨(some 2), .move (.const (.zsl)), none, 0, none⟩] []) (.ret)) (.skip))) (.seq (.region 0 [
 ⟨(some 3), .move (.const (.zsl)), none, 0, none⟩] []) (.seq (.seq (.region 8 [
 ⟨(some 8), .move (.tmp 0), none, 0, none⟩,
 ⟨(some 9), .nilCheck (.tmp 8), none, 0, none⟩,
 ⟨(some 10), .fieldAddr 1 (.tmp 9), none, 0, none⟩,
 ⟨(some 11), .load false 1 (.tmp 10), none, 0, none⟩,
 ⟨(some 12), .call (.func 49) [(true, (.tmp 11))] false 4, none, 0, none⟩,
 ⟨(some 13), .call (.func 48) [(true, (.tmp 12))] false 4, none, 4, none⟩,
 ⟨(some 14), .len (.tmp 13), none, 8, none⟩,
 ⟨(some 15), .move (.const (.int .i64 (0))), none, 8, none⟩] []) (.block 0 (.pre [0, 3, 13, 14, 15] [.mat 3 6 true] (.loop [0, 3, 13, 14, 15] ⟨[(0, (.ptr 0 0 0)), (3, (.slw 2 6)), (13, (.slw 3 1)), (15, (.v (.int .i64)))], [14], [.cell false (.cons (.v (.list .res)) (.cons (.mp 1) .nil)), .typed (.pair (.int .i64) .alloc), .typed .alloc, .typed (.int .i64)]⟩ (.seq (.region 0 [
 ⟨(some 16), .bin .lss (.tmp 15) (.tmp 14), none, 0, none⟩] []) (.seq (.cond (.tmp 16) (.skip) (.exit 0)) (.seq (.block 1 (.seq (.region 0 [
 ⟨(some 17), .indexSl 1 (.tmp 13) (.tmp 15), none, 0, none⟩,
 ⟨(some 18), .load false 1 (.tmp 17), none, 0, none⟩,
 ⟨(some 5), .move (.tmp 18), none, 0, none⟩] []) (.region 10 [
 ⟨(some 19), .move (.tmp 3), none, 0, none⟩,
 ⟨(some 20), .move (.tmp 0), none, 0, none⟩,
 ⟨(some 21), .nilCheck (.tmp 20), none, 0, none⟩,
 ⟨(some 22), .fieldAddr 1 (.tmp 21), none, 0, none⟩,
 ⟨(some 23), .load false 1 (.tmp 22), none, 0, none⟩,
 ⟨(some 24), .move (.tmp 5), none, 0, none⟩,
 ⟨(some 25), .call (.const (.fn 1000760 [])) [(true, (.tmp 23)), (false, (.tmp 24))] false 4, none, 0, none⟩,
 ⟨(some 26), .call (.func 47) [(false, (.tmp 25))] false 4, none, 4, none⟩,
 ⟨(some 27), .buildSlice 6 1 true [.int .i64 (0), .int .i64 (0), .int .i64 (0), .int .i64 (0), .int .i64 (0), .zsl] [(0, (.tmp 26))], none, 8, none⟩,
 ⟨(some 28), .append 6 64 true (.tmp 19) (.tmp 27), none, 9, none⟩,
 ⟨(some 3), .move (.tmp 28), none, 10, none⟩] []))) (.region 0 [
 ⟨(some 29), .bin .add (.tmp 15) (.const (.int .i64 (1))), none, 0, none⟩,
 ⟨(some 15), .move (.tmp 29), none, 0, none⟩] [])))))))) (.seq (.region 0 [
 ⟨(some 30), .move (.tmp 3), none, 0, none⟩,
 ⟨(some 2), .move (.tmp 30), none, 0, none⟩] []) (.ret))))), [.tmp 2], true⟩
def s21 : Sig := ⟨(.cons (.ptr 0 0 0) .nil), [.cell false (.cons (.v (.list .res)) (.cons (.mp 1) .nil)), .typed (.pair (.int .i64) .alloc)], ((.v (.list .alloc)), [.cell false (.cons (.v (.list .res)) (.cons (.mp 1) .nil)), .typed (.pair (.int .i64) .alloc)]), []⟩
def l21_0 (gM0 : Int → (List (Int × Alloc)) → Option (Alloc × ((List (Int × Alloc)) × Unit))) (g47 : Alloc → Option Alloc) (r3 : (Unit × ((Unit × Unit) × ((List (Int × Alloc)) × ((List Int) × Unit))))) (nx5 : ((Unit × (Unit × (Unit × (Int × Unit)))) × (((List Res) × (Unit × Unit)) × ((List (Int × Alloc)) × ((List Alloc) × ((List Int) × Unit))))) → Option ((List Alloc) × (((List Res) × (Unit × Unit)) × ((List (Int × Alloc)) × Unit)))) (z6 : Int) (z7 : (List Res)) (z8 : (List (Int × Alloc))) (z9 : (List Alloc)) (z10 : (List Int)) : Option ((List Alloc) × (((List Res) × (Unit × Unit)) × ((List (Int × Alloc)) × Unit))) :=
 cond (decide (z6 < (List.length r3.2.2.2.1 : Int)))
 (cond (decide (0 ≤ z6))
 (cond (decide ((Int.toNat z6) < (List.length z10)))
 (Option.bind (z10[Int.toNat z6]?) fun y11 =>
 Option.bind (gM0 y11 z8) fun r12 =>
 Option.bind (g47 r12.1) fun r13 =>
 cond (smallB ((List.length z9) + 1) 64)
 (nx5 (((), (), (), IntKind.wrap .i64 (z6 + 1), ()), ((z7, (), ()), r12.2.1, z9 ++ [r13], z10, ())))
 (none))
 (none))
 (none))
 (some (z9, ((z7, (), ()), z8, ())))
def F21 (L : Lp) (g49 : (List (Int × Alloc)) → Option ((Unit × Unit) × ((List (Int × Alloc)) × ((Unit × Unit) × Unit)))) (g48 : (List (Int × Alloc)) → Option (Unit × ((Unit × Unit) × ((List (Int × Alloc)) × ((List Int) × Unit))))) (gM0 : Int → (List (Int × Alloc)) → Option (Alloc × ((List (Int × Alloc)) × Unit))) (g47 : Alloc → Option Alloc) (a0 : (List Res)) (a1 : (List (Int × Alloc))) : Option ((List Alloc) × (((List Res) × (Unit × Unit)) × ((List (Int × Alloc)) × Unit))) :=
 Option.bind (g49 a1) fun r2 =>
 Option.bind (g48 r2.2.1) fun r3 =>
 L (fun (s4 : ((Unit × (Unit × (Unit × (Int × Unit)))) × (((List Res) × (Unit × Unit)) × ((List (Int × Alloc)) × ((List Alloc) × ((List Int) × Unit)))))) nx5 => l21_0 gM0 g47 r3 nx5 s4.1.2.2.2.1 s4.2.1.1 s4.2.2.1 s4.2.2.2.1 s4.2.2.2.2.1) (((), (), (), 0, ()), ((a0, (), ()), r3.2.2.1, [], r3.2.2.2.1, ()))
theorem e21 (L : Lp) (g49 : (List (Int × Alloc)) → Option ((Unit × Unit) × ((List (Int × Alloc)) × ((Unit × Unit) × Unit)))) (g48 : (List (Int × Alloc)) → Option (Unit × ((Unit × Unit) × ((List (Int × Alloc)) × ((List Int) × Unit))))) (gM0 : Int → (List (Int × Alloc)) → Option (Alloc × ((List (Int × Alloc)) × Unit))) (g47 : Alloc → Option Alloc) (x : s21.args.den) (h : denH s21.heap) : nrun [⟨49, s49, fun x h => g49 h.1⟩, ⟨48, s48, fun x h => g48 h.2.1⟩, ⟨1000760, sM0, fun x h => gM0 x.2.1 h.1⟩, ⟨47, s47, fun x h => g47 x.1⟩] L n21 s21 x h = F21 L g49 g48 gM0 g47 h.1.1 h.2.1 := by kernel_rfl
def f21 : (List Res) → (List (Int × Alloc)) → Option ((List Alloc) × (((List Res) × (Unit × Unit)) × ((List (Int × Alloc)) × Unit))) := F21 (@LN LOOPS) f49 f48 fM0 f47
@[reducible] def t21 : Ent := ⟨21, s21, fun x h => f21 h.1.1 h.2.1⟩
theorem k21 : chkNF Try.prog Try.f21 n21 = true := by kernel_rfl
theorem ok21 : NOk Try.prog t21 := NOk.body (T := [t49, t48, tM0, t47]) mixed (nall_cons ok49 (nall_cons ok48 (nall_prim okM0 (nall_cons ok47 nall_nil)))) (oneEach_of (by kernel_rfl)) Try.func21 k21 (by kernel_rfl) (fun x h => e21 _ _ _ _ _ x h)
def n24 : NFunc := ⟨28, .seq (.region 0 [
 ⟨(some 4), .move (.const (.int .i64 (0))), none, 0, none⟩] []) (.seq (.region 0 [
 ⟨(some 5), .move (.const (.int .i64 (0))), none, 0, none⟩] []) (.seq (.seq (.region 0 [
 ⟨(some 6), .move (.const (.int .i64 (0))), none, 0, none⟩] []) (.block 0 (.loop [0, 1, 5, 6] ⟨[(5, (.v (.int .i64))), (6, (.v (.int .i64)))], [0, 1], []⟩ (.seq (.seq (.region 0 [
 ⟨(some 7), .move (.tmp 6), none, 0, none⟩,
 ⟨(some 8), .move (.tmp 0), none, 0, none⟩,
 ⟨(some 9), .len (.tmp 8), none, 0, none⟩,
 ⟨(some 10), .bin .lss (.tmp 7) (.tmp 9), none, 0, none⟩] []) (.cond (.tmp 10) (.skip) (.exit 0))) (.seq (.block 1 (.seq (.region 0 [
 ⟨(some 13), .move (.tmp 0), none, 0, none⟩,
 ⟨(some 14), .move (.tmp 6), none, 0, none⟩,
 ⟨(some 15), .indexSl 2 (.tmp 13) (.tmp 14), none, 0, none⟩,
 ⟨(some 16), .fieldAddr 0 (.tmp 15), none, 0, none⟩,
 ⟨(some 17), .load false 1 (.tmp 16), none, 0, none⟩,
 ⟨(some 18), .move (.tmp 1), none, 0, none⟩,
 ⟨(some 19), .bin .eql (.tmp 17) (.tmp 18), none, 0, none⟩] []) (.cond (.tmp 19) (.region 0 [
 ⟨(some 20), .move (.tmp 5), none, 0, none⟩,
 ⟨(some 21), .move (.tmp 0), none, 0, none⟩,
 ⟨(some 22), .move (.tmp 6), none, 0, none⟩,
 ⟨(some 23), .indexSl 2 (.tmp 21) (.tmp 22), none, 0, none⟩,
 ⟨(some 24), .fieldAddr 1 (.tmp 23), none, 0, none⟩,
 ⟨(some 25), .load false 1 (.tmp 24), none, 0, none⟩,
 ⟨(some 26), .bin .add (.tmp 20) (.tmp 25), none, 0, none⟩,
 ⟨(some 5), .move (.tmp 26), none, 0, none⟩] []) (.skip)))) (.region 0 [
 ⟨(some 11), .move (.tmp 6), none, 0, none⟩,
 ⟨(some 12), .bin .add (.tmp 11) (.const (.int .i64 (1))), none, 0, none⟩,
 ⟨(some 6), .move (.tmp 12), none, 0, none⟩] [])))))) (.seq (.region 0 [
 ⟨(some 27), .move (.tmp 5), none, 0, none⟩,
 ⟨(some 4), .move (.tmp 27), none, 0, none⟩] []) (.ret)))), [.tmp 4], true⟩
def s24 : Sig := ⟨(.cons (.v (.list .share)) (.cons (.v (.int .i64)) .nil)), [], ((.v (.int .i64)), []), []⟩
def l24_0 (al0 : (List Share)) (node1 : Int) (nx3 : ((Int × (Int × Unit)) × Unit) → Option Int) (zn4 : Int) (i5 : Int) : Option Int :=
 cond (decide (i5 < (List.length al0 : Int)))
 (cond (decide (0 ≤ i5))
 (Option.bind (al0[Int.toNat i5]?) fun y6 =>
 cond (decide (y6.node = node1))
 (cond (decide (0 ≤ i5))
 (Option.bind (al0[Int.toNat i5]?) fun y7 =>
 nx3 ((IntKind.wrap .i64 (zn4 + y7.many), IntKind.wrap .i64 (i5 + 1), ()), ()))
 (none))
 (nx3 ((zn4, IntKind.wrap .i64 (i5 + 1), ()), ())))
 (none))
 (some zn4)
def F24 (L : Lp)  (al0 : (List Share)) (node1 : Int) : Option Int :=
 L (fun (s2 : ((Int × (Int × Unit)) × Unit)) nx3 => l24_0 al0 node1 nx3 s2.1.1 s2.1.2.1) ((0, 0, ()), ())
theorem e24 (L : Lp)  (x : s24.args.den) (h : denH s24.heap) : nrun [] L n24 s24 x h = F24 L  x.1 x.2.1 := by kernel_rfl
def f24 : (List Share) → Int → Option Int := F24 (@LN LOOPS) 
@[reducible] def t24 : Ent := ⟨24, s24, fun x h => f24 x.1 x.2.1⟩
theorem k24 : chkNF Try.prog Try.f24 n24 = true := by kernel_rfl
theorem ok24 : NOk Try.prog t24 := NOk.body (T := []) mixed nall_nil (oneEach_of (by kernel_rfl)) Try.func24 k24 (by kernel_rfl) (fun x h => e24 _  x h)
def n22 : NFunc := ⟨26, .seq (.region 3 [
 ⟨(some 2), .box 4 (.tmp 0), none, 0, none⟩,
 ⟨(some 3), .box 4 (.tmp 1), none, 1, none⟩,
 ⟨(some 4), .alloc [.int .i64 (0), .int .i64 (0), .int .i64 (0), .int .i64 (0)], none, 2, none⟩] []) (.seq (.region 0 [
 ⟨(some 5), .fieldAddr 0 (.tmp 2), none, 0, none⟩,
 ⟨(some 6), .load false 1 (.tmp 5), none, 0, none⟩,
 ⟨(some 7), .fieldAddr 0 (.tmp 3), none, 0, none⟩,
 ⟨(some 8), .load false 1 (.tmp 7), none, 0, none⟩,
 ⟨(some 9), .bin .add (.tmp 6) (.tmp 8), none, 0, none⟩,
 ⟨(some 10), .fieldAddr 1 (.tmp 2), none, 0, none⟩,
 ⟨(some 11), .load false 1 (.tmp 10), none, 0, none⟩,
 ⟨(some 12), .fieldAddr 1 (.tmp 3), none, 0, none⟩,
 ⟨(some 13), .load false 1 (.tmp 12), none, 0, none⟩,
 ⟨(some 14), .bin .add (.tmp 11) (.tmp 13), none, 0, none⟩,
 ⟨(some 15), .fieldAddr 2 (.tmp 2), none, 0, none⟩,
 ⟨(some 16), .load false 1 (.tmp 15), none, 0, none⟩,
 ⟨(some 17), .fieldAddr 2 (.tmp 3), none, 0, none⟩,
 ⟨(some 18), .load false 1 (.tmp 17), none, 0, none⟩,
 ⟨(some 19), .bin .add (.tmp 16) (.tmp 18), none, 0, none⟩,
 ⟨(some 20), .fieldAddr 3 (.tmp 2), none, 0, none⟩,
 ⟨(some 21), .load false 1 (.tmp 20), none, 0, none⟩,
 ⟨(some 22), .fieldAddr 3 (.tmp 3), none, 0, none⟩,
 ⟨(some 23), .load false 1 (.tmp 22), none, 0, none⟩,
 ⟨(some 24), .bin .add (.tmp 21) (.tmp 23), none, 0, none⟩,
 ⟨(some 25), .build [.int .i64 (0), .int .i64 (0), .int .i64 (0), .int .i64 (0)] [(0, 1, (.tmp 9)), (1, 1, (.tmp 14)), (2, 1, (.tmp 19)), (3, 1, (.tmp 24))], none, 0, none⟩,
 ⟨none, .store 4 (.tmp 4) (.tmp 25), none, 0, none⟩] []) (.ret)), [.cell true 4 4], true⟩
def s22 : Sig := ⟨(.cons (.v .res) (.cons (.v .res) .nil)), [], ((.v .res), []), []⟩
def F22 (L : Lp)  (a0 : Res) (b1 : Res) : Option Res :=
 some (Res.mk (IntKind.wrap .i64 (a0.cpu + b1.cpu)) (IntKind.wrap .i64 (a0.mem + b1.mem)) (IntKind.wrap .i64 (a0.gpu + b1.gpu)) (IntKind.wrap .i64 (a0.lic + b1.lic)))
theorem e22 (L : Lp)  (x : s22.args.den) (h : denH s22.heap) : nrun [] L n22 s22 x h = F22 L  x.1 x.2.1 := by kernel_rfl
def f22 : Res → Res → Option Res := F22 (@LN LOOPS) 
@[reducible] def t22 : Ent := ⟨22, s22, fun x h => f22 x.1 x.2.1⟩
theorem k22 : chkNF Try.prog Try.f22 n22 = true := by kernel_rfl
theorem ok22 : NOk Try.prog t22 := NOk.body (T := []) mixed nall_nil (oneEach_of (by kernel_rfl)) Try.func22 k22 (by kernel_rfl) (fun x h => e22 _  x h)
def n23 : NFunc := ⟨17, .seq (.region 2 [
 ⟨(some 2), .box 4 (.tmp 0), none, 0, none⟩,
 ⟨(some 4), .alloc [.int .i64 (0), .int .i64 (0), .int .i64 (0), .int .i64 (0)], none, 1, none⟩] []) (.seq (.region 1 [
 ⟨(some 7), .build [.int .i64 (0), .int .i64 (0), .int .i64 (0), .int .i64 (0)] [], none, 0, none⟩,
 ⟨(some 5), .alloc [.int .i64 (0), .int .i64 (0), .int .i64 (0), .int .i64 (0)], none, 0, none⟩,
 ⟨none, .store 4 (.tmp 5) (.tmp 7), none, 1, none⟩] []) (.seq (.seq (.region 0 [
 ⟨(some 6), .move (.const (.int .i64 (0))), none, 0, none⟩] []) (.block 0 (.loop [1, 2, 4, 5, 6] ⟨[(2, (.ptr 0 0 0)), (4, (.ptr 1 0 0)), (5, (.ptr 2 0 0)), (6, (.v (.int .i64)))], [1], [.one false .res, .one false .res, .one false .res]⟩ (.seq (.seq (.region 0 [
 ⟨(some 8), .move (.tmp 6), none, 0, none⟩,
 ⟨(some 9), .move (.tmp 1), none, 0, none⟩,
 ⟨(some 10), .bin .lss (.tmp 8) (.tmp 9), none, 0, none⟩] []) (.cond (.tmp 10) (.skip) (.exit 0))) (.seq (.block 1 (.region 4 [
 ⟨(some 13), .load true 4 (.tmp 5), none, 0, none⟩,
 ⟨(some 14), .load true 4 (.tmp 2), none, 0, none⟩,
 ⟨(some 15), .call (.func 22) [(false, (.tmp 13)), (false, (.tmp 14))] false 4, none, 0, none⟩,
 ⟨none, .store 4 (.tmp 5) (.tmp 15), none, 4, none⟩] [])) (.region 0 [
 ⟨(some 11), .move (.tmp 6), none, 0, none⟩,
 ⟨(some 12), .bin .add (.tmp 11) (.const (.int .i64 (1))), none, 0, none⟩,
 ⟨(some 6), .move (.tmp 12), none, 0, none⟩] [])))))) (.seq (.region 0 [
 ⟨(some 16), .load true 4 (.tmp 5), none, 0, none⟩,
 ⟨none, .store 4 (.tmp 4) (.tmp 16), none, 0, none⟩] []) (.ret)))), [.cell true 4 4], true⟩
def s23 : Sig := ⟨(.cons (.v .res) (.cons (.v (.int .i64)) .nil)), [], ((.v .res), []), []⟩
def l23_0 (g22 : Res → Res → Option Res) (an1 : Int) (nx3 : ((Unit × (Unit × (Unit × (Int × Unit)))) × (Res × (Res × (Res × Unit)))) → Option Res) (i4 : Int) (z5 : Res) (z6 : Res) (z7 : Res) : Option Res :=
 cond (decide (i4 < an1))
 (Option.bind (g22 z7 z5) fun r8 =>
 nx3 (((), (), (), IntKind.wrap .i64 (i4 + 1), ()), (z5, z6, r8, ())))
 (some z7)
def F23 (L : Lp) (g22 : Res → Res → Option Res) (need0 : Res) (an1 : Int) : Option Res :=
 L (fun (s2 : ((Unit × (Unit × (Unit × (Int × Unit)))) × (Res × (Res × (Res × Unit))))) nx3 => l23_0 g22 an1 nx3 s2.1.2.2.2.1 s2.2.1 s2.2.2.1 s2.2.2.2.1) (((), (), (), 0, ()), (need0, Res.mk 0 0 0 0, Res.mk 0 0 0 0, ()))
theorem e23 (L : Lp) (g22 : Res → Res → Option Res) (x : s23.args.den) (h : denH s23.heap) : nrun [⟨22, s22, fun x h => g22 x.1 x.2.1⟩] L n23 s23 x h = F23 L g22 x.1 x.2.1 := by kernel_rfl
def f23 : Res → Int → Option Res := F23 (@LN LOOPS) f22
@[reducible] def t23 : Ent := ⟨23, s23, fun x h => f23 x.1 x.2.1⟩
theorem k23 : chkNF Try.prog Try.f23 n23 = true := by kernel_rfl
theorem ok23 : NOk Try.prog t23 := NOk.body (T := [t22]) mixed (nall_cons ok22 nall_nil) (oneEach_of (by kernel_rfl)) Try.func23 k23 (by kernel_rfl) (fun x h => e23 _ _ x h)
def n4 : NFunc := ⟨104, .seq (.region 1 [
 ⟨(some 2), .box 18 (.tmp 0), none, 0, none⟩,
 ⟨(some 4), .move (.const (.bool false)), none, 1, none⟩] []) (.seq (.seq (.region 4 [
 ⟨(some 14), .call (.func 13) [] false 4, none, 0, none⟩,
 ⟨(some 15), .un .not (.tmp 14), none, 4, none⟩] []) (.cond (.tmp 15) (.seq (.region 0 [
 ⟨(some 4), .move (.const (.bool false)), none, 0, none⟩] []) (.ret)) (.skip))) (.seq (.seq (.region 12 [
 ⟨(some 16), .load true 18 (.tmp 2), none, 0, none⟩,
 ⟨(some 17), .call (.func 14) [(false, (.tmp 16))] false 4, none, 0, none⟩,
 ⟨(some 18), .un .not (.tmp 17), none, 4, none⟩,
 ⟨(some 19), .move (.tmp 18), none, 4, none⟩,
 ⟨(some 20), .move (.tmp 1), (some (19, false)), 4, none⟩,
 ⟨(some 21), .call (.func 15) [(false, (.tmp 20))] false 4, (some (19, false)), 4, none⟩,
 ⟨(some 22), .un .not (.tmp 21), (some (19, false)), 8, none⟩,
 ⟨(some 23), .pick (.tmp 19) (.const (.bool true)) (.tmp 22), none, 8, none⟩,
 ⟨(some 24), .move (.tmp 23), none, 8, none⟩,
 ⟨(some 25), .load true 18 (.tmp 2), (some (24, false)), 8, none⟩,
 ⟨(some 26), .call (.func 16) [(false, (.tmp 25))] false 4, (some (24, false)), 8, none⟩,
 ⟨(some 27), .un .not (.tmp 26), (some (24, false)), 12, none⟩,
 ⟨(some 28), .pick (.tmp 24) (.const (.bool true)) (.tmp 27), none, 12, none⟩] []) (.cond (.tmp 28) (.seq (.region 0 [
 ⟨(some 4), .move (.const (.bool true)), none, 0, none⟩] []) (.ret)) (.skip))) (.seq (.region 4 [
 ⟨(some 30), .load true 18 (.tmp 2), none, 0, none⟩,
 ⟨(some 31), .call (.func 17) [(false, (.tmp 30))] false 4, none, 0, none⟩,
 ⟨(some 29), .move (.tmp 31), none, 4, none⟩,
 ⟨(some 32), .extract (.tmp 29) 0, none, 4, none⟩,
 ⟨(some 33), .extract (.tmp 29) 1, none, 4, none⟩,
 ⟨(some 5), .move (.tmp 32), none, 4, none⟩,
 ⟨(some 6), .move (.tmp 33), none, 4, none⟩] []) (.seq (.join [2, 5, 1] [] ⟨[(2, (.ptr 0 0 0)), (5, (.ptr 1 0 0))], [1], [.one false .spec, .cell false (.cons (.v (.list .res)) (.cons (.mp 2) .nil)), .typed (.pair (.int .i64) .alloc)]⟩ (.seq (.region 0 [
 ⟨(some 34), .move (.tmp 6), none, 0, none⟩,
 ⟨(some 35), .bin .neq (.tmp 34) (.const (.int .i64 (0))), none, 0, none⟩] []) (.cond (.tmp 35) (.seq (.region 0 [
 ⟨(some 4), .move (.const (.bool false)), none, 0, none⟩] []) (.ret)) (.skip)))) (.seq (.seq (.region 0 [
 ⟨(some 36), .move (.tmp 1), none, 0, none⟩,
 ⟨(some 37), .len (.tmp 36), none, 0, none⟩,
 ⟨(some 38), .move (.const (.int .i64 (0))), none, 0, none⟩] []) (.block 0 (.loop [2, 5, 36, 37, 38] ⟨[(2, (.ptr 0 0 0)), (5, (.ptr 1 0 0)), (38, (.v (.int .i64)))], [36, 37], [.one false .spec, .cell false (.cons (.v (.list .res)) (.cons (.mp 2) .nil)), .typed (.pair (.int .i64) .alloc)]⟩ (.seq (.region 0 [
 ⟨(some 39), .bin .lss (.tmp 38) (.tmp 37), none, 0, none⟩] []) (.seq (.cond (.tmp 39) (.skip) (.exit 0)) (.seq (.block 1 (.seq (.region 1 [
 ⟨(some 40), .indexSl 7 (.tmp 36) (.tmp 38), none, 0, none⟩,
 ⟨(some 41), .load true 7 (.tmp 40), none, 0, none⟩,
 ⟨(some 8), .alloc [.bool false, .int .i64 (0), .int .i64 (0), .int .i64 (0), .int .i64 (0), .int .i64 (0), .zsl], none, 0, none⟩,
 ⟨none, .store 7 (.tmp 8) (.tmp 41), none, 1, none⟩] []) (.seq (.meet [2, 5, 36, 37, 38] [] ⟨[(2, (.ptr 0 0 0)), (5, (.ptr 1 0 0))], [36, 37, 38], [.one false .spec, .cell false (.cons (.v (.list .res)) (.cons (.mp 2) .nil)), .typed (.pair (.int .i64) .alloc)]⟩ (.seq (.region 0 [
 ⟨(some 42), .fieldAddr 0 (.tmp 8), none, 0, none⟩,
 ⟨(some 43), .load false 1 (.tmp 42), none, 0, none⟩] []) (.cond (.tmp 43) (.region 4 [
 ⟨(some 44), .move (.tmp 5), none, 0, none⟩,
 ⟨(some 45), .fieldAddr 1 (.tmp 8), none, 0, none⟩,
 ⟨(some 46), .fieldAddr 0 (.tmp 45), none, 0, none⟩,
 ⟨(some 47), .load false 1 (.tmp 46), none, 0, none⟩,
 ⟨(some 48), .call (.func 18) [(true, (.tmp 44)), (false, (.tmp 47))] false 4, none, 0, none⟩] []) (.region 4 [
 ⟨(some 49), .move (.tmp 5), none, 0, none⟩,
 ⟨(some 50), .fieldAddr 1 (.tmp 8), none, 0, none⟩,
 ⟨(some 51), .load true 6 (.tmp 50), none, 0, none⟩,
 ⟨(some 52), .call (.func 19) [(true, (.tmp 49)), (false, (.tmp 51))] false 4, none, 0, none⟩] [])))) (.seq (.region 4 [
 ⟨(some 53), .move (.tmp 5), none, 0, none⟩,
 ⟨(some 54), .call (.func 20) [(true, (.tmp 53))] false 4, none, 0, none⟩,
 ⟨(some 9), .move (.tmp 54), none, 4, none⟩] []) (.seq (.seq (.region 0 [
 ⟨(some 55), .move (.tmp 9), none, 0, none⟩,
 ⟨(some 56), .len (.tmp 55), none, 0, none⟩,
 ⟨(some 57), .fieldAddr 0 (.tmp 2), none, 0, none⟩,
 ⟨(some 58), .load false 1 (.tmp 57), none, 0, none⟩,
 ⟨(some 59), .len (.tmp 58), none, 0, none⟩,
 ⟨(some 60), .bin .neq (.tmp 56) (.tmp 59), none, 0, none⟩] []) (.cond (.tmp 60) (.seq (.region 0 [
 ⟨(some 4), .move (.const (.bool false)), none, 0, none⟩] []) (.ret)) (.skip))) (.seq (.region 0 [
 ⟨(some 61), .move (.tmp 9), none, 0, none⟩,
 ⟨(some 62), .len (.tmp 61), none, 0, none⟩,
 ⟨(some 63), .move (.const (.int .i64 (0))), none, 0, none⟩] []) (.block 2 (.loop [2, 5, 9, 36, 37, 38, 62, 63] ⟨[(2, (.ptr 0 0 0)), (5, (.ptr 1 0 0)), (63, (.v (.int .i64)))], [9, 36, 37, 38, 62], [.one false .spec, .cell false (.cons (.v (.list .res)) (.cons (.mp 2) .nil)), .typed (.pair (.int .i64) .alloc)]⟩ (.seq (.region 0 [
 ⟨(some 64), .bin .lss (.tmp 63) (.tmp 62), none, 0, none⟩] []) (.seq (.cond (.tmp 64) (.skip) (.exit 2)) (.seq (.block 3 (.seq (.region 0 [
 ⟨(some 65), .move (.tmp 63), none, 0, none⟩,
 ⟨(some 10), .move (.tmp 65), none, 0, none⟩] []) (.seq (.region 1 [
 ⟨(some 66), .move (.tmp 9), none, 0, none⟩,
 ⟨(some 67), .move (.tmp 10), none, 0, none⟩,
 ⟨(some 68), .indexSl 4 (.tmp 66) (.tmp 67), none, 0, none⟩,
 ⟨(some 69), .load true 4 (.tmp 68), none, 0, none⟩,
 ⟨(some 11), .alloc [.int .i64 (0), .int .i64 (0), .int .i64 (0), .int .i64 (0)], none, 0, none⟩,
 ⟨none, .store 4 (.tmp 11) (.tmp 69), none, 1, none⟩] []) (.seq (.seq (.region 4 [
 ⟨(some 70), .move (.tmp 5), none, 0, none⟩,
 ⟨(some 71), .call (.func 21) [(true, (.tmp 70))] false 4, none, 0, none⟩,
 ⟨(some 72), .len (.tmp 71), none, 4, none⟩,
 ⟨(some 73), .move (.const (.int .i64 (0))), none, 4, none⟩] []) (.block 4 (.loop [2, 5, 9, 10, 11, 36, 37, 38, 62, 63, 71, 72, 73] ⟨[(2, (.ptr 0 0 0)), (5, (.ptr 1 0 0)), (11, (.ptr 2 0 0)), (73, (.v (.int .i64)))], [9, 10, 36, 37, 38, 62, 63, 71, 72], [.one false .spec, .cell false (.cons (.v (.list .res)) (.cons (.mp 3) .nil)), .one false .res, .typed (.pair (.int .i64) .alloc)]⟩ (.seq (.region 0 [
 ⟨(some 74), .bin .lss (.tmp 73) (.tmp 72), none, 0, none⟩] []) (.seq (.cond (.tmp 74) (.skip) (.exit 4)) (.seq (.block 5 (.seq (.region 1 [
 ⟨(some 75), .indexSl 6 (.tmp 71) (.tmp 73), none, 0, none⟩,
 ⟨(some 76), .load true 6 (.tmp 75), none, 0, none⟩,
 ⟨(some 13), .alloc [.int .i64 (0), .int .i64 (0), .int .i64 (0), .int .i64 (0), .int .i64 (0), .zsl], none, 0, none⟩,
 ⟨none, .store 6 (.tmp 13) (.tmp 76), none, 1, none⟩] []) (.region 12 [
 ⟨(some 77), .load true 4 (.tmp 11), none, 0, (some ([], none))⟩,
 ⟨(some 78), .fieldAddr 1 (.tmp 13), none, 0, (some ([], none))⟩,
 ⟨(some 79), .load true 4 (.tmp 78), none, 0, (some ([], none))⟩,
 ⟨(some 80), .fieldAddr 5 (.tmp 13), none, 0, (some ([], none))⟩,
 ⟨(some 81), .load false 1 (.tmp 80), none, 0, (some ([], none))⟩,
 ⟨(some 82), .move (.tmp 10), none, 0, (some ([], none))⟩,
 ⟨(some 83), .call (.func 24) [(false, (.tmp 81)), (false, (.tmp 82))] true 4, none, 0, (some ([], none))⟩,
 ⟨(some 84), .call (.func 23) [(false, (.tmp 79)), (false, (.tmp 83))] true 4, none, 4, (some ([0, 1, 2, 3], none))⟩,
 ⟨(some 85), .call (.func 22) [(false, (.tmp 77)), (false, (.tmp 84))] false 4, none, 8, (some ([0, 1, 2, 3, 4, 5, 6, 7], none))⟩,
 ⟨none, .store 4 (.tmp 11) (.tmp 85), none, 12, (some ([0, 1, 2, 3, 4, 5, 6, 7, 8, 9, 10, 11], none))⟩] []))) (.region 0 [
 ⟨(some 86), .bin .add (.tmp 73) (.const (.int .i64 (1))), none, 0, none⟩,
 ⟨(some 73), .move (.tmp 86), none, 0, none⟩] []))))))) (.seq (.region 4 [
 ⟨(some 87), .load true 4 (.tmp 11), none, 0, (some ([], none))⟩,
 ⟨(some 88), .fieldAddr 0 (.tmp 2), none, 0, (some ([], none))⟩,
 ⟨(some 89), .load false 1 (.tmp 88), none, 0, (some ([], none))⟩,
 ⟨(some 90), .move (.tmp 10), none, 0, (some ([], none))⟩,
 ⟨(some 91), .indexSl 4 (.tmp 89) (.tmp 90), none, 0, (some ([], none))⟩,
 ⟨(some 92), .load true 4 (.tmp 91), none, 0, (some ([], none))⟩,
 ⟨(some 93), .eqAgg (true, [.int .i64, .int .i64, .int .i64, .int .i64]) (.tmp 87) (.tmp 92), none, 0, (some ([], none))⟩,
 ⟨(some 94), .move (.tmp 93), none, 0, (some ([], none))⟩,
 ⟨(some 95), .move (.tmp 9), (some (94, false)), 0, (some ([], none))⟩,
 ⟨(some 96), .move (.tmp 10), (some (94, false)), 0, (some ([], none))⟩,
 ⟨(some 97), .indexSl 4 (.tmp 95) (.tmp 96), (some (94, false)), 0, (some ([], none))⟩,
 ⟨(some 98), .load true 4 (.tmp 97), (some (94, false)), 0, (some ([], none))⟩,
 ⟨(some 99), .call (.func 25) [(false, (.tmp 98))] false 4, (some (94, false)), 0, (some ([], none))⟩,
 ⟨(some 100), .un .not (.tmp 99), (some (94, false)), 4, (some ([0, 1, 2, 3], none))⟩,
 ⟨(some 101), .pick (.tmp 94) (.const (.bool true)) (.tmp 100), none, 4, (some ([0, 1, 2, 3], none))⟩] []) (.cond (.tmp 101) (.seq (.region 0 [
 ⟨(some 4), .move (.const (.bool false)), none, 0, none⟩] []) (.ret)) (.skip))))))) (.region 0 [
 ⟨(some 102), .bin .add (.tmp 63) (.const (.int .i64 (1))), none, 0, none⟩,
 ⟨(some 63), .move (.tmp 102), none, 0, none⟩] [])))))))))))) (.region 0 [
 ⟨(some 103), .bin .add (.tmp 38) (.const (.int .i64 (1))), none, 0, none⟩,
 ⟨(some 38), .move (.tmp 103), none, 0, none⟩] []))))))) (.seq (.region 0 [
 ⟨(some 4), .move (.const (.bool true)), none, 0, none⟩] []) (.ret))))))), [.tmp 4], true⟩
def s4 : Sig := ⟨(.cons (.v .spec) (.cons (.v (.list (.pair .bool .alloc))) .nil)), [], ((.v .bool), []), []⟩
def l4_0 (g24 : (List Share) → Int → Option Int) (g23 : Res → Int → Option Res) (g22 : Res → Res → Option Res) (g25 : Res → Option Bool) (r18 : ((List Res) × (((List Res) × (Unit × Unit)) × ((List (Int × Alloc)) × Unit)))) (nx20 : (((Unit × (Unit × (Int × Unit))) × (Spec × (((List Res) × (Unit × Unit)) × ((List (Int × Alloc)) × Unit)))) → Option Bool)) (z21 : Int) (r26 : ((List Alloc) × (((List Res) × (Unit × Unit)) × ((List (Int × Alloc)) × Unit)))) (nx28 : ((Unit × (Unit × (Unit × (Int × Unit)))) × (Spec × (((List Res) × (Unit × Unit)) × (Res × ((List (Int × Alloc)) × Unit))))) → Option Bool) (z29 : Int) (z30 : Spec) (z31 : (List Res)) (z32 : Res) (z33 : (List (Int × Alloc))) : Option Bool :=
 cond (decide (z29 < (List.length r26.1 : Int)))
 (cond (decide (0 ≤ z29))
 (Option.bind (r26.1[Int.toNat z29]?) fun y34 =>
 Option.bind (g24 y34.shares z21) fun r35 =>
 Option.bind (g23 y34.need r35) fun r36 =>
 Option.bind (g22 z32 r36) fun r37 =>
 nx28 (((), (), (), IntKind.wrap .i64 (z29 + 1), ()), (z30, (z31, (), ()), r37, z33, ())))
 (none))
 (cond (decide (0 ≤ z21))
 (Option.bind (z30.nodes[Int.toNat z21]?) fun y38 =>
 cond (!((decide (z32.cpu = y38.cpu)) && ((decide (z32.mem = y38.mem)) && ((decide (z32.gpu = y38.gpu)) && ((decide (z32.lic = y38.lic)) && true)))))
 (some false)
 (cond (decide (0 ≤ z21))
 (Option.bind (r18.1[Int.toNat z21]?) fun y39 =>
 Option.bind (g25 y39) fun r40 =>
 cond (!r40)
 (some false)
 (nx20 (((), (), IntKind.wrap .i64 (z21 + 1), ()), (z30, (z31, (), ()), z33, ()))))
 (none)))
 (none))
def l4_1 (L : Lp) (g21 : (List Res) → (List (Int × Alloc)) → Option ((List Alloc) × (((List Res) × (Unit × Unit)) × ((List (Int × Alloc)) × Unit)))) (g24 : (List Share) → Int → Option Int) (g23 : Res → Int → Option Res) (g22 : Res → Res → Option Res) (g25 : Res → Option Bool) (nx9 : (((Unit × (Unit × (Int × Unit))) × (Spec × (((List Res) × (Unit × Unit)) × ((List (Int × Alloc)) × Unit)))) → Option Bool)) (z10 : Int) (r18 : ((List Res) × (((List Res) × (Unit × Unit)) × ((List (Int × Alloc)) × Unit)))) (nx20 : ((Unit × (Unit × (Int × Unit))) × (Spec × (((List Res) × (Unit × Unit)) × ((List (Int × Alloc)) × Unit)))) → Option Bool) (z21 : Int) (z22 : Spec) (z23 : (List Res)) (z24 : (List (Int × Alloc))) : Option Bool :=
 cond (decide (z21 < (List.length r18.1 : Int)))
 (cond (decide (0 ≤ z21))
 (Option.bind (r18.1[Int.toNat z21]?) fun y25 =>
 Option.bind (g21 z23 z24) fun r26 =>
 L (fun (s27 : ((Unit × (Unit × (Unit × (Int × Unit)))) × (Spec × (((List Res) × (Unit × Unit)) × (Res × ((List (Int × Alloc)) × Unit)))))) nx28 => l4_0 g24 g23 g22 g25 r18 nx20 z21 r26 nx28 s27.1.2.2.2.1 s27.2.1 s27.2.2.1.1 s27.2.2.2.1 s27.2.2.2.2.1) (((), (), (), 0, ()), (z22, (r26.2.1.1, (), ()), y25, r26.2.2.1, ())))
 (none))
 (nx9 (((), (), IntKind.wrap .i64 (z10 + 1), ()), (z22, (z23, (), ()), z24, ())))
def l4_2 (L : Lp) (g18_1 : Int → (List Res) → (List (Int × Alloc)) → Option (Int × (((List Res) × (Unit × Unit)) × ((List (Int × Alloc)) × Unit)))) (g19_1 : Alloc → (List Res) → (List (Int × Alloc)) → Option (Int × (((List Res) × (Unit × Unit)) × ((List (Int × Alloc)) × Unit)))) (g20_1 : (List Res) → (List (Int × Alloc)) → Option ((List Res) × (((List Res) × (Unit × Unit)) × ((List (Int × Alloc)) × Unit)))) (g21 : (List Res) → (List (Int × Alloc)) → Option ((List Alloc) × (((List Res) × (Unit × Unit)) × ((List (Int × Alloc)) × Unit)))) (g24 : (List Share) → Int → Option Int) (g23 : Res → Int → Option Res) (g22 : Res → Res → Option Res) (g25 : Res → Option Bool) (a1 : (List (Bool × Alloc))) (nx9 : ((Unit × (Unit × (Int × Unit))) × (Spec × (((List Res) × (Unit × Unit)) × ((List (Int × Alloc)) × Unit)))) → Option Bool) (z10 : Int) (z11 : Spec) (z12 : (List Res)) (z13 : (List (Int × Alloc))) : Option Bool :=
 cond (decide (z10 < (List.length a1 : Int)))
 (cond (decide (0 ≤ z10))
 (Option.bind (a1[Int.toNat z10]?) fun y14 =>
 Option.bind (α := ((Unit × (Unit × Unit)) × (Spec × (((List Res) × (Unit × Unit)) × ((List (Int × Alloc)) × Unit)))))
 (cond y14.1
 (Option.bind (g18_1 y14.2.job z12 z13) fun r15 =>
 some (((), (), ()), (z11, (r15.2.1.1, (), ()), r15.2.2.1, ())))
 (Option.bind (g19_1 y14.2 z12 z13) fun r16 =>
 some (((), (), ()), (z11, (r16.2.1.1, (), ()), r16.2.2.1, ())))) fun x17 =>
 Option.bind (g20_1 x17.2.2.1.1 x17.2.2.2.1) fun r18 =>
 cond (!decide ((List.length r18.1 : Int) = (List.length x17.2.1.nodes : Int)))
 (some false)
 (L (fun (s19 : ((Unit × (Unit × (Int × Unit))) × (Spec × (((List Res) × (Unit × Unit)) × ((List (Int × Alloc)) × Unit))))) nx20 => l4_1 L g21 g24 g23 g22 g25 nx9 z10 r18 nx20 s19.1.2.2.1 s19.2.1 s19.2.2.1.1 s19.2.2.2.1) (((), (), 0, ()), (x17.2.1, (r18.2.1.1, (), ()), r18.2.2.1, ()))))
 (none))
 (some true)
def l4_3 (g24 : (List Share) → Int → Option Int) (g23 : Res → Int → Option Res) (g22 : Res → Res → Option Res) (g25 : Res → Option Bool) (r53 : ((List Res) × (((List Res) × (Unit × Unit)) × ((List (Int × Alloc)) × Unit)))) (nx55 : (((Unit × (Unit × (Int × Unit))) × (Spec × (((List Res) × (Unit × Unit)) × ((List (Int × Alloc)) × Unit)))) → Option Bool)) (z56 : Int) (r61 : ((List Alloc) × (((List Res) × (Unit × Unit)) × ((List (Int × Alloc)) × Unit)))) (nx63 : ((Unit × (Unit × (Unit × (Int × Unit)))) × (Spec × (((List Res) × (Unit × Unit)) × (Res × ((List (Int × Alloc)) × Unit))))) → Option Bool) (z64 : Int) (z65 : Spec) (z66 : (List Res)) (z67 : Res) (z68 : (List (Int × Alloc))) : Option Bool :=
 cond (decide (z64 < (List.length r61.1 : Int)))
 (cond (decide (0 ≤ z64))
 (Option.bind (r61.1[Int.toNat z64]?) fun y69 =>
 Option.bind (g24 y69.shares z56) fun r70 =>
 Option.bind (g23 y69.need r70) fun r71 =>
 Option.bind (g22 z67 r71) fun r72 =>
 nx63 (((), (), (), IntKind.wrap .i64 (z64 + 1), ()), (z65, (z66, (), ()), r72, z68, ())))
 (none))
 (cond (decide (0 ≤ z56))
 (Option.bind (z65.nodes[Int.toNat z56]?) fun y73 =>
 cond (!((decide (z67.cpu = y73.cpu)) && ((decide (z67.mem = y73.mem)) && ((decide (z67.gpu = y73.gpu)) && ((decide (z67.lic = y73.lic)) && true)))))
 (some false)
 (cond (decide (0 ≤ z56))
 (Option.bind (r53.1[Int.toNat z56]?) fun y74 =>
 Option.bind (g25 y74) fun r75 =>
 cond (!r75)
 (some false)
 (nx55 (((), (), IntKind.wrap .i64 (z56 + 1), ()), (z65, (z66, (), ()), z68, ()))))
 (none)))
 (none))
def l4_4 (L : Lp) (g21 : (List Res) → (List (Int × Alloc)) → Option ((List Alloc) × (((List Res) × (Unit × Unit)) × ((List (Int × Alloc)) × Unit)))) (g24 : (List Share) → Int → Option Int) (g23 : Res → Int → Option Res) (g22 : Res → Res → Option Res) (g25 : Res → Option Bool) (nx44 : (((Unit × (Unit × (Int × Unit))) × (Spec × (((List Res) × (Unit × Unit)) × ((List (Int × Alloc)) × Unit)))) → Option Bool)) (z45 : Int) (r53 : ((List Res) × (((List Res) × (Unit × Unit)) × ((List (Int × Alloc)) × Unit)))) (nx55 : ((Unit × (Unit × (Int × Unit))) × (Spec × (((List Res) × (Unit × Unit)) × ((List (Int × Alloc)) × Unit)))) → Option Bool) (z56 : Int) (z57 : Spec) (z58 : (List Res)) (z59 : (List (Int × Alloc))) : Option Bool :=
 cond (decide (z56 < (List.length r53.1 : Int)))
 (cond (decide (0 ≤ z56))
 (Option.bind (r53.1[Int.toNat z56]?) fun y60 =>
 Option.bind (g21 z58 z59) fun r61 =>
 L (fun (s62 : ((Unit × (Unit × (Unit × (Int × Unit)))) × (Spec × (((List Res) × (Unit × Unit)) × (Res × ((List (Int × Alloc)) × Unit)))))) nx63 => l4_3 g24 g23 g22 g25 r53 nx55 z56 r61 nx63 s62.1.2.2.2.1 s62.2.1 s62.2.2.1.1 s62.2.2.2.1 s62.2.2.2.2.1) (((), (), (), 0, ()), (z57, (r61.2.1.1, (), ()), y60, r61.2.2.1, ())))
 (none))
 (nx44 (((), (), IntKind.wrap .i64 (z45 + 1), ()), (z57, (z58, (), ()), z59, ())))
def l4_5 (L : Lp) (g18_1 : Int → (List Res) → (List (Int × Alloc)) → Option (Int × (((List Res) × (Unit × Unit)) × ((List (Int × Alloc)) × Unit)))) (g19_1 : Alloc → (List Res) → (List (Int × Alloc)) → Option (Int × (((List Res) × (Unit × Unit)) × ((List (Int × Alloc)) × Unit)))) (g20_1 : (List Res) → (List (Int × Alloc)) → Option ((List Res) × (((List Res) × (Unit × Unit)) × ((List (Int × Alloc)) × Unit)))) (g21 : (List Res) → (List (Int × Alloc)) → Option ((List Alloc) × (((List Res) × (Unit × Unit)) × ((List (Int × Alloc)) × Unit)))) (g24 : (List Share) → Int → Option Int) (g23 : Res → Int → Option Res) (g22 : Res → Res → Option Res) (g25 : Res → Option Bool) (a1 : (List (Bool × Alloc))) (nx44 : ((Unit × (Unit × (Int × Unit))) × (Spec × (((List Res) × (Unit × Unit)) × ((List (Int × Alloc)) × Unit)))) → Option Bool) (z45 : Int) (z46 : Spec) (z47 : (List Res)) (z48 : (List (Int × Alloc))) : Option Bool :=
 cond (decide (z45 < (List.length a1 : Int)))
 (cond (decide (0 ≤ z45))
 (Option.bind (a1[Int.toNat z45]?) fun y49 =>
 Option.bind (α := ((Unit × (Unit × Unit)) × (Spec × (((List Res) × (Unit × Unit)) × ((List (Int × Alloc)) × Unit)))))
 (cond y49.1
 (Option.bind (g18_1 y49.2.job z47 z48) fun r50 =>
 some (((), (), ()), (z46, (r50.2.1.1, (), ()), r50.2.2.1, ())))
 (Option.bind (g19_1 y49.2 z47 z48) fun r51 =>
 some (((), (), ()), (z46, (r51.2.1.1, (), ()), r51.2.2.1, ())))) fun x52 =>
 Option.bind (g20_1 x52.2.2.1.1 x52.2.2.2.1) fun r53 =>
 cond (!decide ((List.length r53.1 : Int) = (List.length x52.2.1.nodes : Int)))
 (some false)
 (L (fun (s54 : ((Unit × (Unit × (Int × Unit))) × (Spec × (((List Res) × (Unit × Unit)) × ((List (Int × Alloc)) × Unit))))) nx55 => l4_4 L g21 g24 g23 g22 g25 nx44 z45 r53 nx55 s54.1.2.2.1 s54.2.1 s54.2.2.1.1 s54.2.2.2.1) (((), (), 0, ()), (x52.2.1, (r53.2.1.1, (), ()), r53.2.2.1, ()))))
 (none))
 (some true)
def F4 (L : Lp) (g13 : Option Bool) (g14 : Spec → Option Bool) (g15 : (List (Bool × Alloc)) → Option Bool) (g16 : Spec → Option Bool) (g17 : Spec → Option ((Unit × (Int × Unit)) ⊕ ((Unit × (Int × Unit)) × (((List Res) × (Unit × Unit)) × ((List (Int × Alloc)) × Unit))))) (g18_1 : Int → (List Res) → (List (Int × Alloc)) → Option (Int × (((List Res) × (Unit × Unit)) × ((List (Int × Alloc)) × Unit)))) (g19_1 : Alloc → (List Res) → (List (Int × Alloc)) → Option (Int × (((List Res) × (Unit × Unit)) × ((List (Int × Alloc)) × Unit)))) (g20_1 : (List Res) → (List (Int × Alloc)) → Option ((List Res) × (((List Res) × (Unit × Unit)) × ((List (Int × Alloc)) × Unit)))) (g21 : (List Res) → (List (Int × Alloc)) → Option ((List Alloc) × (((List Res) × (Unit × Unit)) × ((List (Int × Alloc)) × Unit)))) (g24 : (List Share) → Int → Option Int) (g23 : Res → Int → Option Res) (g22 : Res → Res → Option Res) (g25 : Res → Option Bool) (as0 : Spec) (a1 : (List (Bool × Alloc))) : Option Bool :=
 Option.bind (g13) fun r2 =>
 cond (!r2)
 (some false)
 (Option.bind (g14 as0) fun r3 =>
 cond (!r3)
 (some true)
 (Option.bind (g15 a1) fun r4 =>
 cond (!r4)
 (some true)
 (Option.bind (g16 as0) fun r5 =>
 cond (!r5)
 (some true)
 (Option.bind (g17 as0) (Sum.elim (fun r6 =>
 Option.bind (α := (((Unit × (Unit × Unit)) × (Spec × (((List Res) × (Unit × Unit)) × ((List (Int × Alloc)) × Unit)))) ⊕ Bool))
 (cond (!decide (r6.2.1 = 0))
 (some (.inr false))
 (none)) (Sum.elim (fun x7 =>
 L (fun (s8 : ((Unit × (Unit × (Int × Unit))) × (Spec × (((List Res) × (Unit × Unit)) × ((List (Int × Alloc)) × Unit))))) nx9 => l4_2 L g18_1 g19_1 g20_1 g21 g24 g23 g22 g25 a1 nx9 s8.1.2.2.1 s8.2.1 s8.2.2.1.1 s8.2.2.2.1) (((), (), 0, ()), (x7.2.1, (x7.2.2.1.1, (), ()), x7.2.2.2.1, ()))) some)) (fun r41 =>
 Option.bind (α := (((Unit × (Unit × Unit)) × (Spec × (((List Res) × (Unit × Unit)) × ((List (Int × Alloc)) × Unit)))) ⊕ Bool))
 (cond (!decide (r41.1.2.1 = 0))
 (some (.inr false))
 (some (.inl (((), (), ()), (as0, (r41.2.1.1, (), ()), r41.2.2.1, ()))))) (Sum.elim (fun x42 =>
 L (fun (s43 : ((Unit × (Unit × (Int × Unit))) × (Spec × (((List Res) × (Unit × Unit)) × ((List (Int × Alloc)) × Unit))))) nx44 => l4_5 L g18_1 g19_1 g20_1 g21 g24 g23 g22 g25 a1 nx44 s43.1.2.2.1 s43.2.1 s43.2.2.1.1 s43.2.2.2.1) (((), (), 0, ()), (x42.2.1, (x42.2.2.1.1, (), ()), x42.2.2.2.1, ()))) some)))))))
theorem e4 (L : Lp) (g13 : Option Bool) (g14 : Spec → Option Bool) (g15 : (List (Bool × Alloc)) → Option Bool) (g16 : Spec → Option Bool) (g17 : Spec → Option ((Unit × (Int × Unit)) ⊕ ((Unit × (Int × Unit)) × (((List Res) × (Unit × Unit)) × ((List (Int × Alloc)) × Unit))))) (g18_1 : Int → (List Res) → (List (Int × Alloc)) → Option (Int × (((List Res) × (Unit × Unit)) × ((List (Int × Alloc)) × Unit)))) (g19_1 : Alloc → (List Res) → (List (Int × Alloc)) → Option (Int × (((List Res) × (Unit × Unit)) × ((List (Int × Alloc)) × Unit)))) (g20_1 : (List Res) → (List (Int × Alloc)) → Option ((List Res) × (((List Res) × (Unit × Unit)) × ((List (Int × Alloc)) × Unit)))) (g21 : (List Res) → (List (Int × Alloc)) → Option ((List Alloc) × (((List Res) × (Unit × Unit)) × ((List (Int × Alloc)) × Unit)))) (g24 : (List Share) → Int → Option Int) (g23 : Res → Int → Option Res) (g22 : Res → Res → Option Res) (g25 : Res → Option Bool) (x : s4.args.den) (h : denH s4.heap) : nrun [⟨13, s13, fun x h => g13 ⟩, ⟨14, s14, fun x h => g14 x.1⟩, ⟨15, s15, fun x h => g15 x.1⟩, ⟨16, s16, fun x h => g16 x.1⟩, ⟨17, s17, fun x h => g17 x.1⟩, ⟨18, s18_1, fun x h => g18_1 x.2.1 h.1.1 h.2.1⟩, ⟨19, s19_1, fun x h => g19_1 x.2.1 h.1.1 h.2.1⟩, ⟨20, s20_1, fun x h => g20_1 h.1.1 h.2.1⟩, ⟨21, s21, fun x h => g21 h.1.1 h.2.1⟩, ⟨24, s24, fun x h => g24 x.1 x.2.1⟩, ⟨23, s23, fun x h => g23 x.1 x.2.1⟩, ⟨22, s22, fun x h => g22 x.1 x.2.1⟩, ⟨25, s25, fun x h => g25 x.1⟩] L n4 s4 x h = F4 L g13 g14 g15 g16 g17 g18_1 g19_1 g20_1 g21 g24 g23 g22 g25 x.1 x.2.1 := by kernel_rfl
def f4 : Spec → (List (Bool × Alloc)) → Option Bool := F4 (@LN LOOPS) f13 f14 f15 f16 f17 f18_1 f19_1 f20_1 f21 f24 f23 f22 f25
@[reducible] def t4 : Ent := ⟨4, s4, fun x h => f4 x.1 x.2.1⟩
theorem k4 : chkNF Try.prog Try.f4 n4 = true := by kernel_rfl
theorem ok4 : NOk Try.prog t4 := NOk.body (T := [t13, t14, t15, t16, t17, t18_1, t19_1, t20_1, t21, t24, t23, t22, t25]) mixed (nall_cons ok13 (nall_cons ok14 (nall_cons ok15 (nall_cons ok16 (nall_cons ok17 (nall_cons ok18_1 (nall_cons ok19_1 (nall_cons ok20_1 (nall_cons ok21 (nall_cons ok24 (nall_cons ok23 (nall_cons ok22 (nall_cons ok25 nall_nil))))))))))))) (oneEach_of (by kernel_rfl)) Try.func4 k4 (by kernel_rfl) (fun x h => e4 _ _ _ _ _ _ _ _ _ _ _ _ _ _ x h)
end NM
end Go.Proofs.Ytfelhbeiegppgaa
end
