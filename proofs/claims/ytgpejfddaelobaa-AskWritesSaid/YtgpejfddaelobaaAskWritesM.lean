/-
  The plain forms of the functions that the statement reaches, and that each is its function's body. (Written by program.)
-/
import Derived.Test.YtgpejfddaelobaaNmX
import Derived.Test.YtgpejfddaelobaaProg
import Derived.ProofKit
set_option linter.unusedVariables false
set_option maxRecDepth 100000
set_option maxHeartbeats 4000000
namespace Go.Proofs.Ytgpejfddaelobaa
namespace NM
open AM Go.RowKit
theorem mixed : Try.prog.follows .mixedOrders = true := by kernel_rfl
/- drayage/ask.exists -/
def n79 : NFunc := ⟨9, .seq (.region 0 [
    ⟨(some 2), .move (.const (.bool false)), none, 0, none⟩] []) (.seq (.region 0 [
    ⟨(some 3), .move (.tmp 0), none, 0, none⟩,
    ⟨(some 4), .bin .geq (.tmp 3) (.const (.int .i64 (1))), none, 0, none⟩,
    ⟨(some 5), .move (.tmp 4), none, 0, none⟩,
    ⟨(some 6), .move (.tmp 0), (some (5, true)), 0, none⟩,
    ⟨(some 7), .bin .leq (.tmp 6) (.const (.int .i64 (12))), (some (5, true)), 0, none⟩,
    ⟨(some 8), .pick (.tmp 5) (.tmp 7) (.const (.bool false)), none, 0, none⟩,
    ⟨(some 2), .move (.tmp 8), none, 0, none⟩] []) (.ret)), [.tmp 2], true⟩
def s79 : Sig := ⟨(.cons (.v (.int .i64)) .nil), [], ((.v .bool), []), []⟩
def F79 (L : Lp)  (kind0 : Int) : Option Bool :=
  cond (decide (1 ≤ kind0))
    (some (decide (kind0 ≤ 12)))
    (some false)
theorem e79 (L : Lp)  (x : s79.args.den) (h : denH s79.heap) : nrun [] L n79 s79 x h = F79 L  x.1 := by kernel_rfl
def f79 : Int → Option Bool := F79 (@LN LOOPS) 
@[reducible] def t79 : Ent := ⟨79, s79, fun x h => f79 x.1⟩
theorem k79 : chkNF Try.prog Try.f79 n79 = true := by kernel_rfl
theorem ok79 : NOk Try.prog t79 := NOk.body (T := []) mixed nall_nil (oneEach_of (by kernel_rfl)) Try.func79 k79 (by kernel_rfl) (fun x h => e79 _  x h)
/- drayage/ask.afterRight -/
def n80 : NFunc := ⟨30, .seq (.region 0 [
    ⟨(some 4), .move (.const (.bool false)), none, 0, none⟩] []) (.seq (.seq (.region 0 [
    ⟨(some 7), .move (.tmp 0), none, 0, none⟩,
    ⟨(some 8), .bin .neq (.tmp 7) (.const (.int .i64 (1))), none, 0, none⟩] []) (.cond (.tmp 8) (.seq (.region 0 [
    ⟨(some 9), .move (.tmp 1), none, 0, none⟩,
    ⟨(some 10), .len (.tmp 9), none, 0, none⟩,
    ⟨(some 11), .bin .eql (.tmp 10) (.const (.int .i64 (0))), none, 0, none⟩,
    ⟨(some 4), .move (.tmp 11), none, 0, none⟩] []) (.ret)) (.skip))) (.seq (.seq (.region 0 [
    ⟨(some 12), .move (.tmp 1), none, 0, none⟩,
    ⟨(some 13), .len (.tmp 12), none, 0, none⟩,
    ⟨(some 14), .bin .gtr (.tmp 13) (.const (.int .i64 (4))), none, 0, none⟩] []) (.cond (.tmp 14) (.seq (.region 0 [
    ⟨(some 4), .move (.const (.bool false)), none, 0, none⟩] []) (.ret)) (.skip))) (.seq (.seq (.region 0 [
    ⟨(some 15), .move (.tmp 1), none, 0, none⟩,
    ⟨(some 16), .len (.tmp 15), none, 0, none⟩,
    ⟨(some 17), .move (.const (.int .i64 (0))), none, 0, none⟩] []) (.block 0 (.loop [15, 16, 17] ⟨[(17, (.v (.int .i64)))], [15, 16], []⟩ (.seq (.region 0 [
    ⟨(some 18), .bin .lss (.tmp 17) (.tmp 16), none, 0, none⟩] []) (.seq (.cond (.tmp 18) (.skip) (.exit 0)) (.seq (.block 1 (.seq (.region 1 [
    ⟨(some 19), .indexSl 2 (.tmp 15) (.tmp 17), none, 0, none⟩,
    ⟨(some 20), .load true 2 (.tmp 19), none, 0, none⟩,
    ⟨(some 6), .alloc [.int .i64 (0), .bool false], none, 0, none⟩,
    ⟨none, .store 2 (.tmp 6) (.tmp 20), none, 1, none⟩] []) (.seq (.region 0 [
    ⟨(some 21), .fieldAddr 0 (.tmp 6), none, 0, none⟩,
    ⟨(some 22), .load false 1 (.tmp 21), none, 0, none⟩,
    ⟨(some 23), .bin .lss (.tmp 22) (.const (.int .i64 (0))), none, 0, none⟩,
    ⟨(some 24), .move (.tmp 23), none, 0, none⟩,
    ⟨(some 25), .fieldAddr 0 (.tmp 6), (some (24, false)), 0, none⟩,
    ⟨(some 26), .load false 1 (.tmp 25), (some (24, false)), 0, none⟩,
    ⟨(some 27), .bin .gtr (.tmp 26) (.const (.int .i64 (281474976710656))), (some (24, false)), 0, none⟩,
    ⟨(some 28), .pick (.tmp 24) (.const (.bool true)) (.tmp 27), none, 0, none⟩] []) (.cond (.tmp 28) (.seq (.region 0 [
    ⟨(some 4), .move (.const (.bool false)), none, 0, none⟩] []) (.ret)) (.skip))))) (.region 0 [
    ⟨(some 29), .bin .add (.tmp 17) (.const (.int .i64 (1))), none, 0, none⟩,
    ⟨(some 17), .move (.tmp 29), none, 0, none⟩] []))))))) (.seq (.region 0 [
    ⟨(some 4), .move (.const (.bool true)), none, 0, none⟩] []) (.ret))))), [.tmp 4], true⟩
def s80 : Sig := ⟨(.cons (.v (.int .i64)) (.cons (.v (.list .dep)) .nil)), [], ((.v .bool), []), []⟩
def l80_0 (after1 : (List Dep)) (nx3 : ((Int × Unit) × Unit) → Option Bool) (z4 : Int) : Option Bool :=
  cond (decide (z4 < (List.length after1 : Int)))
    (cond (decide (0 ≤ z4))
      (Option.bind (after1[Int.toNat z4]?) fun y5 =>
      cond (decide (y5.job < 0))
        (some false)
        (cond (decide (281474976710656 < y5.job))
          (some false)
          (nx3 ((IntKind.wrap .i64 (z4 + 1), ()), ()))))
      (none))
    (some true)
def F80 (L : Lp)  (kind0 : Int) (after1 : (List Dep)) : Option Bool :=
  cond (!decide (kind0 = 1))
    (some (decide ((List.length after1 : Int) = 0)))
    (cond (decide (4 < (List.length after1 : Int)))
      (some false)
      (L (fun (s2 : ((Int × Unit) × Unit)) nx3 => l80_0 after1 nx3 s2.1.1) ((0, ()), ())))
theorem e80 (L : Lp)  (x : s80.args.den) (h : denH s80.heap) : nrun [] L n80 s80 x h = F80 L  x.1 x.2.1 := by kernel_rfl
def f80 : Int → (List Dep) → Option Bool := F80 (@LN LOOPS) 
@[reducible] def t80 : Ent := ⟨80, s80, fun x h => f80 x.1 x.2.1⟩
theorem k80 : chkNF Try.prog Try.f80 n80 = true := by kernel_rfl
theorem ok80 : NOk Try.prog t80 := NOk.body (T := []) mixed nall_nil (oneEach_of (by kernel_rfl)) Try.func80 k80 (by kernel_rfl) (fun x h => e80 _  x h)
/- drayage/ask.numbers -/
def n66 : NFunc := ⟨120, .split 0 0 13 (.seq (.region 0 [
    ⟨(some 2), .move (.const (.zsl)), none, 0, none⟩] []) (.seq (.region 0 [
    ⟨(some 3), .move (.const (.zsl)), none, 0, none⟩] []) (.seq (.seq (.region 0 [
    ⟨(some 4), .move (.tmp 0), none, 0, none⟩,
    ⟨(some 5), .nilCheck (.tmp 4), none, 0, none⟩,
    ⟨(some 6), .fieldAddr 0 (.tmp 5), none, 0, none⟩,
    ⟨(some 7), .load false 1 (.tmp 6), none, 0, none⟩] []) (.block 0 (.seq (.seq (.region 0 [
    ⟨(some 9), .bin .eql (.tmp 7) (.const (.int .i64 (2))), none, 0, none⟩,
    ⟨(some 8), .move (.tmp 9), none, 0, none⟩] []) (.cond (.tmp 8) (.skip) (.seq (.region 0 [
    ⟨(some 10), .bin .eql (.tmp 7) (.const (.int .i64 (3))), none, 0, none⟩,
    ⟨(some 8), .move (.tmp 10), none, 0, none⟩] []) (.cond (.tmp 8) (.skip) (.seq (.region 0 [
    ⟨(some 11), .bin .eql (.tmp 7) (.const (.int .i64 (4))), none, 0, none⟩,
    ⟨(some 8), .move (.tmp 11), none, 0, none⟩] []) (.cond (.tmp 8) (.skip) (.seq (.region 0 [
    ⟨(some 12), .bin .eql (.tmp 7) (.const (.int .i64 (5))), none, 0, none⟩,
    ⟨(some 8), .move (.tmp 12), none, 0, none⟩] []) (.cond (.tmp 8) (.skip) (.seq (.region 0 [
    ⟨(some 13), .bin .eql (.tmp 7) (.const (.int .i64 (6))), none, 0, none⟩,
    ⟨(some 8), .move (.tmp 13), none, 0, none⟩] []) (.cond (.tmp 8) (.skip) (.region 0 [
    ⟨(some 14), .bin .eql (.tmp 7) (.const (.int .i64 (7))), none, 0, none⟩,
    ⟨(some 8), .move (.tmp 14), none, 0, none⟩] []))))))))))) (.cond (.tmp 8) (.region 2 [
    ⟨(some 15), .move (.tmp 3), none, 0, (some ([], none))⟩,
    ⟨(some 16), .move (.tmp 0), none, 0, (some ([], none))⟩,
    ⟨(some 17), .nilCheck (.tmp 16), none, 0, (some ([], none))⟩,
    ⟨(some 18), .fieldAddr 2 (.tmp 17), none, 0, (some ([], none))⟩,
    ⟨(some 19), .move (.tmp 0), none, 0, (some ([], none))⟩,
    ⟨(some 20), .nilCheck (.tmp 19), none, 0, (some ([], none))⟩,
    ⟨(some 21), .fieldAddr 3 (.tmp 20), none, 0, (some ([], none))⟩,
    ⟨(some 22), .buildSlice 1 2 false [.nilp] [(0, (.tmp 18)), (1, (.tmp 21))], none, 0, (some ([], none))⟩,
    ⟨(some 23), .append 1 8 false (.tmp 15) (.tmp 22), none, 1, (some ([0], none))⟩,
    ⟨(some 3), .move (.tmp 23), none, 2, (some ([0, 1], none))⟩] []) (.seq (.region 0 [
    ⟨(some 25), .bin .eql (.tmp 7) (.const (.int .i64 (8))), none, 0, none⟩,
    ⟨(some 24), .move (.tmp 25), none, 0, none⟩] []) (.cond (.tmp 24) (.region 2 [
    ⟨(some 26), .move (.tmp 3), none, 0, none⟩,
    ⟨(some 27), .move (.tmp 0), none, 0, none⟩,
    ⟨(some 28), .nilCheck (.tmp 27), none, 0, none⟩,
    ⟨(some 29), .fieldAddr 2 (.tmp 28), none, 0, none⟩,
    ⟨(some 30), .buildSlice 1 1 false [.nilp] [(0, (.tmp 29))], none, 0, none⟩,
    ⟨(some 31), .append 1 8 false (.tmp 26) (.tmp 30), none, 1, none⟩,
    ⟨(some 3), .move (.tmp 31), none, 2, none⟩] []) (.seq (.region 0 [
    ⟨(some 33), .bin .eql (.tmp 7) (.const (.int .i64 (11))), none, 0, none⟩,
    ⟨(some 32), .move (.tmp 33), none, 0, none⟩] []) (.cond (.tmp 32) (.region 2 [
    ⟨(some 34), .move (.tmp 3), none, 0, (some ([], none))⟩,
    ⟨(some 35), .move (.tmp 0), none, 0, (some ([], none))⟩,
    ⟨(some 36), .nilCheck (.tmp 35), none, 0, (some ([], none))⟩,
    ⟨(some 37), .fieldAddr 13 (.tmp 36), none, 0, (some ([], none))⟩,
    ⟨(some 38), .move (.tmp 0), none, 0, (some ([], none))⟩,
    ⟨(some 39), .nilCheck (.tmp 38), none, 0, (some ([], none))⟩,
    ⟨(some 40), .fieldAddr 14 (.tmp 39), none, 0, (some ([], none))⟩,
    ⟨(some 41), .move (.tmp 0), none, 0, (some ([], none))⟩,
    ⟨(some 42), .nilCheck (.tmp 41), none, 0, (some ([], none))⟩,
    ⟨(some 43), .fieldAddr 15 (.tmp 42), none, 0, (some ([], none))⟩,
    ⟨(some 44), .buildSlice 1 3 false [.nilp] [(0, (.tmp 37)), (1, (.tmp 40)), (2, (.tmp 43))], none, 0, (some ([], none))⟩,
    ⟨(some 45), .append 1 8 false (.tmp 34) (.tmp 44), none, 1, (some ([0], none))⟩,
    ⟨(some 3), .move (.tmp 45), none, 2, (some ([0, 1], none))⟩] []) (.seq (.region 0 [
    ⟨(some 47), .bin .eql (.tmp 7) (.const (.int .i64 (12))), none, 0, none⟩,
    ⟨(some 46), .move (.tmp 47), none, 0, none⟩] []) (.cond (.tmp 46) (.region 2 [
    ⟨(some 48), .move (.tmp 3), none, 0, none⟩,
    ⟨(some 49), .move (.tmp 0), none, 0, none⟩,
    ⟨(some 50), .nilCheck (.tmp 49), none, 0, none⟩,
    ⟨(some 51), .fieldAddr 16 (.tmp 50), none, 0, none⟩,
    ⟨(some 52), .buildSlice 1 1 false [.nilp] [(0, (.tmp 51))], none, 0, none⟩,
    ⟨(some 53), .append 1 8 false (.tmp 48) (.tmp 52), none, 1, none⟩,
    ⟨(some 3), .move (.tmp 53), none, 2, none⟩] []) (.skip))))))))))) (.seq (.seq (.region 0 [
    ⟨(some 54), .move (.tmp 0), none, 0, none⟩,
    ⟨(some 55), .nilCheck (.tmp 54), none, 0, none⟩,
    ⟨(some 56), .fieldAddr 0 (.tmp 55), none, 0, none⟩,
    ⟨(some 57), .load false 1 (.tmp 56), none, 0, none⟩] []) (.block 1 (.seq (.block 4 (.seq (.block 3 (.seq (.block 2 (.seq (.seq (.seq (.region 0 [
    ⟨(some 59), .bin .eql (.tmp 57) (.const (.int .i64 (1))), none, 0, none⟩,
    ⟨(some 58), .move (.tmp 59), none, 0, none⟩] []) (.cond (.tmp 58) (.exit 2) (.skip))) (.seq (.seq (.region 0 [
    ⟨(some 61), .bin .eql (.tmp 57) (.const (.int .i64 (2))), none, 0, none⟩,
    ⟨(some 60), .move (.tmp 61), none, 0, none⟩] []) (.cond (.tmp 60) (.exit 3) (.skip))) (.seq (.seq (.region 0 [
    ⟨(some 63), .bin .eql (.tmp 57) (.const (.int .i64 (7))), none, 0, none⟩,
    ⟨(some 62), .move (.tmp 63), none, 0, none⟩] []) (.cond (.tmp 62) (.skip) (.region 0 [
    ⟨(some 64), .bin .eql (.tmp 57) (.const (.int .i64 (9))), none, 0, none⟩,
    ⟨(some 62), .move (.tmp 64), none, 0, none⟩] []))) (.cond (.tmp 62) (.exit 4) (.skip))))) (.exit 1))) (.region 2 [
    ⟨(some 65), .move (.tmp 3), none, 0, none⟩,
    ⟨(some 66), .move (.tmp 0), none, 0, none⟩,
    ⟨(some 67), .nilCheck (.tmp 66), none, 0, none⟩,
    ⟨(some 68), .fieldAddr 4 (.tmp 67), none, 0, none⟩,
    ⟨(some 69), .buildSlice 1 1 false [.nilp] [(0, (.tmp 68))], none, 0, none⟩,
    ⟨(some 70), .append 1 8 false (.tmp 65) (.tmp 69), none, 1, none⟩,
    ⟨(some 3), .move (.tmp 70), none, 2, none⟩] []))) (.seq (.seq (.region 2 [
    ⟨(some 71), .move (.tmp 3), none, 0, none⟩,
    ⟨(some 72), .move (.tmp 0), none, 0, none⟩,
    ⟨(some 73), .nilCheck (.tmp 72), none, 0, none⟩,
    ⟨(some 74), .fieldAddr 5 (.tmp 73), none, 0, none⟩,
    ⟨(some 75), .buildSlice 1 1 false [.nilp] [(0, (.tmp 74))], none, 0, none⟩,
    ⟨(some 76), .append 1 8 false (.tmp 71) (.tmp 75), none, 1, none⟩,
    ⟨(some 3), .move (.tmp 76), none, 2, none⟩] []) (.seq (.region 2 [
    ⟨(some 77), .move (.tmp 3), none, 0, (some ([], none))⟩,
    ⟨(some 78), .move (.tmp 0), none, 0, (some ([], none))⟩,
    ⟨(some 79), .nilCheck (.tmp 78), none, 0, (some ([], none))⟩,
    ⟨(some 80), .fieldAddr 6 (.tmp 79), none, 0, (some ([], none))⟩,
    ⟨(some 81), .fieldAddr 0 (.tmp 80), none, 0, (some ([], none))⟩,
    ⟨(some 82), .move (.tmp 0), none, 0, (some ([], none))⟩,
    ⟨(some 83), .nilCheck (.tmp 82), none, 0, (some ([], none))⟩,
    ⟨(some 84), .fieldAddr 6 (.tmp 83), none, 0, (some ([], none))⟩,
    ⟨(some 85), .fieldAddr 1 (.tmp 84), none, 0, (some ([], none))⟩,
    ⟨(some 86), .move (.tmp 0), none, 0, (some ([], none))⟩,
    ⟨(some 87), .nilCheck (.tmp 86), none, 0, (some ([], none))⟩,
    ⟨(some 88), .fieldAddr 6 (.tmp 87), none, 0, (some ([], none))⟩,
    ⟨(some 89), .fieldAddr 2 (.tmp 88), none, 0, (some ([], none))⟩,
    ⟨(some 90), .move (.tmp 0), none, 0, (some ([], none))⟩,
    ⟨(some 91), .nilCheck (.tmp 90), none, 0, (some ([], none))⟩,
    ⟨(some 92), .fieldAddr 6 (.tmp 91), none, 0, (some ([], none))⟩,
    ⟨(some 93), .fieldAddr 3 (.tmp 92), none, 0, (some ([], none))⟩,
    ⟨(some 94), .buildSlice 1 4 false [.nilp] [(0, (.tmp 81)), (1, (.tmp 85)), (2, (.tmp 89)), (3, (.tmp 93))], none, 0, (some ([], none))⟩,
    ⟨(some 95), .append 1 8 false (.tmp 77) (.tmp 94), none, 1, (some ([0], none))⟩,
    ⟨(some 3), .move (.tmp 95), none, 2, (some ([0, 1], none))⟩] []) (.region 2 [
    ⟨(some 96), .move (.tmp 3), none, 0, none⟩,
    ⟨(some 97), .move (.tmp 0), none, 0, none⟩,
    ⟨(some 98), .nilCheck (.tmp 97), none, 0, none⟩,
    ⟨(some 99), .fieldAddr 10 (.tmp 98), none, 0, none⟩,
    ⟨(some 100), .buildSlice 1 1 false [.nilp] [(0, (.tmp 99))], none, 0, none⟩,
    ⟨(some 101), .append 1 8 false (.tmp 96) (.tmp 100), none, 1, none⟩,
    ⟨(some 3), .move (.tmp 101), none, 2, none⟩] []))) (.exit 1)))) (.seq (.region 2 [
    ⟨(some 102), .move (.tmp 3), none, 0, none⟩,
    ⟨(some 103), .move (.tmp 0), none, 0, none⟩,
    ⟨(some 104), .nilCheck (.tmp 103), none, 0, none⟩,
    ⟨(some 105), .fieldAddr 4 (.tmp 104), none, 0, none⟩,
    ⟨(some 106), .buildSlice 1 1 false [.nilp] [(0, (.tmp 105))], none, 0, none⟩,
    ⟨(some 107), .append 1 8 false (.tmp 102) (.tmp 106), none, 1, none⟩,
    ⟨(some 3), .move (.tmp 107), none, 2, none⟩] []) (.exit 1))))) (.seq (.seq (.region 0 [
    ⟨(some 108), .move (.tmp 0), none, 0, none⟩,
    ⟨(some 109), .nilCheck (.tmp 108), none, 0, none⟩,
    ⟨(some 110), .fieldAddr 0 (.tmp 109), none, 0, none⟩,
    ⟨(some 111), .load false 1 (.tmp 110), none, 0, none⟩,
    ⟨(some 112), .bin .eql (.tmp 111) (.const (.int .i64 (1))), none, 0, none⟩] []) (.cond (.tmp 112) (.region 2 [
    ⟨(some 113), .move (.tmp 3), none, 0, none⟩,
    ⟨(some 114), .move (.tmp 0), none, 0, none⟩,
    ⟨(some 115), .nilCheck (.tmp 114), none, 0, none⟩,
    ⟨(some 116), .fieldAddr 11 (.tmp 115), none, 0, none⟩,
    ⟨(some 117), .buildSlice 1 1 false [.nilp] [(0, (.tmp 116))], none, 0, none⟩,
    ⟨(some 118), .append 1 8 false (.tmp 113) (.tmp 117), none, 1, none⟩,
    ⟨(some 3), .move (.tmp 118), none, 2, none⟩] []) (.skip))) (.seq (.region 0 [
    ⟨(some 119), .move (.tmp 3), none, 0, none⟩,
    ⟨(some 2), .move (.tmp 119), none, 0, none⟩] []) (.ret))))))), [.tmp 2], false⟩
def s66 : Sig := ⟨(.cons (.ptr 0 0 0) .nil), [.one false .request], ((.slw 1 1), [.one false .request, .many 1 (.cons (.cons (.ptr 0 0 13) .nil) (.cons (.cons (.ptr 0 0 14) .nil) (.cons (.cons (.ptr 0 0 15) .nil) .nil)))]), [(.zsl, [.one false .request]), ((.slw 1 1), [.one false .request, .cell false (.cons (.ptr 0 0 4) .nil)]), ((.slw 1 1), [.one false .request, .cell false (.cons (.ptr 0 0 2) .nil)]), ((.slw 1 1), [.one false .request, .many 1 (.cons (.cons (.ptr 0 0 2) .nil) (.cons (.cons (.ptr 0 0 3) .nil) (.cons (.cons (.ptr 0 0 4) .nil) .nil)))]), ((.slw 1 1), [.one false .request, .many 1 (.cons (.cons (.ptr 0 0 2) .nil) (.cons (.cons (.ptr 0 0 3) .nil) .nil))]), ((.slw 1 1), [.one false .request, .many 1 (.cons (.cons (.ptr 0 0 2) .nil) (.cons (.cons (.ptr 0 0 3) .nil) (.cons (.cons (.ptr 0 0 5) .nil) (.cons (.cons (.ptr 0 0 6) .nil) (.cons (.cons (.ptr 0 0 7) .nil) (.cons (.cons (.ptr 0 0 8) .nil) (.cons (.cons (.ptr 0 0 9) .nil) (.cons (.cons (.ptr 0 0 10) .nil) .nil))))))))]), ((.slw 1 1), [.one false .request, .many 1 (.cons (.cons (.ptr 0 0 4) .nil) (.cons (.cons (.ptr 0 0 5) .nil) (.cons (.cons (.ptr 0 0 6) .nil) (.cons (.cons (.ptr 0 0 7) .nil) (.cons (.cons (.ptr 0 0 8) .nil) (.cons (.cons (.ptr 0 0 9) .nil) (.cons (.cons (.ptr 0 0 10) .nil) (.cons (.cons (.ptr 0 0 11) .nil) .nil))))))))]), ((.slw 1 1), [.one false .request, .cell false (.cons (.ptr 0 0 16) .nil)])]⟩
@[reducible] def y66 : Type := ((Unit × (Request × (((Unit × Unit) × ((Unit × Unit) × ((Unit × Unit) × Unit))) × Unit))) ⊕ ((Unit × (Request × Unit)) ⊕ ((Unit × (Request × ((Unit × Unit) × Unit))) ⊕ ((Unit × (Request × ((Unit × Unit) × Unit))) ⊕ ((Unit × (Request × (((Unit × Unit) × ((Unit × Unit) × ((Unit × Unit) × Unit))) × Unit))) ⊕ ((Unit × (Request × (((Unit × Unit) × ((Unit × Unit) × Unit)) × Unit))) ⊕ ((Unit × (Request × (((Unit × Unit) × ((Unit × Unit) × ((Unit × Unit) × ((Unit × Unit) × ((Unit × Unit) × ((Unit × Unit) × ((Unit × Unit) × ((Unit × Unit) × Unit)))))))) × Unit))) ⊕ ((Unit × (Request × (((Unit × Unit) × ((Unit × Unit) × ((Unit × Unit) × ((Unit × Unit) × ((Unit × Unit) × ((Unit × Unit) × ((Unit × Unit) × ((Unit × Unit) × Unit)))))))) × Unit))) ⊕ (Unit × (Request × ((Unit × Unit) × Unit)))))))))))
def F66 (L : Lp)  (a0 : Request) : Option y66 :=
  cond (decide (a0.kind = 12))
    (some (.inr (.inr (.inr (.inr (.inr (.inr (.inr (.inr ((), (Request.mk 12 a0.key a0.job a0.version a0.queue a0.many a0.need a0.wall a0.tasks a0.after a0.node a0.fro a0.to a0.id, ((), ()), ())))))))))))
    (cond (decide (a0.kind = 11))
      (some (.inl ((), (Request.mk 11 a0.key a0.job a0.version a0.queue a0.many a0.need a0.wall a0.tasks a0.after a0.node a0.fro a0.to a0.id, (((), ()), (((), ()), (((), ()), ()))), ()))))
      (cond (decide (a0.kind = 10))
        (some (.inr (.inl ((), (Request.mk 10 a0.key a0.job a0.version a0.queue a0.many a0.need a0.wall a0.tasks a0.after a0.node a0.fro a0.to a0.id, ())))))
        (cond (decide (a0.kind = 9))
          (some (.inr (.inr (.inl ((), (Request.mk 9 a0.key a0.job a0.version a0.queue a0.many a0.need a0.wall a0.tasks a0.after a0.node a0.fro a0.to a0.id, ((), ()), ()))))))
          (cond (decide (a0.kind = 8))
            (some (.inr (.inr (.inr (.inl ((), (Request.mk 8 a0.key a0.job a0.version a0.queue a0.many a0.need a0.wall a0.tasks a0.after a0.node a0.fro a0.to a0.id, ((), ()), ())))))))
            (cond (decide (a0.kind = 7))
              (some (.inr (.inr (.inr (.inr (.inl ((), (Request.mk 7 a0.key a0.job a0.version a0.queue a0.many a0.need a0.wall a0.tasks a0.after a0.node a0.fro a0.to a0.id, (((), ()), (((), ()), (((), ()), ()))), ()))))))))
              (cond (decide (a0.kind = 6))
                (some (.inr (.inr (.inr (.inr (.inr (.inl ((), (Request.mk 6 a0.key a0.job a0.version a0.queue a0.many a0.need a0.wall a0.tasks a0.after a0.node a0.fro a0.to a0.id, (((), ()), (((), ()), ())), ())))))))))
                (cond (decide (a0.kind = 5))
                  (some (.inr (.inr (.inr (.inr (.inr (.inl ((), (Request.mk 5 a0.key a0.job a0.version a0.queue a0.many a0.need a0.wall a0.tasks a0.after a0.node a0.fro a0.to a0.id, (((), ()), (((), ()), ())), ())))))))))
                  (cond (decide (a0.kind = 4))
                    (some (.inr (.inr (.inr (.inr (.inr (.inl ((), (Request.mk 4 a0.key a0.job a0.version a0.queue a0.many a0.need a0.wall a0.tasks a0.after a0.node a0.fro a0.to a0.id, (((), ()), (((), ()), ())), ())))))))))
                    (cond (decide (a0.kind = 3))
                      (some (.inr (.inr (.inr (.inr (.inr (.inl ((), (Request.mk 3 a0.key a0.job a0.version a0.queue a0.many a0.need a0.wall a0.tasks a0.after a0.node a0.fro a0.to a0.id, (((), ()), (((), ()), ())), ())))))))))
                      (cond (decide (a0.kind = 2))
                        (some (.inr (.inr (.inr (.inr (.inr (.inr (.inl ((), (Request.mk 2 a0.key a0.job a0.version a0.queue a0.many a0.need a0.wall a0.tasks a0.after a0.node a0.fro a0.to a0.id, (((), ()), (((), ()), (((), ()), (((), ()), (((), ()), (((), ()), (((), ()), (((), ()), ())))))))), ()))))))))))
                        (cond (decide (a0.kind = 1))
                          (some (.inr (.inr (.inr (.inr (.inr (.inr (.inr (.inl ((), (Request.mk 1 a0.key a0.job a0.version a0.queue a0.many a0.need a0.wall a0.tasks a0.after a0.node a0.fro a0.to a0.id, (((), ()), (((), ()), (((), ()), (((), ()), (((), ()), (((), ()), (((), ()), (((), ()), ())))))))), ())))))))))))
                          (cond (decide (a0.kind = 0))
                            (some (.inr (.inl ((), (Request.mk 0 a0.key a0.job a0.version a0.queue a0.many a0.need a0.wall a0.tasks a0.after a0.node a0.fro a0.to a0.id, ())))))
                            (none)))))))))))))
theorem e66 (L : Lp)  (x : s66.args.den) (h : denH s66.heap) : nrun [] L n66 s66 x h = F66 L  h.1 := by kernel_rfl
def f66 : Request → Option y66 := F66 (@LN LOOPS) 
@[reducible] def t66 : Ent := ⟨66, s66, fun x h => f66 h.1⟩
theorem k66 : chkNF Try.prog Try.f66 n66 = true := by kernel_rfl
theorem ok66 : NOk Try.prog t66 := NOk.body (T := []) mixed nall_nil (oneEach_of (by kernel_rfl)) Try.func66 k66 (by kernel_rfl) (fun x h => e66 _  x h)
/- slices.Equal[[]drayage/api.Dep,drayage/api.Dep] -/
def n64 : NFunc := ⟨26, .seq (.region 0 [
    ⟨(some 4), .move (.const (.bool false)), none, 0, none⟩] []) (.seq (.seq (.region 0 [
    ⟨(some 6), .move (.tmp 0), none, 0, none⟩,
    ⟨(some 7), .len (.tmp 6), none, 0, none⟩,
    ⟨(some 8), .move (.tmp 1), none, 0, none⟩,
    ⟨(some 9), .len (.tmp 8), none, 0, none⟩,
    ⟨(some 10), .bin .neq (.tmp 7) (.tmp 9), none, 0, none⟩] []) (.cond (.tmp 10) (.seq (.region 0 [
    ⟨(some 4), .move (.const (.bool false)), none, 0, none⟩] []) (.ret)) (.skip))) (.seq (.seq (.region 0 [
    ⟨(some 11), .move (.tmp 0), none, 0, none⟩,
    ⟨(some 12), .len (.tmp 11), none, 0, none⟩,
    ⟨(some 13), .move (.const (.int .i64 (0))), none, 0, none⟩] []) (.block 0 (.loop [0, 1, 12, 13] ⟨[(13, (.v (.int .i64)))], [0, 1, 12], []⟩ (.seq (.region 0 [
    ⟨(some 14), .bin .lss (.tmp 13) (.tmp 12), none, 0, none⟩] []) (.seq (.cond (.tmp 14) (.skip) (.exit 0)) (.seq (.block 1 (.seq (.region 0 [
    ⟨(some 15), .move (.tmp 13), none, 0, none⟩,
    ⟨(some 5), .move (.tmp 15), none, 0, none⟩] []) (.seq (.region 0 [
    ⟨(some 16), .move (.tmp 0), none, 0, (some ([], none))⟩,
    ⟨(some 17), .move (.tmp 5), none, 0, (some ([], none))⟩,
    ⟨(some 18), .indexSl 2 (.tmp 16) (.tmp 17), none, 0, (some ([], none))⟩,
    ⟨(some 19), .load true 2 (.tmp 18), none, 0, (some ([], none))⟩,
    ⟨(some 20), .move (.tmp 1), none, 0, (some ([], none))⟩,
    ⟨(some 21), .move (.tmp 5), none, 0, (some ([], none))⟩,
    ⟨(some 22), .indexSl 2 (.tmp 20) (.tmp 21), none, 0, (some ([], none))⟩,
    ⟨(some 23), .load true 2 (.tmp 22), none, 0, (some ([], none))⟩,
    ⟨(some 24), .eqAgg (true, [.int .i64, .bool]) (.tmp 19) (.tmp 23), none, 0, (some ([], none))⟩] []) (.cond (.tmp 24) (.seq (.region 0 [
    ⟨(some 4), .move (.const (.bool false)), none, 0, none⟩] []) (.ret)) (.skip))))) (.region 0 [
    ⟨(some 25), .bin .add (.tmp 13) (.const (.int .i64 (1))), none, 0, none⟩,
    ⟨(some 13), .move (.tmp 25), none, 0, none⟩] []))))))) (.seq (.region 0 [
    ⟨(some 4), .move (.const (.bool true)), none, 0, none⟩] []) (.ret)))), [.tmp 4], false⟩
def s64 : Sig := ⟨(.cons (.v (.list .dep)) (.cons (.v (.list .dep)) .nil)), [], ((.v .bool), []), []⟩
def l64_0 (as0 : (List Dep)) (as1 : (List Dep)) (nx3 : ((Int × Unit) × Unit) → Option Bool) (z4 : Int) : Option Bool :=
  cond (decide (z4 < (List.length as0 : Int)))
    (cond (decide (0 ≤ z4))
      (Option.bind (as0[Int.toNat z4]?) fun y5 =>
      cond (decide (0 ≤ z4))
        (Option.bind (as1[Int.toNat z4]?) fun y6 =>
        cond (!((decide (y5.job = y6.job)) && ((y5.ok == y6.ok) && true)))
          (some false)
          (nx3 ((IntKind.wrap .i64 (z4 + 1), ()), ())))
        (none))
      (none))
    (some true)
def F64 (L : Lp)  (as0 : (List Dep)) (as1 : (List Dep)) : Option Bool :=
  cond (!decide ((List.length as0 : Int) = (List.length as1 : Int)))
    (some false)
    (L (fun (s2 : ((Int × Unit) × Unit)) nx3 => l64_0 as0 as1 nx3 s2.1.1) ((0, ()), ()))
theorem e64 (L : Lp)  (x : s64.args.den) (h : denH s64.heap) : nrun [] L n64 s64 x h = F64 L  x.1 x.2.1 := by kernel_rfl
def f64 : (List Dep) → (List Dep) → Option Bool := F64 (@LN LOOPS) 
@[reducible] def t64 : Ent := ⟨64, s64, fun x h => f64 x.1 x.2.1⟩
theorem k64 : chkNF Try.prog Try.f64 n64 = true := by kernel_rfl
theorem ok64 : NOk Try.prog t64 := NOk.body (T := []) mixed nall_nil (oneEach_of (by kernel_rfl)) Try.func64 k64 (by kernel_rfl) (fun x h => e64 _  x h)
/- drayage/ask.Same -/
def n14 : NFunc := ⟨101, .seq (.region 2 [
    ⟨(some 2), .box 17 (.tmp 0), none, 0, none⟩,
    ⟨(some 3), .box 17 (.tmp 1), none, 1, none⟩,
    ⟨(some 4), .move (.const (.bool false)), none, 2, none⟩] []) (.seq (.region 4 [
    ⟨(some 5), .fieldAddr 0 (.tmp 2), none, 0, none⟩,
    ⟨(some 6), .load false 1 (.tmp 5), none, 0, none⟩,
    ⟨(some 7), .fieldAddr 0 (.tmp 3), none, 0, none⟩,
    ⟨(some 8), .load false 1 (.tmp 7), none, 0, none⟩,
    ⟨(some 9), .bin .eql (.tmp 6) (.tmp 8), none, 0, none⟩,
    ⟨(some 10), .move (.tmp 9), none, 0, none⟩,
    ⟨(some 11), .fieldAddr 1 (.tmp 2), (some (10, true)), 0, none⟩,
    ⟨(some 12), .load false 1 (.tmp 11), (some (10, true)), 0, none⟩,
    ⟨(some 13), .fieldAddr 1 (.tmp 3), (some (10, true)), 0, none⟩,
    ⟨(some 14), .load false 1 (.tmp 13), (some (10, true)), 0, none⟩,
    ⟨(some 15), .bin .eql (.tmp 12) (.tmp 14), (some (10, true)), 0, none⟩,
    ⟨(some 16), .pick (.tmp 10) (.tmp 15) (.const (.bool false)), none, 0, none⟩,
    ⟨(some 17), .move (.tmp 16), none, 0, none⟩,
    ⟨(some 18), .fieldAddr 2 (.tmp 2), (some (17, true)), 0, none⟩,
    ⟨(some 19), .load false 1 (.tmp 18), (some (17, true)), 0, none⟩,
    ⟨(some 20), .fieldAddr 2 (.tmp 3), (some (17, true)), 0, none⟩,
    ⟨(some 21), .load false 1 (.tmp 20), (some (17, true)), 0, none⟩,
    ⟨(some 22), .bin .eql (.tmp 19) (.tmp 21), (some (17, true)), 0, none⟩,
    ⟨(some 23), .pick (.tmp 17) (.tmp 22) (.const (.bool false)), none, 0, none⟩,
    ⟨(some 24), .move (.tmp 23), none, 0, none⟩,
    ⟨(some 25), .fieldAddr 3 (.tmp 2), (some (24, true)), 0, none⟩,
    ⟨(some 26), .load false 1 (.tmp 25), (some (24, true)), 0, none⟩,
    ⟨(some 27), .fieldAddr 3 (.tmp 3), (some (24, true)), 0, none⟩,
    ⟨(some 28), .load false 1 (.tmp 27), (some (24, true)), 0, none⟩,
    ⟨(some 29), .bin .eql (.tmp 26) (.tmp 28), (some (24, true)), 0, none⟩,
    ⟨(some 30), .pick (.tmp 24) (.tmp 29) (.const (.bool false)), none, 0, none⟩,
    ⟨(some 31), .move (.tmp 30), none, 0, none⟩,
    ⟨(some 32), .fieldAddr 4 (.tmp 2), (some (31, true)), 0, none⟩,
    ⟨(some 33), .load false 1 (.tmp 32), (some (31, true)), 0, none⟩,
    ⟨(some 34), .fieldAddr 4 (.tmp 3), (some (31, true)), 0, none⟩,
    ⟨(some 35), .load false 1 (.tmp 34), (some (31, true)), 0, none⟩,
    ⟨(some 36), .bin .eql (.tmp 33) (.tmp 35), (some (31, true)), 0, none⟩,
    ⟨(some 37), .pick (.tmp 31) (.tmp 36) (.const (.bool false)), none, 0, none⟩,
    ⟨(some 38), .move (.tmp 37), none, 0, none⟩,
    ⟨(some 39), .fieldAddr 5 (.tmp 2), (some (38, true)), 0, none⟩,
    ⟨(some 40), .load false 1 (.tmp 39), (some (38, true)), 0, none⟩,
    ⟨(some 41), .fieldAddr 5 (.tmp 3), (some (38, true)), 0, none⟩,
    ⟨(some 42), .load false 1 (.tmp 41), (some (38, true)), 0, none⟩,
    ⟨(some 43), .bin .eql (.tmp 40) (.tmp 42), (some (38, true)), 0, none⟩,
    ⟨(some 44), .pick (.tmp 38) (.tmp 43) (.const (.bool false)), none, 0, none⟩,
    ⟨(some 45), .move (.tmp 44), none, 0, none⟩,
    ⟨(some 46), .fieldAddr 6 (.tmp 2), (some (45, true)), 0, none⟩,
    ⟨(some 47), .load true 4 (.tmp 46), (some (45, true)), 0, none⟩,
    ⟨(some 48), .fieldAddr 6 (.tmp 3), (some (45, true)), 0, none⟩,
    ⟨(some 49), .load true 4 (.tmp 48), (some (45, true)), 0, none⟩,
    ⟨(some 50), .eqAgg (false, [.int .i64, .int .i64, .int .i64, .int .i64]) (.tmp 47) (.tmp 49), (some (45, true)), 0, none⟩,
    ⟨(some 51), .pick (.tmp 45) (.tmp 50) (.const (.bool false)), none, 0, none⟩,
    ⟨(some 52), .move (.tmp 51), none, 0, none⟩,
    ⟨(some 53), .fieldAddr 10 (.tmp 2), (some (52, true)), 0, none⟩,
    ⟨(some 54), .load false 1 (.tmp 53), (some (52, true)), 0, none⟩,
    ⟨(some 55), .fieldAddr 10 (.tmp 3), (some (52, true)), 0, none⟩,
    ⟨(some 56), .load false 1 (.tmp 55), (some (52, true)), 0, none⟩,
    ⟨(some 57), .bin .eql (.tmp 54) (.tmp 56), (some (52, true)), 0, none⟩,
    ⟨(some 58), .pick (.tmp 52) (.tmp 57) (.const (.bool false)), none, 0, none⟩,
    ⟨(some 59), .move (.tmp 58), none, 0, none⟩,
    ⟨(some 60), .fieldAddr 11 (.tmp 2), (some (59, true)), 0, none⟩,
    ⟨(some 61), .load false 1 (.tmp 60), (some (59, true)), 0, none⟩,
    ⟨(some 62), .fieldAddr 11 (.tmp 3), (some (59, true)), 0, none⟩,
    ⟨(some 63), .load false 1 (.tmp 62), (some (59, true)), 0, none⟩,
    ⟨(some 64), .bin .eql (.tmp 61) (.tmp 63), (some (59, true)), 0, none⟩,
    ⟨(some 65), .pick (.tmp 59) (.tmp 64) (.const (.bool false)), none, 0, none⟩,
    ⟨(some 66), .move (.tmp 65), none, 0, none⟩,
    ⟨(some 67), .fieldAddr 12 (.tmp 2), (some (66, true)), 0, none⟩,
    ⟨(some 68), .load false 1 (.tmp 67), (some (66, true)), 0, none⟩,
    ⟨(some 69), .fieldAddr 12 (.tmp 3), (some (66, true)), 0, none⟩,
    ⟨(some 70), .load false 1 (.tmp 69), (some (66, true)), 0, none⟩,
    ⟨(some 71), .call (.func 64) [(false, (.tmp 68)), (false, (.tmp 70))] false 4, (some (66, true)), 0, none⟩,
    ⟨(some 72), .pick (.tmp 66) (.tmp 71) (.const (.bool false)), none, 4, none⟩,
    ⟨(some 73), .move (.tmp 72), none, 4, none⟩,
    ⟨(some 74), .fieldAddr 13 (.tmp 2), (some (73, true)), 4, none⟩,
    ⟨(some 75), .load false 1 (.tmp 74), (some (73, true)), 4, none⟩,
    ⟨(some 76), .fieldAddr 13 (.tmp 3), (some (73, true)), 4, none⟩,
    ⟨(some 77), .load false 1 (.tmp 76), (some (73, true)), 4, none⟩,
    ⟨(some 78), .bin .eql (.tmp 75) (.tmp 77), (some (73, true)), 4, none⟩,
    ⟨(some 79), .pick (.tmp 73) (.tmp 78) (.const (.bool false)), none, 4, none⟩,
    ⟨(some 80), .move (.tmp 79), none, 4, none⟩,
    ⟨(some 81), .fieldAddr 14 (.tmp 2), (some (80, true)), 4, none⟩,
    ⟨(some 82), .load false 1 (.tmp 81), (some (80, true)), 4, none⟩,
    ⟨(some 83), .fieldAddr 14 (.tmp 3), (some (80, true)), 4, none⟩,
    ⟨(some 84), .load false 1 (.tmp 83), (some (80, true)), 4, none⟩,
    ⟨(some 85), .bin .eql (.tmp 82) (.tmp 84), (some (80, true)), 4, none⟩,
    ⟨(some 86), .pick (.tmp 80) (.tmp 85) (.const (.bool false)), none, 4, none⟩,
    ⟨(some 87), .move (.tmp 86), none, 4, none⟩,
    ⟨(some 88), .fieldAddr 15 (.tmp 2), (some (87, true)), 4, none⟩,
    ⟨(some 89), .load false 1 (.tmp 88), (some (87, true)), 4, none⟩,
    ⟨(some 90), .fieldAddr 15 (.tmp 3), (some (87, true)), 4, none⟩,
    ⟨(some 91), .load false 1 (.tmp 90), (some (87, true)), 4, none⟩,
    ⟨(some 92), .bin .eql (.tmp 89) (.tmp 91), (some (87, true)), 4, none⟩,
    ⟨(some 93), .pick (.tmp 87) (.tmp 92) (.const (.bool false)), none, 4, none⟩,
    ⟨(some 94), .move (.tmp 93), none, 4, none⟩,
    ⟨(some 95), .fieldAddr 16 (.tmp 2), (some (94, true)), 4, none⟩,
    ⟨(some 96), .load false 1 (.tmp 95), (some (94, true)), 4, none⟩,
    ⟨(some 97), .fieldAddr 16 (.tmp 3), (some (94, true)), 4, none⟩,
    ⟨(some 98), .load false 1 (.tmp 97), (some (94, true)), 4, none⟩,
    ⟨(some 99), .bin .eql (.tmp 96) (.tmp 98), (some (94, true)), 4, none⟩,
    ⟨(some 100), .pick (.tmp 94) (.tmp 99) (.const (.bool false)), none, 4, none⟩,
    ⟨(some 4), .move (.tmp 100), none, 4, none⟩] []) (.ret)), [.tmp 4], true⟩
def s14 : Sig := ⟨(.cons (.v .request) (.cons (.v .request) .nil)), [], ((.v .bool), []), []⟩
def F14 (L : Lp) (g64 : (List Dep) → (List Dep) → Option Bool) (a0 : Request) (b1 : Request) : Option Bool :=
  cond (decide (a0.kind = b1.kind))
    (cond (decide (a0.key = b1.key))
      (cond (decide (a0.job = b1.job))
        (cond (decide (a0.version = b1.version))
          (cond (decide (a0.queue = b1.queue))
            (cond (decide (a0.many = b1.many))
              (cond ((decide (a0.need.cpu = b1.need.cpu)) && ((decide (a0.need.mem = b1.need.mem)) && ((decide (a0.need.gpu = b1.need.gpu)) && ((decide (a0.need.lic = b1.need.lic)) && true))))
                (cond (decide (a0.wall = b1.wall))
                  (cond (decide (a0.tasks = b1.tasks))
                    (Option.bind (g64 a0.after b1.after) fun r2 =>
                    cond r2
                      (cond (decide (a0.node = b1.node))
                        (cond (decide (a0.fro = b1.fro))
                          (cond (decide (a0.to = b1.to))
                            (some (decide (a0.id = b1.id)))
                            (some false))
                          (some false))
                        (some false))
                      (some false))
                    (some false))
                  (some false))
                (some false))
              (some false))
            (some false))
          (some false))
        (some false))
      (some false))
    (some false)
theorem e14 (L : Lp) (g64 : (List Dep) → (List Dep) → Option Bool) (x : s14.args.den) (h : denH s14.heap) : nrun [⟨64, s64, fun x h => g64 x.1 x.2.1⟩] L n14 s14 x h = F14 L g64 x.1 x.2.1 := by kernel_rfl
def f14 : Request → Request → Option Bool := F14 (@LN LOOPS) f64
@[reducible] def t14 : Ent := ⟨14, s14, fun x h => f14 x.1 x.2.1⟩
theorem k14 : chkNF Try.prog Try.f14 n14 = true := by kernel_rfl
theorem ok14 : NOk Try.prog t14 := NOk.body (T := [t64]) mixed (nall_cons ok64 nall_nil) (oneEach_of (by kernel_rfl)) Try.func14 k14 (by kernel_rfl) (fun x h => e14 _ _ x h)
/- drayage/ask.Right -/
def n24 : NFunc := ⟨56, .seq (.region 1 [
    ⟨(some 1), .box 17 (.tmp 0), none, 0, none⟩,
    ⟨(some 2), .move (.const (.bool false)), none, 1, none⟩] []) (.seq (.seq (.region 8 [
    ⟨(some 6), .fieldAddr 0 (.tmp 1), none, 0, none⟩,
    ⟨(some 7), .load false 1 (.tmp 6), none, 0, none⟩,
    ⟨(some 8), .call (.func 79) [(false, (.tmp 7))] false 4, none, 0, none⟩,
    ⟨(some 9), .un .not (.tmp 8), none, 4, none⟩,
    ⟨(some 10), .move (.tmp 9), none, 4, none⟩,
    ⟨(some 11), .fieldAddr 1 (.tmp 1), (some (10, false)), 4, none⟩,
    ⟨(some 12), .load false 1 (.tmp 11), (some (10, false)), 4, none⟩,
    ⟨(some 13), .bin .lss (.tmp 12) (.const (.int .i64 (1))), (some (10, false)), 4, none⟩,
    ⟨(some 14), .pick (.tmp 10) (.const (.bool true)) (.tmp 13), none, 4, none⟩,
    ⟨(some 15), .move (.tmp 14), none, 4, none⟩,
    ⟨(some 16), .fieldAddr 1 (.tmp 1), (some (15, false)), 4, none⟩,
    ⟨(some 17), .load false 1 (.tmp 16), (some (15, false)), 4, none⟩,
    ⟨(some 18), .bin .gtr (.tmp 17) (.const (.int .i64 (1073741824))), (some (15, false)), 4, none⟩,
    ⟨(some 19), .pick (.tmp 15) (.const (.bool true)) (.tmp 18), none, 4, none⟩,
    ⟨(some 20), .move (.tmp 19), none, 4, none⟩,
    ⟨(some 21), .fieldAddr 0 (.tmp 1), (some (20, false)), 4, none⟩,
    ⟨(some 22), .load false 1 (.tmp 21), (some (20, false)), 4, none⟩,
    ⟨(some 23), .fieldAddr 12 (.tmp 1), (some (20, false)), 4, none⟩,
    ⟨(some 24), .load false 1 (.tmp 23), (some (20, false)), 4, none⟩,
    ⟨(some 25), .call (.func 80) [(false, (.tmp 22)), (false, (.tmp 24))] false 4, (some (20, false)), 4, none⟩,
    ⟨(some 26), .un .not (.tmp 25), (some (20, false)), 8, none⟩,
    ⟨(some 27), .pick (.tmp 20) (.const (.bool true)) (.tmp 26), none, 8, none⟩] []) (.cond (.tmp 27) (.seq (.region 0 [
    ⟨(some 2), .move (.const (.bool false)), none, 0, none⟩] []) (.ret)) (.skip))) (.seq (.region 1 [
    ⟨(some 28), .load true 17 (.tmp 1), none, 0, none⟩,
    ⟨(some 3), .alloc [.int .i64 (0), .int .i64 (0), .int .i64 (0), .int .i64 (0), .int .i64 (0), .int .i64 (0), .int .i64 (0), .int .i64 (0), .int .i64 (0), .int .i64 (0), .int .i64 (0), .int .i64 (0), .zsl, .int .i64 (0), .int .i64 (0), .int .i64 (0), .int .i64 (0)], none, 0, none⟩,
    ⟨none, .store 17 (.tmp 3) (.tmp 28), none, 1, none⟩] []) (.seq (.region 0 [
    ⟨(some 29), .fieldAddr 12 (.tmp 3), none, 0, none⟩,
    ⟨none, .store 1 (.tmp 29) (.const (.zsl)), none, 0, none⟩] []) (.seq (.join [1, 3] [] ⟨[(1, (.ptr 0 0 0)), (3, (.ptr 1 0 0))], [], [.one false .request, .one false .request]⟩ (.seq (.region 4 [
    ⟨(some 30), .call (.func 66) [(true, (.tmp 3))] false 4, none, 0, none⟩,
    ⟨(some 31), .len (.tmp 30), none, 4, none⟩,
    ⟨(some 32), .move (.const (.int .i64 (0))), none, 4, none⟩] []) (.block 0 (.loopU [1, 3, 30, 31, 32] 9 (.seq (.region 0 [
    ⟨(some 33), .bin .lss (.tmp 32) (.tmp 31), none, 0, none⟩] []) (.seq (.cond (.tmp 33) (.skip) (.exit 0)) (.seq (.block 1 (.seq (.region 0 [
    ⟨(some 34), .indexSl 1 (.tmp 30) (.tmp 32), none, 0, none⟩,
    ⟨(some 35), .load false 1 (.tmp 34), none, 0, none⟩,
    ⟨(some 5), .move (.tmp 35), none, 0, none⟩] []) (.seq (.seq (.region 0 [
    ⟨(some 36), .move (.tmp 5), none, 0, none⟩,
    ⟨(some 37), .nilCheck (.tmp 36), none, 0, none⟩,
    ⟨(some 38), .load false 1 (.tmp 37), none, 0, none⟩,
    ⟨(some 39), .bin .lss (.tmp 38) (.const (.int .i64 (0))), none, 0, none⟩,
    ⟨(some 40), .move (.tmp 39), none, 0, none⟩,
    ⟨(some 41), .move (.tmp 5), (some (40, false)), 0, none⟩,
    ⟨(some 42), .nilCheck (.tmp 41), (some (40, false)), 0, none⟩,
    ⟨(some 43), .load false 1 (.tmp 42), (some (40, false)), 0, none⟩,
    ⟨(some 44), .bin .gtr (.tmp 43) (.const (.int .i64 (281474976710656))), (some (40, false)), 0, none⟩,
    ⟨(some 45), .pick (.tmp 40) (.const (.bool true)) (.tmp 44), none, 0, none⟩] []) (.cond (.tmp 45) (.seq (.region 0 [
    ⟨(some 2), .move (.const (.bool false)), none, 0, none⟩] []) (.ret)) (.skip))) (.region 0 [
    ⟨(some 46), .move (.tmp 5), none, 0, none⟩,
    ⟨(some 47), .nilCheck (.tmp 46), none, 0, none⟩,
    ⟨none, .store 1 (.tmp 47) (.const (.int .i64 (0))), none, 0, none⟩] [])))) (.region 0 [
    ⟨(some 48), .bin .add (.tmp 32) (.const (.int .i64 (1))), none, 0, none⟩,
    ⟨(some 32), .move (.tmp 48), none, 0, none⟩] [])))))))) (.seq (.region 4 [
    ⟨(some 49), .load true 17 (.tmp 3), none, 0, none⟩,
    ⟨(some 50), .fieldAddr 0 (.tmp 1), none, 0, none⟩,
    ⟨(some 51), .load false 1 (.tmp 50), none, 0, none⟩,
    ⟨(some 52), .fieldAddr 1 (.tmp 1), none, 0, none⟩,
    ⟨(some 53), .load false 1 (.tmp 52), none, 0, none⟩,
    ⟨(some 54), .build [.int .i64 (0), .int .i64 (0), .int .i64 (0), .int .i64 (0), .int .i64 (0), .int .i64 (0), .int .i64 (0), .int .i64 (0), .int .i64 (0), .int .i64 (0), .int .i64 (0), .int .i64 (0), .zsl, .int .i64 (0), .int .i64 (0), .int .i64 (0), .int .i64 (0)] [(0, 1, (.tmp 51)), (1, 1, (.tmp 53))], none, 0, none⟩,
    ⟨(some 55), .call (.func 14) [(false, (.tmp 49)), (false, (.tmp 54))] false 4, none, 0, none⟩,
    ⟨(some 2), .move (.tmp 55), none, 4, none⟩] []) (.ret)))))), [.tmp 2], true⟩
def s24 : Sig := ⟨(.cons (.v .request) .nil), [], ((.v .bool), []), []⟩
def F24 (L : Lp) (g79 : Int → Option Bool) (g80 : Int → (List Dep) → Option Bool) (g66 : Request → Option y66) (g14 : Request → Request → Option Bool) (ar0 : Request) : Option Bool :=
  Option.bind (g79 ar0.kind) fun r1 =>
  cond (!r1)
    (some false)
    (cond (decide (ar0.key < 1))
      (some false)
      (cond (decide (1073741824 < ar0.key))
        (some false)
        (Option.bind (g80 ar0.kind ar0.after) fun r2 =>
        cond (!r2)
          (some false)
          (Option.bind (α := (((Unit × (Unit × Unit)) × (Request × (Request × Unit))) ⊕ Bool))
            (Option.bind (g66 (Request.mk ar0.kind ar0.key ar0.job ar0.version ar0.queue ar0.many ar0.need ar0.wall ar0.tasks [] ar0.node ar0.fro ar0.to ar0.id)) (Sum.elim (fun r3 =>
              cond (decide (r3.2.1.node < 0))
                (some (.inr false))
                (cond (decide (281474976710656 < r3.2.1.node))
                  (some (.inr false))
                  (cond (decide (r3.2.1.fro < 0))
                    (some (.inr false))
                    (cond (decide (281474976710656 < r3.2.1.fro))
                      (some (.inr false))
                      (cond (decide (r3.2.1.to < 0))
                        (some (.inr false))
                        (cond (decide (281474976710656 < r3.2.1.to))
                          (some (.inr false))
                          (some (.inl (((), (), ()), (ar0, Request.mk r3.2.1.kind r3.2.1.key r3.2.1.job r3.2.1.version r3.2.1.queue r3.2.1.many r3.2.1.need r3.2.1.wall r3.2.1.tasks r3.2.1.after 0 0 0 r3.2.1.id, ())))))))))) (Sum.elim (fun r4 =>
              some (.inl (((), (), ()), (ar0, r4.2.1, ())))) (Sum.elim (fun r5 =>
              cond (decide (r5.2.1.queue < 0))
                (some (.inr false))
                (cond (decide (281474976710656 < r5.2.1.queue))
                  (some (.inr false))
                  (some (.inl (((), (), ()), (ar0, Request.mk r5.2.1.kind r5.2.1.key r5.2.1.job r5.2.1.version 0 r5.2.1.many r5.2.1.need r5.2.1.wall r5.2.1.tasks r5.2.1.after r5.2.1.node r5.2.1.fro r5.2.1.to r5.2.1.id, ())))))) (Sum.elim (fun r6 =>
              cond (decide (r6.2.1.job < 0))
                (some (.inr false))
                (cond (decide (281474976710656 < r6.2.1.job))
                  (some (.inr false))
                  (some (.inl (((), (), ()), (ar0, Request.mk r6.2.1.kind r6.2.1.key 0 r6.2.1.version r6.2.1.queue r6.2.1.many r6.2.1.need r6.2.1.wall r6.2.1.tasks r6.2.1.after r6.2.1.node r6.2.1.fro r6.2.1.to r6.2.1.id, ())))))) (Sum.elim (fun r7 =>
              cond (decide (r7.2.1.job < 0))
                (some (.inr false))
                (cond (decide (281474976710656 < r7.2.1.job))
                  (some (.inr false))
                  (cond (decide (r7.2.1.version < 0))
                    (some (.inr false))
                    (cond (decide (281474976710656 < r7.2.1.version))
                      (some (.inr false))
                      (cond (decide (r7.2.1.queue < 0))
                        (some (.inr false))
                        (cond (decide (281474976710656 < r7.2.1.queue))
                          (some (.inr false))
                          (some (.inl (((), (), ()), (ar0, Request.mk r7.2.1.kind r7.2.1.key 0 0 0 r7.2.1.many r7.2.1.need r7.2.1.wall r7.2.1.tasks r7.2.1.after r7.2.1.node r7.2.1.fro r7.2.1.to r7.2.1.id, ())))))))))) (Sum.elim (fun r8 =>
              cond (decide (r8.2.1.job < 0))
                (some (.inr false))
                (cond (decide (281474976710656 < r8.2.1.job))
                  (some (.inr false))
                  (cond (decide (r8.2.1.version < 0))
                    (some (.inr false))
                    (cond (decide (281474976710656 < r8.2.1.version))
                      (some (.inr false))
                      (some (.inl (((), (), ()), (ar0, Request.mk r8.2.1.kind r8.2.1.key 0 0 r8.2.1.queue r8.2.1.many r8.2.1.need r8.2.1.wall r8.2.1.tasks r8.2.1.after r8.2.1.node r8.2.1.fro r8.2.1.to r8.2.1.id, ())))))))) (Sum.elim (fun r9 =>
              cond (decide (r9.2.1.job < 0))
                (some (.inr false))
                (cond (decide (281474976710656 < r9.2.1.job))
                  (some (.inr false))
                  (cond (decide (r9.2.1.version < 0))
                    (some (.inr false))
                    (cond (decide (281474976710656 < r9.2.1.version))
                      (some (.inr false))
                      (cond (decide (r9.2.1.many < 0))
                        (some (.inr false))
                        (cond (decide (281474976710656 < r9.2.1.many))
                          (some (.inr false))
                          (cond (decide (r9.2.1.need.cpu < 0))
                            (some (.inr false))
                            (cond (decide (281474976710656 < r9.2.1.need.cpu))
                              (some (.inr false))
                              (cond (decide (r9.2.1.need.mem < 0))
                                (some (.inr false))
                                (cond (decide (281474976710656 < r9.2.1.need.mem))
                                  (some (.inr false))
                                  (cond (decide (r9.2.1.need.gpu < 0))
                                    (some (.inr false))
                                    (cond (decide (281474976710656 < r9.2.1.need.gpu))
                                      (some (.inr false))
                                      (cond (decide (r9.2.1.need.lic < 0))
                                        (some (.inr false))
                                        (cond (decide (281474976710656 < r9.2.1.need.lic))
                                          (some (.inr false))
                                          (cond (decide (r9.2.1.wall < 0))
                                            (some (.inr false))
                                            (cond (decide (281474976710656 < r9.2.1.wall))
                                              (some (.inr false))
                                              (some (.inl (((), (), ()), (ar0, Request.mk r9.2.1.kind r9.2.1.key 0 0 r9.2.1.queue 0 (Res.mk 0 0 0 0) 0 r9.2.1.tasks r9.2.1.after r9.2.1.node r9.2.1.fro r9.2.1.to r9.2.1.id, ())))))))))))))))))))) (Sum.elim (fun r10 =>
              cond (decide (r10.2.1.queue < 0))
                (some (.inr false))
                (cond (decide (281474976710656 < r10.2.1.queue))
                  (some (.inr false))
                  (cond (decide (r10.2.1.many < 0))
                    (some (.inr false))
                    (cond (decide (281474976710656 < r10.2.1.many))
                      (some (.inr false))
                      (cond (decide (r10.2.1.need.cpu < 0))
                        (some (.inr false))
                        (cond (decide (281474976710656 < r10.2.1.need.cpu))
                          (some (.inr false))
                          (cond (decide (r10.2.1.need.mem < 0))
                            (some (.inr false))
                            (cond (decide (281474976710656 < r10.2.1.need.mem))
                              (some (.inr false))
                              (cond (decide (r10.2.1.need.gpu < 0))
                                (some (.inr false))
                                (cond (decide (281474976710656 < r10.2.1.need.gpu))
                                  (some (.inr false))
                                  (cond (decide (r10.2.1.need.lic < 0))
                                    (some (.inr false))
                                    (cond (decide (281474976710656 < r10.2.1.need.lic))
                                      (some (.inr false))
                                      (cond (decide (r10.2.1.wall < 0))
                                        (some (.inr false))
                                        (cond (decide (281474976710656 < r10.2.1.wall))
                                          (some (.inr false))
                                          (cond (decide (r10.2.1.tasks < 0))
                                            (some (.inr false))
                                            (cond (decide (281474976710656 < r10.2.1.tasks))
                                              (some (.inr false))
                                              (some (.inl (((), (), ()), (ar0, Request.mk r10.2.1.kind r10.2.1.key r10.2.1.job r10.2.1.version 0 0 (Res.mk 0 0 0 0) 0 0 r10.2.1.after r10.2.1.node r10.2.1.fro r10.2.1.to r10.2.1.id, ())))))))))))))))))))) (fun r11 =>
              cond (decide (r11.2.1.id < 0))
                (some (.inr false))
                (cond (decide (281474976710656 < r11.2.1.id))
                  (some (.inr false))
                  (some (.inl (((), (), ()), (ar0, Request.mk r11.2.1.kind r11.2.1.key r11.2.1.job r11.2.1.version r11.2.1.queue r11.2.1.many r11.2.1.need r11.2.1.wall r11.2.1.tasks r11.2.1.after r11.2.1.node r11.2.1.fro r11.2.1.to 0, ()))))))))))))))) (Sum.elim (fun x12 =>
            Option.bind (g14 x12.2.2.1 (Request.mk x12.2.1.kind x12.2.1.key 0 0 0 0 (Res.mk 0 0 0 0) 0 0 [] 0 0 0 0)) fun r13 =>
            some r13) some)))))
theorem e24 (L : Lp) (g79 : Int → Option Bool) (g80 : Int → (List Dep) → Option Bool) (g66 : Request → Option y66) (g14 : Request → Request → Option Bool) (x : s24.args.den) (h : denH s24.heap) : nrun [⟨79, s79, fun x h => g79 x.1⟩, ⟨80, s80, fun x h => g80 x.1 x.2.1⟩, ⟨66, s66, fun x h => g66 h.1⟩, ⟨14, s14, fun x h => g14 x.1 x.2.1⟩] L n24 s24 x h = F24 L g79 g80 g66 g14 x.1 := by kernel_rfl
def f24 : Request → Option Bool := F24 (@LN LOOPS) f79 f80 f66 f14
@[reducible] def t24 : Ent := ⟨24, s24, fun x h => f24 x.1⟩
theorem k24 : chkNF Try.prog Try.f24 n24 = true := by kernel_rfl
theorem ok24 : NOk Try.prog t24 := NOk.body (T := [t79, t80, t66, t14]) mixed (nall_cons ok79 (nall_cons ok80 (nall_cons ok66 (nall_cons ok14 nall_nil)))) (oneEach_of (by kernel_rfl)) Try.func24 k24 (by kernel_rfl) (fun x h => e24 _ _ _ _ _ x h)
/- slices.Clone[[]byte,byte] -/
def n108 : NFunc := ⟨8, .seq (.region 0 [
    ⟨(some 2), .move (.const (.zsl)), none, 0, none⟩] []) (.seq (.seq (.region 0 [
    ⟨(some 3), .move (.tmp 0), none, 0, none⟩,
    ⟨(some 4), .eqI false (.tmp 3) (.const (.zsl)), none, 0, none⟩] []) (.cond (.tmp 4) (.seq (.region 0 [
    ⟨(some 2), .move (.const (.zsl)), none, 0, none⟩] []) (.ret)) (.skip))) (.seq (.region 2 [
    ⟨(some 5), .buildSlice 1 0 true [.int .u8 (0)] [], none, 0, none⟩,
    ⟨(some 6), .move (.tmp 0), none, 1, none⟩,
    ⟨(some 7), .append 1 1 true (.tmp 5) (.tmp 6), none, 1, none⟩,
    ⟨(some 2), .move (.tmp 7), none, 2, none⟩] []) (.ret))), [.tmp 2], false⟩
def s108 : Sig := ⟨(.cons (.v (.list (.int .u8))) .nil), [], ((.slw 0 1), [.typed (.int .u8)]), []⟩
def F108 (L : Lp)  (as0 : (List Int)) : Option (Unit × ((List Int) × Unit)) :=
  cond (List.isEmpty as0)
    (none)
    (cond (smallB (0 + (List.length as0)) 1)
      (some ((), ([] ++ as0, ())))
      (none))
theorem e108 (L : Lp)  (x : s108.args.den) (h : denH s108.heap) : nrun [] L n108 s108 x h = F108 L  x.1 := by kernel_rfl
def f108 : (List Int) → Option (Unit × ((List Int) × Unit)) := cloneF (F108 (@LN LOOPS))
@[reducible] def t108 : Ent := ⟨108, s108, fun x h => f108 x.1⟩
theorem k108 : chkNF Try.prog Try.f108 n108 = true := by kernel_rfl
theorem c108 (A : Option Addr) (c : Nat) (w : World) : Calls Try.prog 108 #[.slice A 0 c] w (fun e w' => ∃ A', e = .returned (.slice A' 0 0) ∧ Go.RowKit.Below w.heap.size w w') := by
  have hq := fun (u : World) => Lib.run_eql_slice_nil (P := Try.prog) u 29 5 A 0 c 0 0 Try.underlying29
  cases A with
  | none => (go_enter Try.func108, Try.ntmps108; go_wp2; go_ret; exact ⟨_, rfl, Go.RowKit.Below.refl _ _⟩)
  | some ad => (go_enter Try.func108, Try.ntmps108; go_wp2; go_ret; exact ⟨_, rfl, (Go.RowKit.Below.refl _ _).alloc (Nat.le_refl _) _⟩)
theorem b108 : NOk Try.prog ⟨108, s108, fun x h => F108 (@LN LOOPS) x.1⟩ := NOk.body (T := []) mixed nall_nil (oneEach_of (by kernel_rfl)) Try.func108 k108 (by kernel_rfl) (fun x h => e108 _  x h)
theorem ok108 : NOk Try.prog t108 := NOk.clone (t := (.int .u8)) b108 (clone_empty (.int .u8) b108.1 c108)
/- drayage/codec.Put -/
def n67 : NFunc := ⟨50, .seq (.region 0 [
    ⟨(some 4), .move (.const (.zsl)), none, 0, none⟩,
    ⟨(some 5), .move (.const (.int .i64 (0))), none, 0, none⟩] []) (.seq (.seq (.region 0 [
    ⟨(some 11), .move (.tmp 1), none, 0, none⟩,
    ⟨(some 12), .len (.tmp 11), none, 0, none⟩,
    ⟨(some 13), .move (.const (.int .i64 (0))), none, 0, none⟩] []) (.block 0 (.loop [0, 1, 11, 12, 13] ⟨[(13, (.v (.int .i64)))], [0, 1, 11, 12], []⟩ (.seq (.region 0 [
    ⟨(some 14), .bin .lss (.tmp 13) (.tmp 12), none, 0, none⟩] []) (.seq (.cond (.tmp 14) (.skip) (.exit 0)) (.seq (.block 1 (.seq (.region 0 [
    ⟨(some 15), .indexSl 1 (.tmp 11) (.tmp 13), none, 0, none⟩,
    ⟨(some 16), .load false 1 (.tmp 15), none, 0, none⟩,
    ⟨(some 7), .move (.tmp 16), none, 0, none⟩] []) (.seq (.region 0 [
    ⟨(some 17), .move (.tmp 7), none, 0, none⟩,
    ⟨(some 18), .bin .lss (.tmp 17) (.const (.int .i64 (0))), none, 0, none⟩,
    ⟨(some 19), .move (.tmp 18), none, 0, none⟩,
    ⟨(some 20), .move (.tmp 7), (some (19, false)), 0, none⟩,
    ⟨(some 21), .bin .gtr (.tmp 20) (.const (.int .i64 (281474976710656))), (some (19, false)), 0, none⟩,
    ⟨(some 22), .pick (.tmp 19) (.const (.bool true)) (.tmp 21), none, 0, none⟩] []) (.cond (.tmp 22) (.seq (.region 0 [
    ⟨(some 4), .move (.const (.zsl)), none, 0, none⟩,
    ⟨(some 5), .move (.const (.int .i64 (2))), none, 0, none⟩] []) (.ret)) (.skip))))) (.region 0 [
    ⟨(some 23), .bin .add (.tmp 13) (.const (.int .i64 (1))), none, 0, none⟩,
    ⟨(some 13), .move (.tmp 23), none, 0, none⟩] []))))))) (.seq (.region 4 [
    ⟨(some 24), .move (.tmp 0), none, 0, none⟩,
    ⟨(some 25), .call (.func 108) [(false, (.tmp 24))] false 4, none, 0, none⟩,
    ⟨(some 8), .move (.tmp 25), none, 4, none⟩] []) (.seq (.seq (.region 0 [
    ⟨(some 26), .move (.tmp 1), none, 0, none⟩,
    ⟨(some 27), .len (.tmp 26), none, 0, none⟩,
    ⟨(some 28), .move (.const (.int .i64 (0))), none, 0, none⟩] []) (.block 2 (.loop [8, 26, 27, 28] ⟨[(8, (.slw 0 1)), (28, (.v (.int .i64)))], [26, 27], [.typed (.int .u8)]⟩ (.seq (.region 0 [
    ⟨(some 29), .bin .lss (.tmp 28) (.tmp 27), none, 0, none⟩] []) (.seq (.cond (.tmp 29) (.skip) (.exit 2)) (.seq (.block 3 (.seq (.region 0 [
    ⟨(some 30), .indexSl 1 (.tmp 26) (.tmp 28), none, 0, none⟩,
    ⟨(some 31), .load false 1 (.tmp 30), none, 0, none⟩,
    ⟨(some 10), .move (.tmp 31), none, 0, none⟩] []) (.seq (.block 4 (.loop [8, 10, 26, 27, 28] ⟨[(8, (.slw 0 1)), (10, (.v (.int .i64)))], [26, 27, 28], [.typed (.int .u8)]⟩ (.seq (.seq (.region 0 [
    ⟨(some 32), .move (.tmp 10), none, 0, none⟩,
    ⟨(some 33), .bin .geq (.tmp 32) (.const (.int .i64 (128))), none, 0, none⟩] []) (.cond (.tmp 33) (.skip) (.exit 4))) (.block 5 (.seq (.region 2 [
    ⟨(some 34), .move (.tmp 8), none, 0, none⟩,
    ⟨(some 35), .move (.tmp 10), none, 0, none⟩,
    ⟨(some 36), .bin .rem (.tmp 35) (.const (.int .i64 (128))), none, 0, none⟩,
    ⟨(some 37), .bin .add (.tmp 36) (.const (.int .i64 (128))), none, 0, none⟩,
    ⟨(some 38), .conv .u8 (.tmp 37), none, 0, none⟩,
    ⟨(some 39), .buildSlice 1 1 true [.int .u8 (0)] [(0, (.tmp 38))], none, 0, none⟩,
    ⟨(some 40), .append 1 1 true (.tmp 34) (.tmp 39), none, 1, none⟩,
    ⟨(some 8), .move (.tmp 40), none, 2, none⟩] []) (.region 0 [
    ⟨(some 41), .move (.tmp 10), none, 0, none⟩,
    ⟨(some 42), .bin .quo (.tmp 41) (.const (.int .i64 (128))), none, 0, none⟩,
    ⟨(some 10), .move (.tmp 42), none, 0, none⟩] [])))))) (.region 2 [
    ⟨(some 43), .move (.tmp 8), none, 0, none⟩,
    ⟨(some 44), .move (.tmp 10), none, 0, none⟩,
    ⟨(some 45), .conv .u8 (.tmp 44), none, 0, none⟩,
    ⟨(some 46), .buildSlice 1 1 true [.int .u8 (0)] [(0, (.tmp 45))], none, 0, none⟩,
    ⟨(some 47), .append 1 1 true (.tmp 43) (.tmp 46), none, 1, none⟩,
    ⟨(some 8), .move (.tmp 47), none, 2, none⟩] [])))) (.region 0 [
    ⟨(some 48), .bin .add (.tmp 28) (.const (.int .i64 (1))), none, 0, none⟩,
    ⟨(some 28), .move (.tmp 48), none, 0, none⟩] []))))))) (.seq (.region 0 [
    ⟨(some 49), .move (.tmp 8), none, 0, none⟩,
    ⟨(some 4), .move (.tmp 49), none, 0, none⟩,
    ⟨(some 5), .move (.const (.int .i64 (0))), none, 0, none⟩] []) (.ret))))), [.tmp 4, .tmp 5], true⟩
def s67 : Sig := ⟨(.cons (.v (.list (.int .u8))) (.cons (.v (.list (.int .i64))) .nil)), [], ((.tup (.cons (.v (.list (.int .u8))) (.cons (.v (.int .i64)) .nil))), []), []⟩
def l67_0 (nx8 : (((Unit × (Int × Unit)) × ((List Int) × Unit)) → Option ((List Int) × (Int × Unit)))) (z9 : Int) (nx13 : ((Unit × (Int × Unit)) × ((List Int) × Unit)) → Option ((List Int) × (Int × Unit))) (zn14 : Int) (z15 : (List Int)) : Option ((List Int) × (Int × Unit)) :=
  cond (decide (128 ≤ zn14))
    (cond (smallB ((List.length z15) + 1) 1)
      (nx13 (((), IntKind.wrap .i64 (Int.tdiv zn14 128), ()), (z15 ++ [IntKind.wrap .u8 (IntKind.wrap .i64 ((Int.tmod zn14 128) + 128))], ())))
      (none))
    (cond (smallB ((List.length z15) + 1) 1)
      (nx8 (((), IntKind.wrap .i64 (z9 + 1), ()), (z15 ++ [IntKind.wrap .u8 (zn14)], ())))
      (none))
def l67_1 (L : Lp) (al1 : (List Int)) (nx8 : ((Unit × (Int × Unit)) × ((List Int) × Unit)) → Option ((List Int) × (Int × Unit))) (z9 : Int) (z10 : (List Int)) : Option ((List Int) × (Int × Unit)) :=
  cond (decide (z9 < (List.length al1 : Int)))
    (cond (decide (0 ≤ z9))
      (Option.bind (al1[Int.toNat z9]?) fun y11 =>
      L (fun (s12 : ((Unit × (Int × Unit)) × ((List Int) × Unit))) nx13 => l67_0 nx8 z9 nx13 s12.1.2.1 s12.2.1) (((), y11, ()), (z10, ())))
      (none))
    (some (z10, 0, ()))
def l67_2 (L : Lp) (g108 : (List Int) → Option (Unit × ((List Int) × Unit))) (b0 : (List Int)) (al1 : (List Int)) (nx3 : ((Int × Unit) × Unit) → Option ((List Int) × (Int × Unit))) (z4 : Int) : Option ((List Int) × (Int × Unit)) :=
  cond (decide (z4 < (List.length al1 : Int)))
    (cond (decide (0 ≤ z4))
      (Option.bind (al1[Int.toNat z4]?) fun y5 =>
      cond (decide (y5 < 0))
        (some ([], 2, ()))
        (cond (decide (281474976710656 < y5))
          (some ([], 2, ()))
          (nx3 ((IntKind.wrap .i64 (z4 + 1), ()), ()))))
      (none))
    (Option.bind (g108 b0) fun r6 =>
    L (fun (s7 : ((Unit × (Int × Unit)) × ((List Int) × Unit))) nx8 => l67_1 L al1 nx8 s7.1.2.1 s7.2.1) (((), 0, ()), (r6.2.1, ())))
def F67 (L : Lp) (g108 : (List Int) → Option (Unit × ((List Int) × Unit))) (b0 : (List Int)) (al1 : (List Int)) : Option ((List Int) × (Int × Unit)) :=
  L (fun (s2 : ((Int × Unit) × Unit)) nx3 => l67_2 L g108 b0 al1 nx3 s2.1.1) ((0, ()), ())
theorem e67 (L : Lp) (g108 : (List Int) → Option (Unit × ((List Int) × Unit))) (x : s67.args.den) (h : denH s67.heap) : nrun [⟨108, s108, fun x h => g108 x.1⟩] L n67 s67 x h = F67 L g108 x.1 x.2.1 := by kernel_rfl
def f67 : (List Int) → (List Int) → Option ((List Int) × (Int × Unit)) := F67 (@LN LOOPS) f108
@[reducible] def t67 : Ent := ⟨67, s67, fun x h => f67 x.1 x.2.1⟩
theorem k67 : chkNF Try.prog Try.f67 n67 = true := by kernel_rfl
theorem ok67 : NOk Try.prog t67 := NOk.body (T := [t108]) mixed (nall_cons ok108 nall_nil) (oneEach_of (by kernel_rfl)) Try.func67 k67 (by kernel_rfl) (fun x h => e67 _ _ x h)
/- drayage/ask.Write -/
def n16 : NFunc := ⟨60, .seq (.region 1 [
    ⟨(some 1), .box 17 (.tmp 0), none, 0, none⟩,
    ⟨(some 2), .move (.const (.zsl)), none, 1, none⟩,
    ⟨(some 3), .move (.const (.int .i64 (0))), none, 1, none⟩] []) (.seq (.seq (.region 4 [
    ⟨(some 10), .load true 17 (.tmp 1), none, 0, none⟩,
    ⟨(some 11), .call (.func 24) [(false, (.tmp 10))] false 4, none, 0, none⟩,
    ⟨(some 12), .un .not (.tmp 11), none, 4, none⟩] []) (.cond (.tmp 12) (.seq (.region 0 [
    ⟨(some 2), .move (.const (.zsl)), none, 0, none⟩,
    ⟨(some 3), .move (.const (.int .i64 (2))), none, 0, none⟩] []) (.ret)) (.skip))) (.seq (.region 1 [
    ⟨(some 13), .fieldAddr 0 (.tmp 1), none, 0, none⟩,
    ⟨(some 14), .load false 1 (.tmp 13), none, 0, none⟩,
    ⟨(some 15), .fieldAddr 1 (.tmp 1), none, 0, none⟩,
    ⟨(some 16), .load false 1 (.tmp 15), none, 0, none⟩,
    ⟨(some 17), .buildSlice 1 2 true [.int .i64 (0)] [(0, (.tmp 14)), (1, (.tmp 16))], none, 0, none⟩,
    ⟨(some 4), .move (.tmp 17), none, 1, none⟩] []) (.seq (.meet [1, 4] [] ⟨[(1, (.ptr 0 0 0)), (4, (.slw 1 1))], [], [.one false .request, .typed (.int .i64)]⟩ (.seq (.region 4 [
    ⟨(some 18), .call (.func 66) [(true, (.tmp 1))] false 4, none, 0, none⟩,
    ⟨(some 19), .len (.tmp 18), none, 4, none⟩,
    ⟨(some 20), .move (.const (.int .i64 (0))), none, 4, none⟩] []) (.block 0 (.loopU [1, 4, 18, 19, 20] 9 (.seq (.region 0 [
    ⟨(some 21), .bin .lss (.tmp 20) (.tmp 19), none, 0, none⟩] []) (.seq (.cond (.tmp 21) (.skip) (.exit 0)) (.seq (.block 1 (.seq (.region 0 [
    ⟨(some 22), .indexSl 1 (.tmp 18) (.tmp 20), none, 0, none⟩,
    ⟨(some 23), .load false 1 (.tmp 22), none, 0, none⟩,
    ⟨(some 6), .move (.tmp 23), none, 0, none⟩] []) (.region 2 [
    ⟨(some 24), .move (.tmp 4), none, 0, none⟩,
    ⟨(some 25), .move (.tmp 6), none, 0, none⟩,
    ⟨(some 26), .nilCheck (.tmp 25), none, 0, none⟩,
    ⟨(some 27), .load false 1 (.tmp 26), none, 0, none⟩,
    ⟨(some 28), .buildSlice 1 1 true [.int .i64 (0)] [(0, (.tmp 27))], none, 0, none⟩,
    ⟨(some 29), .append 1 8 true (.tmp 24) (.tmp 28), none, 1, none⟩,
    ⟨(some 4), .move (.tmp 29), none, 2, none⟩] []))) (.region 0 [
    ⟨(some 30), .bin .add (.tmp 20) (.const (.int .i64 (1))), none, 0, none⟩,
    ⟨(some 20), .move (.tmp 30), none, 0, none⟩] [])))))))) (.seq (.meet [4] [] ⟨[(4, (.slw 0 1))], [], [.typed (.int .i64)]⟩ (.seq (.region 0 [
    ⟨(some 31), .fieldAddr 0 (.tmp 1), none, 0, none⟩,
    ⟨(some 32), .load false 1 (.tmp 31), none, 0, none⟩,
    ⟨(some 33), .bin .eql (.tmp 32) (.const (.int .i64 (1))), none, 0, none⟩] []) (.cond (.tmp 33) (.seq (.region 2 [
    ⟨(some 34), .move (.tmp 4), none, 0, none⟩,
    ⟨(some 35), .fieldAddr 12 (.tmp 1), none, 0, none⟩,
    ⟨(some 36), .load false 1 (.tmp 35), none, 0, none⟩,
    ⟨(some 37), .len (.tmp 36), none, 0, none⟩,
    ⟨(some 38), .buildSlice 1 1 true [.int .i64 (0)] [(0, (.tmp 37))], none, 0, none⟩,
    ⟨(some 39), .append 1 8 true (.tmp 34) (.tmp 38), none, 1, none⟩,
    ⟨(some 4), .move (.tmp 39), none, 2, none⟩] []) (.seq (.region 0 [
    ⟨(some 40), .fieldAddr 12 (.tmp 1), none, 0, none⟩,
    ⟨(some 41), .load false 1 (.tmp 40), none, 0, none⟩,
    ⟨(some 42), .len (.tmp 41), none, 0, none⟩,
    ⟨(some 43), .move (.const (.int .i64 (0))), none, 0, none⟩] []) (.block 2 (.loop [4, 41, 42, 43] ⟨[(4, (.slw 0 1)), (43, (.v (.int .i64)))], [41, 42], [.typed (.int .i64)]⟩ (.seq (.region 0 [
    ⟨(some 44), .bin .lss (.tmp 43) (.tmp 42), none, 0, none⟩] []) (.seq (.cond (.tmp 44) (.skip) (.exit 2)) (.seq (.block 3 (.seq (.region 1 [
    ⟨(some 45), .indexSl 2 (.tmp 41) (.tmp 43), none, 0, none⟩,
    ⟨(some 46), .load true 2 (.tmp 45), none, 0, none⟩,
    ⟨(some 8), .alloc [.int .i64 (0), .bool false], none, 0, none⟩,
    ⟨none, .store 2 (.tmp 8) (.tmp 46), none, 1, none⟩] []) (.seq (.region 0 [
    ⟨(some 9), .move (.const (.int .i64 (0))), none, 0, none⟩] []) (.seq (.seq (.region 0 [
    ⟨(some 47), .fieldAddr 1 (.tmp 8), none, 0, none⟩,
    ⟨(some 48), .load false 1 (.tmp 47), none, 0, none⟩] []) (.cond (.tmp 48) (.region 0 [
    ⟨(some 9), .move (.const (.int .i64 (1))), none, 0, none⟩] []) (.skip))) (.region 2 [
    ⟨(some 49), .move (.tmp 4), none, 0, none⟩,
    ⟨(some 50), .fieldAddr 0 (.tmp 8), none, 0, none⟩,
    ⟨(some 51), .load false 1 (.tmp 50), none, 0, none⟩,
    ⟨(some 52), .move (.tmp 9), none, 0, none⟩,
    ⟨(some 53), .buildSlice 1 2 true [.int .i64 (0)] [(0, (.tmp 51)), (1, (.tmp 52))], none, 0, none⟩,
    ⟨(some 54), .append 1 8 true (.tmp 49) (.tmp 53), none, 1, none⟩,
    ⟨(some 4), .move (.tmp 54), none, 2, none⟩] []))))) (.region 0 [
    ⟨(some 55), .bin .add (.tmp 43) (.const (.int .i64 (1))), none, 0, none⟩,
    ⟨(some 43), .move (.tmp 55), none, 0, none⟩] [])))))))) (.skip)))) (.seq (.region 4 [
    ⟨(some 56), .move (.tmp 4), none, 0, none⟩,
    ⟨(some 57), .call (.func 67) [(false, (.const (.zsl))), (false, (.tmp 56))] false 4, none, 0, none⟩,
    ⟨(some 58), .extract (.tmp 57) 0, none, 4, none⟩,
    ⟨(some 59), .extract (.tmp 57) 1, none, 4, none⟩,
    ⟨(some 2), .move (.tmp 58), none, 4, none⟩,
    ⟨(some 3), .move (.tmp 59), none, 4, none⟩] []) (.ret)))))), [.tmp 2, .tmp 3], true⟩
def s16 : Sig := ⟨(.cons (.v .request) .nil), [], ((.tup (.cons (.v (.list (.int .u8))) (.cons (.v (.int .i64)) .nil))), []), []⟩
def l16_0 (x11 : ((Unit × (Unit × Unit)) × (Request × ((List Int) × Unit)))) (nx13 : ((Unit × (Int × Unit)) × ((List Int) × Unit)) → Option ((Unit × Unit) × ((List Int) × Unit))) (z14 : Int) (z15 : (List Int)) : Option ((Unit × Unit) × ((List Int) × Unit)) :=
  cond (decide (z14 < (List.length x11.2.1.after : Int)))
    (cond (decide (0 ≤ z14))
      (Option.bind (x11.2.1.after[Int.toNat z14]?) fun y16 =>
      cond y16.ok
        (cond (smallB ((List.length z15) + 2) 8)
          (nx13 (((), IntKind.wrap .i64 (z14 + 1), ()), (z15 ++ [y16.job, 1], ())))
          (none))
        (cond (smallB ((List.length z15) + 2) 8)
          (nx13 (((), IntKind.wrap .i64 (z14 + 1), ()), (z15 ++ [y16.job, 0], ())))
          (none)))
      (none))
    (some (((), ()), (z15, ())))
def F16 (L : Lp) (g24 : Request → Option Bool) (g66 : Request → Option y66) (g67 : (List Int) → (List Int) → Option ((List Int) × (Int × Unit))) (ar0 : Request) : Option ((List Int) × (Int × Unit)) :=
  Option.bind (g24 ar0) fun r1 =>
  cond (!r1)
    (some ([], 2, ()))
    (Option.bind (α := ((Unit × (Unit × Unit)) × (Request × ((List Int) × Unit))))
      (Option.bind (g66 ar0) (Sum.elim (fun r2 =>
        some (((), (), ()), (r2.2.1, [ar0.kind, ar0.key, r2.2.1.node, r2.2.1.fro, r2.2.1.to], ()))) (Sum.elim (fun r3 =>
        some (((), (), ()), (r3.2.1, [ar0.kind, ar0.key], ()))) (Sum.elim (fun r4 =>
        some (((), (), ()), (r4.2.1, [ar0.kind, ar0.key, r4.2.1.queue], ()))) (Sum.elim (fun r5 =>
        some (((), (), ()), (r5.2.1, [ar0.kind, ar0.key, r5.2.1.job], ()))) (Sum.elim (fun r6 =>
        some (((), (), ()), (r6.2.1, [ar0.kind, ar0.key, r6.2.1.job, r6.2.1.version, r6.2.1.queue], ()))) (Sum.elim (fun r7 =>
        some (((), (), ()), (r7.2.1, [ar0.kind, ar0.key, r7.2.1.job, r7.2.1.version], ()))) (Sum.elim (fun r8 =>
        some (((), (), ()), (r8.2.1, [ar0.kind, ar0.key, r8.2.1.job, r8.2.1.version, r8.2.1.many, r8.2.1.need.cpu, r8.2.1.need.mem, r8.2.1.need.gpu, r8.2.1.need.lic, r8.2.1.wall], ()))) (Sum.elim (fun r9 =>
        some (((), (), ()), (r9.2.1, [ar0.kind, ar0.key, r9.2.1.queue, r9.2.1.many, r9.2.1.need.cpu, r9.2.1.need.mem, r9.2.1.need.gpu, r9.2.1.need.lic, r9.2.1.wall, r9.2.1.tasks], ()))) (fun r10 =>
        some (((), (), ()), (r10.2.1, [ar0.kind, ar0.key, r10.2.1.id], ())))))))))))) fun x11 =>
    Option.bind (α := ((Unit × Unit) × ((List Int) × Unit)))
      (cond (decide (x11.2.1.kind = 1))
        (cond (smallB ((List.length x11.2.2.1) + 1) 8)
          (L (fun (s12 : ((Unit × (Int × Unit)) × ((List Int) × Unit))) nx13 => l16_0 x11 nx13 s12.1.2.1 s12.2.1) (((), 0, ()), (x11.2.2.1 ++ [(List.length x11.2.1.after : Int)], ())))
          (none))
        (some (((), ()), (x11.2.2.1, ())))) fun x17 =>
    Option.bind (g67 [] x17.2.1) fun r18 =>
    some (r18.1, r18.2.1, ()))
theorem e16 (L : Lp) (g24 : Request → Option Bool) (g66 : Request → Option y66) (g67 : (List Int) → (List Int) → Option ((List Int) × (Int × Unit))) (x : s16.args.den) (h : denH s16.heap) : nrun [⟨24, s24, fun x h => g24 x.1⟩, ⟨66, s66, fun x h => g66 h.1⟩, ⟨67, s67, fun x h => g67 x.1 x.2.1⟩] L n16 s16 x h = F16 L g24 g66 g67 x.1 := by kernel_rfl
def f16 : Request → Option ((List Int) × (Int × Unit)) := F16 (@LN LOOPS) f24 f66 f67
@[reducible] def t16 : Ent := ⟨16, s16, fun x h => f16 x.1⟩
theorem k16 : chkNF Try.prog Try.f16 n16 = true := by kernel_rfl
theorem ok16 : NOk Try.prog t16 := NOk.body (T := [t24, t66, t67]) mixed (nall_cons ok24 (nall_cons ok66 (nall_cons ok67 nall_nil))) (oneEach_of (by kernel_rfl)) Try.func16 k16 (by kernel_rfl) (fun x h => e16 _ _ _ _ x h)
/- drayage/drayageref01.Bytes -/
def n17 : NFunc := ⟨26, .seq (.region 0 [
    ⟨(some 4), .move (.const (.bool false)), none, 0, none⟩] []) (.seq (.seq (.region 0 [
    ⟨(some 6), .move (.tmp 0), none, 0, none⟩,
    ⟨(some 7), .len (.tmp 6), none, 0, none⟩,
    ⟨(some 8), .move (.tmp 1), none, 0, none⟩,
    ⟨(some 9), .len (.tmp 8), none, 0, none⟩,
    ⟨(some 10), .bin .neq (.tmp 7) (.tmp 9), none, 0, none⟩] []) (.cond (.tmp 10) (.seq (.region 0 [
    ⟨(some 4), .move (.const (.bool false)), none, 0, none⟩] []) (.ret)) (.skip))) (.seq (.seq (.region 0 [
    ⟨(some 5), .move (.const (.int .i64 (0))), none, 0, none⟩] []) (.block 0 (.loop [0, 1, 5] ⟨[(5, (.v (.int .i64)))], [0, 1], []⟩ (.seq (.seq (.region 0 [
    ⟨(some 11), .move (.tmp 5), none, 0, none⟩,
    ⟨(some 12), .move (.tmp 0), none, 0, none⟩,
    ⟨(some 13), .len (.tmp 12), none, 0, none⟩,
    ⟨(some 14), .bin .lss (.tmp 11) (.tmp 13), none, 0, none⟩] []) (.cond (.tmp 14) (.skip) (.exit 0))) (.seq (.block 1 (.seq (.region 0 [
    ⟨(some 17), .move (.tmp 0), none, 0, (some ([], none))⟩,
    ⟨(some 18), .move (.tmp 5), none, 0, (some ([], none))⟩,
    ⟨(some 19), .indexSl 1 (.tmp 17) (.tmp 18), none, 0, (some ([], none))⟩,
    ⟨(some 20), .load false 1 (.tmp 19), none, 0, (some ([], none))⟩,
    ⟨(some 21), .move (.tmp 1), none, 0, (some ([], none))⟩,
    ⟨(some 22), .move (.tmp 5), none, 0, (some ([], none))⟩,
    ⟨(some 23), .indexSl 1 (.tmp 21) (.tmp 22), none, 0, (some ([], none))⟩,
    ⟨(some 24), .load false 1 (.tmp 23), none, 0, (some ([], none))⟩,
    ⟨(some 25), .bin .neq (.tmp 20) (.tmp 24), none, 0, (some ([], none))⟩] []) (.cond (.tmp 25) (.seq (.region 0 [
    ⟨(some 4), .move (.const (.bool false)), none, 0, none⟩] []) (.ret)) (.skip)))) (.region 0 [
    ⟨(some 15), .move (.tmp 5), none, 0, none⟩,
    ⟨(some 16), .bin .add (.tmp 15) (.const (.int .i64 (1))), none, 0, none⟩,
    ⟨(some 5), .move (.tmp 16), none, 0, none⟩] [])))))) (.seq (.region 0 [
    ⟨(some 4), .move (.const (.bool true)), none, 0, none⟩] []) (.ret)))), [.tmp 4], true⟩
def s17 : Sig := ⟨(.cons (.v (.list (.int .u8))) (.cons (.v (.list (.int .u8))) .nil)), [], ((.v .bool), []), []⟩
def l17_0 (a0 : (List Int)) (b1 : (List Int)) (nx3 : ((Int × Unit) × Unit) → Option Bool) (i4 : Int) : Option Bool :=
  cond (decide (i4 < (List.length a0 : Int)))
    (cond (decide (0 ≤ i4))
      (Option.bind (a0[Int.toNat i4]?) fun y5 =>
      cond (decide (0 ≤ i4))
        (Option.bind (b1[Int.toNat i4]?) fun y6 =>
        cond (!decide (y5 = y6))
          (some false)
          (nx3 ((IntKind.wrap .i64 (i4 + 1), ()), ())))
        (none))
      (none))
    (some true)
def F17 (L : Lp)  (a0 : (List Int)) (b1 : (List Int)) : Option Bool :=
  cond (!decide ((List.length a0 : Int) = (List.length b1 : Int)))
    (some false)
    (L (fun (s2 : ((Int × Unit) × Unit)) nx3 => l17_0 a0 b1 nx3 s2.1.1) ((0, ()), ()))
theorem e17 (L : Lp)  (x : s17.args.den) (h : denH s17.heap) : nrun [] L n17 s17 x h = F17 L  x.1 x.2.1 := by kernel_rfl
def f17 : (List Int) → (List Int) → Option Bool := F17 (@LN LOOPS) 
@[reducible] def t17 : Ent := ⟨17, s17, fun x h => f17 x.1 x.2.1⟩
theorem k17 : chkNF Try.prog Try.f17 n17 = true := by kernel_rfl
theorem ok17 : NOk Try.prog t17 := NOk.body (T := []) mixed nall_nil (oneEach_of (by kernel_rfl)) Try.func17 k17 (by kernel_rfl) (fun x h => e17 _  x h)
/- drayage/ask.Query -/
def n26 : NFunc := ⟨13, .seq (.region 0 [
    ⟨(some 2), .move (.const (.bool false)), none, 0, none⟩] []) (.seq (.region 0 [
    ⟨(some 3), .move (.tmp 0), none, 0, none⟩,
    ⟨(some 4), .bin .eql (.tmp 3) (.const (.int .i64 (8))), none, 0, none⟩,
    ⟨(some 5), .move (.tmp 4), none, 0, none⟩,
    ⟨(some 6), .move (.tmp 0), (some (5, false)), 0, none⟩,
    ⟨(some 7), .bin .eql (.tmp 6) (.const (.int .i64 (9))), (some (5, false)), 0, none⟩,
    ⟨(some 8), .pick (.tmp 5) (.const (.bool true)) (.tmp 7), none, 0, none⟩,
    ⟨(some 9), .move (.tmp 8), none, 0, none⟩,
    ⟨(some 10), .move (.tmp 0), (some (9, false)), 0, none⟩,
    ⟨(some 11), .bin .eql (.tmp 10) (.const (.int .i64 (10))), (some (9, false)), 0, none⟩,
    ⟨(some 12), .pick (.tmp 9) (.const (.bool true)) (.tmp 11), none, 0, none⟩,
    ⟨(some 2), .move (.tmp 12), none, 0, none⟩] []) (.ret)), [.tmp 2], true⟩
def s26 : Sig := ⟨(.cons (.v (.int .i64)) .nil), [], ((.v .bool), []), []⟩
def F26 (L : Lp)  (kind0 : Int) : Option Bool :=
  cond (decide (kind0 = 8))
    (some true)
    (cond (decide (kind0 = 9))
      (some true)
      (some (decide (kind0 = 10))))
theorem e26 (L : Lp)  (x : s26.args.den) (h : denH s26.heap) : nrun [] L n26 s26 x h = F26 L  x.1 := by kernel_rfl
def f26 : Int → Option Bool := F26 (@LN LOOPS) 
@[reducible] def t26 : Ent := ⟨26, s26, fun x h => f26 x.1⟩
theorem k26 : chkNF Try.prog Try.f26 n26 = true := by kernel_rfl
theorem ok26 : NOk Try.prog t26 := NOk.body (T := []) mixed nall_nil (oneEach_of (by kernel_rfl)) Try.func26 k26 (by kernel_rfl) (fun x h => e26 _  x h)
/- drayage/drayagelaw08.awake -/
def n13 : NFunc := ⟨24, .seq (.region 0 [
    ⟨(some 0), .move (.const (.bool false)), none, 0, none⟩] []) (.seq (.region 1 [
    ⟨(some 4), .build [.int .i64 (0), .int .i64 (0), .int .i64 (0), .int .i64 (0), .int .i64 (0), .int .i64 (0), .int .i64 (0), .int .i64 (0), .int .i64 (0), .int .i64 (0), .int .i64 (0), .int .i64 (0), .zsl, .int .i64 (0), .int .i64 (0), .int .i64 (0), .int .i64 (0)] [(0, 1, (.const (.int .i64 (3)))), (1, 1, (.const (.int .i64 (1)))), (2, 1, (.const (.int .i64 (3))))], none, 0, none⟩,
    ⟨(some 1), .alloc [.int .i64 (0), .int .i64 (0), .int .i64 (0), .int .i64 (0), .int .i64 (0), .int .i64 (0), .int .i64 (0), .int .i64 (0), .int .i64 (0), .int .i64 (0), .int .i64 (0), .int .i64 (0), .zsl, .int .i64 (0), .int .i64 (0), .int .i64 (0), .int .i64 (0)], none, 0, none⟩,
    ⟨none, .store 17 (.tmp 1) (.tmp 4), none, 1, none⟩] []) (.seq (.region 4 [
    ⟨(some 6), .load true 17 (.tmp 1), none, 0, none⟩,
    ⟨(some 7), .call (.func 16) [(false, (.tmp 6))] false 4, none, 0, none⟩,
    ⟨(some 5), .move (.tmp 7), none, 4, none⟩,
    ⟨(some 8), .extract (.tmp 5) 0, none, 4, none⟩,
    ⟨(some 9), .extract (.tmp 5) 1, none, 4, none⟩,
    ⟨(some 2), .move (.tmp 8), none, 4, none⟩,
    ⟨(some 3), .move (.tmp 9), none, 4, none⟩] []) (.seq (.region 13 [
    ⟨(some 10), .move (.tmp 3), none, 0, none⟩,
    ⟨(some 11), .bin .eql (.tmp 10) (.const (.int .i64 (0))), none, 0, none⟩,
    ⟨(some 12), .move (.tmp 11), none, 0, none⟩,
    ⟨(some 13), .move (.tmp 2), (some (12, true)), 0, none⟩,
    ⟨(some 14), .buildSlice 1 4 true [.int .u8 (0)] [(0, (.const (.int .u8 (3)))), (1, (.const (.int .u8 (1)))), (2, (.const (.int .u8 (3)))), (3, (.const (.int .u8 (0))))], (some (12, true)), 0, none⟩,
    ⟨(some 15), .call (.func 17) [(false, (.tmp 13)), (false, (.tmp 14))] false 4, (some (12, true)), 1, none⟩,
    ⟨(some 16), .pick (.tmp 12) (.tmp 15) (.const (.bool false)), none, 5, none⟩,
    ⟨(some 17), .move (.tmp 16), none, 5, none⟩,
    ⟨(some 18), .call (.func 26) [(false, (.const (.int .i64 (10))))] false 4, (some (17, true)), 5, none⟩,
    ⟨(some 19), .pick (.tmp 17) (.tmp 18) (.const (.bool false)), none, 9, none⟩,
    ⟨(some 20), .move (.tmp 19), none, 9, none⟩,
    ⟨(some 21), .call (.func 26) [(false, (.const (.int .i64 (1))))] false 4, (some (20, true)), 9, none⟩,
    ⟨(some 22), .un .not (.tmp 21), (some (20, true)), 13, none⟩,
    ⟨(some 23), .pick (.tmp 20) (.tmp 22) (.const (.bool false)), none, 13, none⟩,
    ⟨(some 0), .move (.tmp 23), none, 13, none⟩] []) (.ret)))), [.tmp 0], true⟩
def s13 : Sig := ⟨.nil, [], ((.v .bool), []), []⟩
def F13 (L : Lp) (g16 : Request → Option ((List Int) × (Int × Unit))) (g17 : (List Int) → (List Int) → Option Bool) (g26 : Int → Option Bool)  : Option Bool :=
  Option.bind (g16 (Request.mk 3 1 3 0 0 0 (Res.mk 0 0 0 0) 0 0 [] 0 0 0 0)) fun r0 =>
  cond (decide (r0.2.1 = 0))
    (Option.bind (g17 r0.1 [3, 1, 3, 0]) fun r1 =>
    cond r1
      (Option.bind (g26 10) fun r2 =>
      cond r2
        (Option.bind (g26 1) fun r3 =>
        some !r3)
        (some false))
      (some false))
    (some false)
theorem e13 (L : Lp) (g16 : Request → Option ((List Int) × (Int × Unit))) (g17 : (List Int) → (List Int) → Option Bool) (g26 : Int → Option Bool) (x : s13.args.den) (h : denH s13.heap) : nrun [⟨16, s16, fun x h => g16 x.1⟩, ⟨17, s17, fun x h => g17 x.1 x.2.1⟩, ⟨26, s26, fun x h => g26 x.1⟩] L n13 s13 x h = F13 L g16 g17 g26  := by kernel_rfl
def f13 : Option Bool := F13 (@LN LOOPS) f16 f17 f26
@[reducible] def t13 : Ent := ⟨13, s13, fun x h => f13 ⟩
theorem k13 : chkNF Try.prog Try.f13 n13 = true := by kernel_rfl
theorem ok13 : NOk Try.prog t13 := NOk.body (T := [t16, t17, t26]) mixed (nall_cons ok16 (nall_cons ok17 (nall_cons ok26 nall_nil))) (oneEach_of (by kernel_rfl)) Try.func13 k13 (by kernel_rfl) (fun x h => e13 _ _ _ _ x h)
/- drayage/drayageref08.all -/
def n65 : NFunc := ⟨36, .seq (.region 1 [
    ⟨(some 1), .box 17 (.tmp 0), none, 0, none⟩,
    ⟨(some 2), .move (.const (.zsl)), none, 1, none⟩] []) (.seq (.region 1 [
    ⟨(some 3), .fieldAddr 2 (.tmp 1), none, 0, none⟩,
    ⟨(some 4), .load false 1 (.tmp 3), none, 0, none⟩,
    ⟨(some 5), .fieldAddr 3 (.tmp 1), none, 0, none⟩,
    ⟨(some 6), .load false 1 (.tmp 5), none, 0, none⟩,
    ⟨(some 7), .fieldAddr 4 (.tmp 1), none, 0, none⟩,
    ⟨(some 8), .load false 1 (.tmp 7), none, 0, none⟩,
    ⟨(some 9), .fieldAddr 5 (.tmp 1), none, 0, none⟩,
    ⟨(some 10), .load false 1 (.tmp 9), none, 0, none⟩,
    ⟨(some 11), .fieldAddr 6 (.tmp 1), none, 0, none⟩,
    ⟨(some 12), .fieldAddr 0 (.tmp 11), none, 0, none⟩,
    ⟨(some 13), .load false 1 (.tmp 12), none, 0, none⟩,
    ⟨(some 14), .fieldAddr 6 (.tmp 1), none, 0, none⟩,
    ⟨(some 15), .fieldAddr 1 (.tmp 14), none, 0, none⟩,
    ⟨(some 16), .load false 1 (.tmp 15), none, 0, none⟩,
    ⟨(some 17), .fieldAddr 6 (.tmp 1), none, 0, none⟩,
    ⟨(some 18), .fieldAddr 2 (.tmp 17), none, 0, none⟩,
    ⟨(some 19), .load false 1 (.tmp 18), none, 0, none⟩,
    ⟨(some 20), .fieldAddr 6 (.tmp 1), none, 0, none⟩,
    ⟨(some 21), .fieldAddr 3 (.tmp 20), none, 0, none⟩,
    ⟨(some 22), .load false 1 (.tmp 21), none, 0, none⟩,
    ⟨(some 23), .fieldAddr 10 (.tmp 1), none, 0, none⟩,
    ⟨(some 24), .load false 1 (.tmp 23), none, 0, none⟩,
    ⟨(some 25), .fieldAddr 11 (.tmp 1), none, 0, none⟩,
    ⟨(some 26), .load false 1 (.tmp 25), none, 0, none⟩,
    ⟨(some 27), .fieldAddr 13 (.tmp 1), none, 0, none⟩,
    ⟨(some 28), .load false 1 (.tmp 27), none, 0, none⟩,
    ⟨(some 29), .fieldAddr 14 (.tmp 1), none, 0, none⟩,
    ⟨(some 30), .load false 1 (.tmp 29), none, 0, none⟩,
    ⟨(some 31), .fieldAddr 15 (.tmp 1), none, 0, none⟩,
    ⟨(some 32), .load false 1 (.tmp 31), none, 0, none⟩,
    ⟨(some 33), .fieldAddr 16 (.tmp 1), none, 0, none⟩,
    ⟨(some 34), .load false 1 (.tmp 33), none, 0, none⟩,
    ⟨(some 35), .buildSlice 1 15 true [.int .i64 (0)] [(0, (.const (.int .i64 (0)))), (1, (.tmp 4)), (2, (.tmp 6)), (3, (.tmp 8)), (4, (.tmp 10)), (5, (.tmp 13)), (6, (.tmp 16)), (7, (.tmp 19)), (8, (.tmp 22)), (9, (.tmp 24)), (10, (.tmp 26)), (11, (.tmp 28)), (12, (.tmp 30)), (13, (.tmp 32)), (14, (.tmp 34))], none, 0, none⟩,
    ⟨(some 2), .move (.tmp 35), none, 1, none⟩] []) (.ret)), [.tmp 2], true⟩
def s65 : Sig := ⟨(.cons (.v .request) .nil), [], ((.v (.list (.int .i64))), []), []⟩
def F65 (L : Lp)  (ar0 : Request) : Option (List Int) :=
  some [0, ar0.job, ar0.version, ar0.queue, ar0.many, ar0.need.cpu, ar0.need.mem, ar0.need.gpu, ar0.need.lic, ar0.wall, ar0.tasks, ar0.node, ar0.fro, ar0.to, ar0.id]
theorem e65 (L : Lp)  (x : s65.args.den) (h : denH s65.heap) : nrun [] L n65 s65 x h = F65 L  x.1 := by kernel_rfl
def f65 : Request → Option (List Int) := F65 (@LN LOOPS) 
@[reducible] def t65 : Ent := ⟨65, s65, fun x h => f65 x.1⟩
theorem k65 : chkNF Try.prog Try.f65 n65 = true := by kernel_rfl
theorem ok65 : NOk Try.prog t65 := NOk.body (T := []) mixed nall_nil (oneEach_of (by kernel_rfl)) Try.func65 k65 (by kernel_rfl) (fun x h => e65 _  x h)
/- drayage/drayageref08.fields -/
def n81 : NFunc := ⟨31, .seq (.region 0 [
    ⟨(some 2), .move (.const (.zsl)), none, 0, none⟩] []) (.seq (.seq (.region 0 [
    ⟨(some 3), .move (.tmp 0), none, 0, none⟩] []) (.block 0 (.seq (.region 0 [
    ⟨(some 5), .bin .eql (.tmp 3) (.const (.int .i64 (1))), none, 0, none⟩,
    ⟨(some 4), .move (.tmp 5), none, 0, none⟩] []) (.cond (.tmp 4) (.seq (.region 1 [
    ⟨(some 6), .buildSlice 1 8 true [.int .i64 (0)] [(0, (.const (.int .i64 (3)))), (1, (.const (.int .i64 (4)))), (2, (.const (.int .i64 (5)))), (3, (.const (.int .i64 (6)))), (4, (.const (.int .i64 (7)))), (5, (.const (.int .i64 (8)))), (6, (.const (.int .i64 (9)))), (7, (.const (.int .i64 (10))))], none, 0, none⟩,
    ⟨(some 2), .move (.tmp 6), none, 1, none⟩] []) (.ret)) (.seq (.region 0 [
    ⟨(some 8), .bin .eql (.tmp 3) (.const (.int .i64 (2))), none, 0, none⟩,
    ⟨(some 7), .move (.tmp 8), none, 0, none⟩] []) (.cond (.tmp 7) (.seq (.region 1 [
    ⟨(some 9), .buildSlice 1 8 true [.int .i64 (0)] [(0, (.const (.int .i64 (1)))), (1, (.const (.int .i64 (2)))), (2, (.const (.int .i64 (4)))), (3, (.const (.int .i64 (5)))), (4, (.const (.int .i64 (6)))), (5, (.const (.int .i64 (7)))), (6, (.const (.int .i64 (8)))), (7, (.const (.int .i64 (9))))], none, 0, none⟩,
    ⟨(some 2), .move (.tmp 9), none, 1, none⟩] []) (.ret)) (.seq (.meet [3, 10] [] ⟨[(10, (.v .bool))], [3], []⟩ (.seq (.region 0 [
    ⟨(some 11), .bin .eql (.tmp 3) (.const (.int .i64 (3))), none, 0, none⟩,
    ⟨(some 10), .move (.tmp 11), none, 0, none⟩] []) (.cond (.tmp 10) (.skip) (.seq (.region 0 [
    ⟨(some 12), .bin .eql (.tmp 3) (.const (.int .i64 (4))), none, 0, none⟩,
    ⟨(some 10), .move (.tmp 12), none, 0, none⟩] []) (.cond (.tmp 10) (.skip) (.seq (.region 0 [
    ⟨(some 13), .bin .eql (.tmp 3) (.const (.int .i64 (5))), none, 0, none⟩,
    ⟨(some 10), .move (.tmp 13), none, 0, none⟩] []) (.cond (.tmp 10) (.skip) (.region 0 [
    ⟨(some 14), .bin .eql (.tmp 3) (.const (.int .i64 (6))), none, 0, none⟩,
    ⟨(some 10), .move (.tmp 14), none, 0, none⟩] [])))))))) (.cond (.tmp 10) (.seq (.region 1 [
    ⟨(some 15), .buildSlice 1 2 true [.int .i64 (0)] [(0, (.const (.int .i64 (1)))), (1, (.const (.int .i64 (2))))], none, 0, none⟩,
    ⟨(some 2), .move (.tmp 15), none, 1, none⟩] []) (.ret)) (.seq (.region 0 [
    ⟨(some 17), .bin .eql (.tmp 3) (.const (.int .i64 (7))), none, 0, none⟩,
    ⟨(some 16), .move (.tmp 17), none, 0, none⟩] []) (.cond (.tmp 16) (.seq (.region 1 [
    ⟨(some 18), .buildSlice 1 3 true [.int .i64 (0)] [(0, (.const (.int .i64 (1)))), (1, (.const (.int .i64 (2)))), (2, (.const (.int .i64 (3))))], none, 0, none⟩,
    ⟨(some 2), .move (.tmp 18), none, 1, none⟩] []) (.ret)) (.seq (.region 0 [
    ⟨(some 20), .bin .eql (.tmp 3) (.const (.int .i64 (8))), none, 0, none⟩,
    ⟨(some 19), .move (.tmp 20), none, 0, none⟩] []) (.cond (.tmp 19) (.seq (.region 1 [
    ⟨(some 21), .buildSlice 1 1 true [.int .i64 (0)] [(0, (.const (.int .i64 (1))))], none, 0, none⟩,
    ⟨(some 2), .move (.tmp 21), none, 1, none⟩] []) (.ret)) (.seq (.region 0 [
    ⟨(some 23), .bin .eql (.tmp 3) (.const (.int .i64 (9))), none, 0, none⟩,
    ⟨(some 22), .move (.tmp 23), none, 0, none⟩] []) (.cond (.tmp 22) (.seq (.region 1 [
    ⟨(some 24), .buildSlice 1 1 true [.int .i64 (0)] [(0, (.const (.int .i64 (3))))], none, 0, none⟩,
    ⟨(some 2), .move (.tmp 24), none, 1, none⟩] []) (.ret)) (.seq (.region 0 [
    ⟨(some 26), .bin .eql (.tmp 3) (.const (.int .i64 (11))), none, 0, none⟩,
    ⟨(some 25), .move (.tmp 26), none, 0, none⟩] []) (.cond (.tmp 25) (.seq (.region 1 [
    ⟨(some 27), .buildSlice 1 3 true [.int .i64 (0)] [(0, (.const (.int .i64 (11)))), (1, (.const (.int .i64 (12)))), (2, (.const (.int .i64 (13))))], none, 0, none⟩,
    ⟨(some 2), .move (.tmp 27), none, 1, none⟩] []) (.ret)) (.seq (.region 0 [
    ⟨(some 29), .bin .eql (.tmp 3) (.const (.int .i64 (12))), none, 0, none⟩,
    ⟨(some 28), .move (.tmp 29), none, 0, none⟩] []) (.cond (.tmp 28) (.seq (.region 1 [
    ⟨(some 30), .buildSlice 1 1 true [.int .i64 (0)] [(0, (.const (.int .i64 (14))))], none, 0, none⟩,
    ⟨(some 2), .move (.tmp 30), none, 1, none⟩] []) (.ret)) (.skip))))))))))))))))))) (.seq (.region 0 [
    ⟨(some 2), .move (.const (.zsl)), none, 0, none⟩] []) (.ret))), [.tmp 2], true⟩
def s81 : Sig := ⟨(.cons (.v (.int .i64)) .nil), [], ((.v (.list (.int .i64))), []), []⟩
def F81 (L : Lp)  (kind0 : Int) : Option (List Int) :=
  cond (decide (kind0 = 1))
    (some [3, 4, 5, 6, 7, 8, 9, 10])
    (cond (decide (kind0 = 2))
      (some [1, 2, 4, 5, 6, 7, 8, 9])
      (Option.bind (α := ((Bool × Unit) × Unit))
        (cond (decide (kind0 = 3))
          (some ((true, ()), ()))
          (cond (decide (kind0 = 4))
            (some ((true, ()), ()))
            (cond (decide (kind0 = 5))
              (some ((true, ()), ()))
              (some ((decide (kind0 = 6), ()), ()))))) fun x1 =>
      cond x1.1.1
        (some [1, 2])
        (cond (decide (kind0 = 7))
          (some [1, 2, 3])
          (cond (decide (kind0 = 8))
            (some [1])
            (cond (decide (kind0 = 9))
              (some [3])
              (cond (decide (kind0 = 11))
                (some [11, 12, 13])
                (cond (decide (kind0 = 12))
                  (some [14])
                  (some []))))))))
theorem e81 (L : Lp)  (x : s81.args.den) (h : denH s81.heap) : nrun [] L n81 s81 x h = F81 L  x.1 := by kernel_rfl
def f81 : Int → Option (List Int) := F81 (@LN LOOPS) 
@[reducible] def t81 : Ent := ⟨81, s81, fun x h => f81 x.1⟩
theorem k81 : chkNF Try.prog Try.f81 n81 = true := by kernel_rfl
theorem ok81 : NOk Try.prog t81 := NOk.body (T := []) mixed nall_nil (oneEach_of (by kernel_rfl)) Try.func81 k81 (by kernel_rfl) (fun x h => e81 _  x h)
/- drayage/drayageref05.Right -/
def n34 : NFunc := ⟨9, .seq (.region 0 [
    ⟨(some 2), .move (.const (.bool false)), none, 0, none⟩] []) (.seq (.region 0 [
    ⟨(some 3), .move (.tmp 0), none, 0, none⟩,
    ⟨(some 4), .bin .geq (.tmp 3) (.const (.int .i64 (0))), none, 0, none⟩,
    ⟨(some 5), .move (.tmp 4), none, 0, none⟩,
    ⟨(some 6), .move (.tmp 0), (some (5, true)), 0, none⟩,
    ⟨(some 7), .bin .leq (.tmp 6) (.const (.int .i64 (281474976710656))), (some (5, true)), 0, none⟩,
    ⟨(some 8), .pick (.tmp 5) (.tmp 7) (.const (.bool false)), none, 0, none⟩,
    ⟨(some 2), .move (.tmp 8), none, 0, none⟩] []) (.ret)), [.tmp 2], true⟩
def s34 : Sig := ⟨(.cons (.v (.int .i64)) .nil), [], ((.v .bool), []), []⟩
def F34 (L : Lp)  (an0 : Int) : Option Bool :=
  cond (decide (0 ≤ an0))
    (some (decide (an0 ≤ 281474976710656)))
    (some false)
theorem e34 (L : Lp)  (x : s34.args.den) (h : denH s34.heap) : nrun [] L n34 s34 x h = F34 L  x.1 := by kernel_rfl
def f34 : Int → Option Bool := F34 (@LN LOOPS) 
@[reducible] def t34 : Ent := ⟨34, s34, fun x h => f34 x.1⟩
theorem k34 : chkNF Try.prog Try.f34 n34 = true := by kernel_rfl
theorem ok34 : NOk Try.prog t34 := NOk.body (T := []) mixed nall_nil (oneEach_of (by kernel_rfl)) Try.func34 k34 (by kernel_rfl) (fun x h => e34 _  x h)
/- drayage/drayageref08.Right -/
def n25 : NFunc := ⟨103, .seq (.region 1 [
    ⟨(some 1), .box 17 (.tmp 0), none, 0, none⟩,
    ⟨(some 2), .move (.const (.bool false)), none, 1, none⟩] []) (.seq (.join [1] [] ⟨[(1, (.ptr 0 0 0))], [], [.one false .request]⟩ (.seq (.region 0 [
    ⟨(some 9), .fieldAddr 0 (.tmp 1), none, 0, none⟩,
    ⟨(some 10), .load false 1 (.tmp 9), none, 0, none⟩,
    ⟨(some 11), .bin .lss (.tmp 10) (.const (.int .i64 (1))), none, 0, none⟩,
    ⟨(some 12), .move (.tmp 11), none, 0, none⟩,
    ⟨(some 13), .fieldAddr 0 (.tmp 1), (some (12, false)), 0, none⟩,
    ⟨(some 14), .load false 1 (.tmp 13), (some (12, false)), 0, none⟩,
    ⟨(some 15), .bin .gtr (.tmp 14) (.const (.int .i64 (12))), (some (12, false)), 0, none⟩,
    ⟨(some 16), .pick (.tmp 12) (.const (.bool true)) (.tmp 15), none, 0, none⟩,
    ⟨(some 17), .move (.tmp 16), none, 0, none⟩,
    ⟨(some 18), .fieldAddr 1 (.tmp 1), (some (17, false)), 0, none⟩,
    ⟨(some 19), .load false 1 (.tmp 18), (some (17, false)), 0, none⟩,
    ⟨(some 20), .bin .lss (.tmp 19) (.const (.int .i64 (1))), (some (17, false)), 0, none⟩,
    ⟨(some 21), .pick (.tmp 17) (.const (.bool true)) (.tmp 20), none, 0, none⟩,
    ⟨(some 22), .move (.tmp 21), none, 0, none⟩,
    ⟨(some 23), .fieldAddr 1 (.tmp 1), (some (22, false)), 0, none⟩,
    ⟨(some 24), .load false 1 (.tmp 23), (some (22, false)), 0, none⟩,
    ⟨(some 25), .bin .gtr (.tmp 24) (.const (.int .i64 (1073741824))), (some (22, false)), 0, none⟩,
    ⟨(some 26), .pick (.tmp 22) (.const (.bool true)) (.tmp 25), none, 0, none⟩,
    ⟨(some 27), .move (.tmp 26), none, 0, none⟩,
    ⟨(some 28), .fieldAddr 12 (.tmp 1), (some (27, false)), 0, none⟩,
    ⟨(some 29), .load false 1 (.tmp 28), (some (27, false)), 0, none⟩,
    ⟨(some 30), .len (.tmp 29), (some (27, false)), 0, none⟩,
    ⟨(some 31), .bin .gtr (.tmp 30) (.const (.int .i64 (4))), (some (27, false)), 0, none⟩,
    ⟨(some 32), .pick (.tmp 27) (.const (.bool true)) (.tmp 31), none, 0, none⟩,
    ⟨(some 33), .move (.tmp 32), none, 0, none⟩,
    ⟨(some 34), .fieldAddr 0 (.tmp 1), (some (33, false)), 0, none⟩,
    ⟨(some 35), .load false 1 (.tmp 34), (some (33, false)), 0, none⟩,
    ⟨(some 36), .bin .neq (.tmp 35) (.const (.int .i64 (1))), (some (33, false)), 0, none⟩,
    ⟨(some 37), .move (.tmp 36), (some (33, false)), 0, none⟩,
    ⟨(some 38), .fieldAddr 12 (.tmp 1), (some (37, true)), 0, none⟩,
    ⟨(some 39), .load false 1 (.tmp 38), (some (37, true)), 0, none⟩,
    ⟨(some 40), .len (.tmp 39), (some (37, true)), 0, none⟩,
    ⟨(some 41), .bin .gtr (.tmp 40) (.const (.int .i64 (0))), (some (37, true)), 0, none⟩,
    ⟨(some 42), .pick (.tmp 37) (.tmp 41) (.const (.bool false)), (some (33, false)), 0, none⟩,
    ⟨(some 43), .pick (.tmp 33) (.const (.bool true)) (.tmp 42), none, 0, none⟩] []) (.cond (.tmp 43) (.seq (.region 0 [
    ⟨(some 2), .move (.const (.bool false)), none, 0, none⟩] []) (.ret)) (.skip)))) (.seq (.region 4 [
    ⟨(some 44), .load true 17 (.tmp 1), none, 0, none⟩,
    ⟨(some 45), .call (.func 65) [(false, (.tmp 44))] false 4, none, 0, none⟩,
    ⟨(some 3), .move (.tmp 45), none, 4, none⟩] []) (.seq (.region 4 [
    ⟨(some 46), .fieldAddr 0 (.tmp 1), none, 0, none⟩,
    ⟨(some 47), .load false 1 (.tmp 46), none, 0, none⟩,
    ⟨(some 48), .call (.func 81) [(false, (.tmp 47))] false 4, none, 0, none⟩,
    ⟨(some 4), .move (.tmp 48), none, 4, none⟩] []) (.seq (.join [1] [] ⟨[(1, (.ptr 0 0 0))], [], [.one false .request]⟩ (.seq (.region 0 [
    ⟨(some 5), .move (.const (.int .i64 (1))), none, 0, none⟩] []) (.block 0 (.loopU [1, 3, 4, 5] 15 (.seq (.seq (.region 0 [
    ⟨(some 49), .move (.tmp 5), none, 0, none⟩,
    ⟨(some 50), .bin .lss (.tmp 49) (.const (.int .i64 (15))), none, 0, none⟩] []) (.cond (.tmp 50) (.skip) (.exit 0))) (.seq (.block 1 (.seq (.region 0 [
    ⟨(some 6), .move (.const (.bool false)), none, 0, none⟩] []) (.seq (.seq (.region 0 [
    ⟨(some 7), .move (.const (.int .i64 (0))), none, 0, none⟩] []) (.block 2 (.loop [1, 3, 4, 5, 6, 7] ⟨[(1, (.ptr 0 0 0)), (6, (.v .bool)), (7, (.v (.int .i64)))], [3, 4, 5], [.one false .request]⟩ (.seq (.seq (.region 0 [
    ⟨(some 53), .move (.tmp 7), none, 0, none⟩,
    ⟨(some 54), .move (.tmp 4), none, 0, none⟩,
    ⟨(some 55), .len (.tmp 54), none, 0, none⟩,
    ⟨(some 56), .bin .lss (.tmp 53) (.tmp 55), none, 0, none⟩] []) (.cond (.tmp 56) (.skip) (.exit 2))) (.seq (.block 3 (.region 0 [
    ⟨(some 59), .move (.tmp 6), none, 0, none⟩,
    ⟨(some 60), .move (.tmp 59), none, 0, none⟩,
    ⟨(some 61), .move (.tmp 4), (some (60, false)), 0, none⟩,
    ⟨(some 62), .move (.tmp 7), (some (60, false)), 0, none⟩,
    ⟨(some 63), .indexSl 1 (.tmp 61) (.tmp 62), (some (60, false)), 0, none⟩,
    ⟨(some 64), .load false 1 (.tmp 63), (some (60, false)), 0, none⟩,
    ⟨(some 65), .move (.tmp 5), (some (60, false)), 0, none⟩,
    ⟨(some 66), .bin .eql (.tmp 64) (.tmp 65), (some (60, false)), 0, none⟩,
    ⟨(some 67), .pick (.tmp 60) (.const (.bool true)) (.tmp 66), none, 0, none⟩,
    ⟨(some 6), .move (.tmp 67), none, 0, none⟩] [])) (.region 0 [
    ⟨(some 57), .move (.tmp 7), none, 0, none⟩,
    ⟨(some 58), .bin .add (.tmp 57) (.const (.int .i64 (1))), none, 0, none⟩,
    ⟨(some 7), .move (.tmp 58), none, 0, none⟩] [])))))) (.seq (.meet [1, 3, 4, 5, 87] [] ⟨[(1, (.ptr 0 0 0)), (87, (.v .bool))], [3, 4, 5], [.one false .request]⟩ (.region 4 [
    ⟨(some 68), .move (.tmp 6), none, 0, none⟩,
    ⟨(some 69), .move (.tmp 68), none, 0, none⟩,
    ⟨(some 70), .move (.tmp 3), (some (69, true)), 0, none⟩,
    ⟨(some 71), .move (.tmp 5), (some (69, true)), 0, none⟩,
    ⟨(some 72), .indexSl 1 (.tmp 70) (.tmp 71), (some (69, true)), 0, none⟩,
    ⟨(some 73), .load false 1 (.tmp 72), (some (69, true)), 0, none⟩,
    ⟨(some 74), .call (.func 34) [(false, (.tmp 73))] false 4, (some (69, true)), 0, none⟩,
    ⟨(some 75), .un .not (.tmp 74), (some (69, true)), 4, none⟩,
    ⟨(some 76), .pick (.tmp 69) (.tmp 75) (.const (.bool false)), none, 4, none⟩,
    ⟨(some 77), .move (.tmp 76), none, 4, none⟩,
    ⟨(some 78), .move (.tmp 6), (some (77, false)), 4, none⟩,
    ⟨(some 79), .un .not (.tmp 78), (some (77, false)), 4, none⟩,
    ⟨(some 80), .move (.tmp 79), (some (77, false)), 4, none⟩,
    ⟨(some 81), .move (.tmp 3), (some (80, true)), 4, none⟩,
    ⟨(some 82), .move (.tmp 5), (some (80, true)), 4, none⟩,
    ⟨(some 83), .indexSl 1 (.tmp 81) (.tmp 82), (some (80, true)), 4, none⟩,
    ⟨(some 84), .load false 1 (.tmp 83), (some (80, true)), 4, none⟩,
    ⟨(some 85), .bin .neq (.tmp 84) (.const (.int .i64 (0))), (some (80, true)), 4, none⟩,
    ⟨(some 86), .pick (.tmp 80) (.tmp 85) (.const (.bool false)), (some (77, false)), 4, none⟩,
    ⟨(some 87), .pick (.tmp 77) (.const (.bool true)) (.tmp 86), none, 4, none⟩] [])) (.cond (.tmp 87) (.seq (.region 0 [
    ⟨(some 2), .move (.const (.bool false)), none, 0, none⟩] []) (.ret)) (.skip)))))) (.region 0 [
    ⟨(some 51), .move (.tmp 5), none, 0, none⟩,
    ⟨(some 52), .bin .add (.tmp 51) (.const (.int .i64 (1))), none, 0, none⟩,
    ⟨(some 5), .move (.tmp 52), none, 0, none⟩] []))))))) (.seq (.seq (.region 0 [
    ⟨(some 8), .move (.const (.int .i64 (0))), none, 0, none⟩] []) (.block 4 (.loop [1, 8] ⟨[(1, (.ptr 0 0 0)), (8, (.v (.int .i64)))], [], [.one false .request]⟩ (.seq (.seq (.region 0 [
    ⟨(some 88), .move (.tmp 8), none, 0, none⟩,
    ⟨(some 89), .fieldAddr 12 (.tmp 1), none, 0, none⟩,
    ⟨(some 90), .load false 1 (.tmp 89), none, 0, none⟩,
    ⟨(some 91), .len (.tmp 90), none, 0, none⟩,
    ⟨(some 92), .bin .lss (.tmp 88) (.tmp 91), none, 0, none⟩] []) (.cond (.tmp 92) (.skip) (.exit 4))) (.seq (.block 5 (.seq (.region 4 [
    ⟨(some 95), .fieldAddr 12 (.tmp 1), none, 0, none⟩,
    ⟨(some 96), .load false 1 (.tmp 95), none, 0, none⟩,
    ⟨(some 97), .move (.tmp 8), none, 0, none⟩,
    ⟨(some 98), .indexSl 2 (.tmp 96) (.tmp 97), none, 0, none⟩,
    ⟨(some 99), .fieldAddr 0 (.tmp 98), none, 0, none⟩,
    ⟨(some 100), .load false 1 (.tmp 99), none, 0, none⟩,
    ⟨(some 101), .call (.func 34) [(false, (.tmp 100))] false 4, none, 0, none⟩,
    ⟨(some 102), .un .not (.tmp 101), none, 4, none⟩] []) (.cond (.tmp 102) (.seq (.region 0 [
    ⟨(some 2), .move (.const (.bool false)), none, 0, none⟩] []) (.ret)) (.skip)))) (.region 0 [
    ⟨(some 93), .move (.tmp 8), none, 0, none⟩,
    ⟨(some 94), .bin .add (.tmp 93) (.const (.int .i64 (1))), none, 0, none⟩,
    ⟨(some 8), .move (.tmp 94), none, 0, none⟩] [])))))) (.seq (.region 0 [
    ⟨(some 2), .move (.const (.bool true)), none, 0, none⟩] []) (.ret))))))), [.tmp 2], true⟩
def s25 : Sig := ⟨(.cons (.v .request) .nil), [], ((.v .bool), []), []⟩
def l25_0 (g34 : Int → Option Bool) (r2 : (List Int)) (r3 : (List Int)) (nx148 : ((Unit × (Bool × (Int × Unit))) × (Request × Unit)) → Option (((Unit × Unit) × (Request × Unit)) ⊕ Bool)) (mine149 : Bool) (zk150 : Int) (z151 : Request) : Option (((Unit × Unit) × (Request × Unit)) ⊕ Bool) :=
  cond (decide (zk150 < (List.length r3 : Int)))
    (cond mine149
      (nx148 (((), true, IntKind.wrap .i64 (zk150 + 1), ()), (z151, ())))
      (cond (decide (0 ≤ zk150))
        (Option.bind (r3[Int.toNat zk150]?) fun y152 =>
        nx148 (((), decide (y152 = 14), IntKind.wrap .i64 (zk150 + 1), ()), (z151, ())))
        (none)))
    (Option.bind (α := ((Unit × (Bool × Unit)) × (Request × Unit)))
      (cond mine149
        (Option.bind (r2[14]?) fun y153 =>
        Option.bind (g34 y153) fun r154 =>
        cond (!r154)
          (some (((), true, ()), (z151, ())))
          (cond (!mine149)
            (Option.bind (r2[14]?) fun y155 =>
            some (((), !decide (y155 = 0), ()), (z151, ())))
            (some (((), false, ()), (z151, ())))))
        (cond (!mine149)
          (Option.bind (r2[14]?) fun y156 =>
          some (((), !decide (y156 = 0), ()), (z151, ())))
          (some (((), false, ()), (z151, ()))))) fun x157 =>
    cond x157.1.2.1
      (some (.inr false))
      (some (.inl (((), ()), (x157.2.1, ())))))
def l25_1 (L : Lp) (g34 : Int → Option Bool) (r2 : (List Int)) (r3 : (List Int)) (nx137 : ((Unit × (Bool × (Int × Unit))) × (Request × Unit)) → Option (((Unit × Unit) × (Request × Unit)) ⊕ Bool)) (mine138 : Bool) (zk139 : Int) (z140 : Request) : Option (((Unit × Unit) × (Request × Unit)) ⊕ Bool) :=
  cond (decide (zk139 < (List.length r3 : Int)))
    (cond mine138
      (nx137 (((), true, IntKind.wrap .i64 (zk139 + 1), ()), (z140, ())))
      (cond (decide (0 ≤ zk139))
        (Option.bind (r3[Int.toNat zk139]?) fun y141 =>
        nx137 (((), decide (y141 = 13), IntKind.wrap .i64 (zk139 + 1), ()), (z140, ())))
        (none)))
    (Option.bind (α := ((Unit × (Bool × Unit)) × (Request × Unit)))
      (cond mine138
        (Option.bind (r2[13]?) fun y142 =>
        Option.bind (g34 y142) fun r143 =>
        cond (!r143)
          (some (((), true, ()), (z140, ())))
          (cond (!mine138)
            (Option.bind (r2[13]?) fun y144 =>
            some (((), !decide (y144 = 0), ()), (z140, ())))
            (some (((), false, ()), (z140, ())))))
        (cond (!mine138)
          (Option.bind (r2[13]?) fun y145 =>
          some (((), !decide (y145 = 0), ()), (z140, ())))
          (some (((), false, ()), (z140, ()))))) fun x146 =>
    cond x146.1.2.1
      (some (.inr false))
      (L (fun (s147 : ((Unit × (Bool × (Int × Unit))) × (Request × Unit))) nx148 => l25_0 g34 r2 r3 nx148 s147.1.2.1 s147.1.2.2.1 s147.2.1) (((), false, 0, ()), (x146.2.1, ()))))
def l25_2 (L : Lp) (g34 : Int → Option Bool) (r2 : (List Int)) (r3 : (List Int)) (nx126 : ((Unit × (Bool × (Int × Unit))) × (Request × Unit)) → Option (((Unit × Unit) × (Request × Unit)) ⊕ Bool)) (mine127 : Bool) (zk128 : Int) (z129 : Request) : Option (((Unit × Unit) × (Request × Unit)) ⊕ Bool) :=
  cond (decide (zk128 < (List.length r3 : Int)))
    (cond mine127
      (nx126 (((), true, IntKind.wrap .i64 (zk128 + 1), ()), (z129, ())))
      (cond (decide (0 ≤ zk128))
        (Option.bind (r3[Int.toNat zk128]?) fun y130 =>
        nx126 (((), decide (y130 = 12), IntKind.wrap .i64 (zk128 + 1), ()), (z129, ())))
        (none)))
    (Option.bind (α := ((Unit × (Bool × Unit)) × (Request × Unit)))
      (cond mine127
        (Option.bind (r2[12]?) fun y131 =>
        Option.bind (g34 y131) fun r132 =>
        cond (!r132)
          (some (((), true, ()), (z129, ())))
          (cond (!mine127)
            (Option.bind (r2[12]?) fun y133 =>
            some (((), !decide (y133 = 0), ()), (z129, ())))
            (some (((), false, ()), (z129, ())))))
        (cond (!mine127)
          (Option.bind (r2[12]?) fun y134 =>
          some (((), !decide (y134 = 0), ()), (z129, ())))
          (some (((), false, ()), (z129, ()))))) fun x135 =>
    cond x135.1.2.1
      (some (.inr false))
      (L (fun (s136 : ((Unit × (Bool × (Int × Unit))) × (Request × Unit))) nx137 => l25_1 L g34 r2 r3 nx137 s136.1.2.1 s136.1.2.2.1 s136.2.1) (((), false, 0, ()), (x135.2.1, ()))))
def l25_3 (L : Lp) (g34 : Int → Option Bool) (r2 : (List Int)) (r3 : (List Int)) (nx115 : ((Unit × (Bool × (Int × Unit))) × (Request × Unit)) → Option (((Unit × Unit) × (Request × Unit)) ⊕ Bool)) (mine116 : Bool) (zk117 : Int) (z118 : Request) : Option (((Unit × Unit) × (Request × Unit)) ⊕ Bool) :=
  cond (decide (zk117 < (List.length r3 : Int)))
    (cond mine116
      (nx115 (((), true, IntKind.wrap .i64 (zk117 + 1), ()), (z118, ())))
      (cond (decide (0 ≤ zk117))
        (Option.bind (r3[Int.toNat zk117]?) fun y119 =>
        nx115 (((), decide (y119 = 11), IntKind.wrap .i64 (zk117 + 1), ()), (z118, ())))
        (none)))
    (Option.bind (α := ((Unit × (Bool × Unit)) × (Request × Unit)))
      (cond mine116
        (Option.bind (r2[11]?) fun y120 =>
        Option.bind (g34 y120) fun r121 =>
        cond (!r121)
          (some (((), true, ()), (z118, ())))
          (cond (!mine116)
            (Option.bind (r2[11]?) fun y122 =>
            some (((), !decide (y122 = 0), ()), (z118, ())))
            (some (((), false, ()), (z118, ())))))
        (cond (!mine116)
          (Option.bind (r2[11]?) fun y123 =>
          some (((), !decide (y123 = 0), ()), (z118, ())))
          (some (((), false, ()), (z118, ()))))) fun x124 =>
    cond x124.1.2.1
      (some (.inr false))
      (L (fun (s125 : ((Unit × (Bool × (Int × Unit))) × (Request × Unit))) nx126 => l25_2 L g34 r2 r3 nx126 s125.1.2.1 s125.1.2.2.1 s125.2.1) (((), false, 0, ()), (x124.2.1, ()))))
def l25_4 (L : Lp) (g34 : Int → Option Bool) (r2 : (List Int)) (r3 : (List Int)) (nx104 : ((Unit × (Bool × (Int × Unit))) × (Request × Unit)) → Option (((Unit × Unit) × (Request × Unit)) ⊕ Bool)) (mine105 : Bool) (zk106 : Int) (z107 : Request) : Option (((Unit × Unit) × (Request × Unit)) ⊕ Bool) :=
  cond (decide (zk106 < (List.length r3 : Int)))
    (cond mine105
      (nx104 (((), true, IntKind.wrap .i64 (zk106 + 1), ()), (z107, ())))
      (cond (decide (0 ≤ zk106))
        (Option.bind (r3[Int.toNat zk106]?) fun y108 =>
        nx104 (((), decide (y108 = 10), IntKind.wrap .i64 (zk106 + 1), ()), (z107, ())))
        (none)))
    (Option.bind (α := ((Unit × (Bool × Unit)) × (Request × Unit)))
      (cond mine105
        (Option.bind (r2[10]?) fun y109 =>
        Option.bind (g34 y109) fun r110 =>
        cond (!r110)
          (some (((), true, ()), (z107, ())))
          (cond (!mine105)
            (Option.bind (r2[10]?) fun y111 =>
            some (((), !decide (y111 = 0), ()), (z107, ())))
            (some (((), false, ()), (z107, ())))))
        (cond (!mine105)
          (Option.bind (r2[10]?) fun y112 =>
          some (((), !decide (y112 = 0), ()), (z107, ())))
          (some (((), false, ()), (z107, ()))))) fun x113 =>
    cond x113.1.2.1
      (some (.inr false))
      (L (fun (s114 : ((Unit × (Bool × (Int × Unit))) × (Request × Unit))) nx115 => l25_3 L g34 r2 r3 nx115 s114.1.2.1 s114.1.2.2.1 s114.2.1) (((), false, 0, ()), (x113.2.1, ()))))
def l25_5 (L : Lp) (g34 : Int → Option Bool) (r2 : (List Int)) (r3 : (List Int)) (nx93 : ((Unit × (Bool × (Int × Unit))) × (Request × Unit)) → Option (((Unit × Unit) × (Request × Unit)) ⊕ Bool)) (mine94 : Bool) (zk95 : Int) (z96 : Request) : Option (((Unit × Unit) × (Request × Unit)) ⊕ Bool) :=
  cond (decide (zk95 < (List.length r3 : Int)))
    (cond mine94
      (nx93 (((), true, IntKind.wrap .i64 (zk95 + 1), ()), (z96, ())))
      (cond (decide (0 ≤ zk95))
        (Option.bind (r3[Int.toNat zk95]?) fun y97 =>
        nx93 (((), decide (y97 = 9), IntKind.wrap .i64 (zk95 + 1), ()), (z96, ())))
        (none)))
    (Option.bind (α := ((Unit × (Bool × Unit)) × (Request × Unit)))
      (cond mine94
        (Option.bind (r2[9]?) fun y98 =>
        Option.bind (g34 y98) fun r99 =>
        cond (!r99)
          (some (((), true, ()), (z96, ())))
          (cond (!mine94)
            (Option.bind (r2[9]?) fun y100 =>
            some (((), !decide (y100 = 0), ()), (z96, ())))
            (some (((), false, ()), (z96, ())))))
        (cond (!mine94)
          (Option.bind (r2[9]?) fun y101 =>
          some (((), !decide (y101 = 0), ()), (z96, ())))
          (some (((), false, ()), (z96, ()))))) fun x102 =>
    cond x102.1.2.1
      (some (.inr false))
      (L (fun (s103 : ((Unit × (Bool × (Int × Unit))) × (Request × Unit))) nx104 => l25_4 L g34 r2 r3 nx104 s103.1.2.1 s103.1.2.2.1 s103.2.1) (((), false, 0, ()), (x102.2.1, ()))))
def l25_6 (L : Lp) (g34 : Int → Option Bool) (r2 : (List Int)) (r3 : (List Int)) (nx82 : ((Unit × (Bool × (Int × Unit))) × (Request × Unit)) → Option (((Unit × Unit) × (Request × Unit)) ⊕ Bool)) (mine83 : Bool) (zk84 : Int) (z85 : Request) : Option (((Unit × Unit) × (Request × Unit)) ⊕ Bool) :=
  cond (decide (zk84 < (List.length r3 : Int)))
    (cond mine83
      (nx82 (((), true, IntKind.wrap .i64 (zk84 + 1), ()), (z85, ())))
      (cond (decide (0 ≤ zk84))
        (Option.bind (r3[Int.toNat zk84]?) fun y86 =>
        nx82 (((), decide (y86 = 8), IntKind.wrap .i64 (zk84 + 1), ()), (z85, ())))
        (none)))
    (Option.bind (α := ((Unit × (Bool × Unit)) × (Request × Unit)))
      (cond mine83
        (Option.bind (r2[8]?) fun y87 =>
        Option.bind (g34 y87) fun r88 =>
        cond (!r88)
          (some (((), true, ()), (z85, ())))
          (cond (!mine83)
            (Option.bind (r2[8]?) fun y89 =>
            some (((), !decide (y89 = 0), ()), (z85, ())))
            (some (((), false, ()), (z85, ())))))
        (cond (!mine83)
          (Option.bind (r2[8]?) fun y90 =>
          some (((), !decide (y90 = 0), ()), (z85, ())))
          (some (((), false, ()), (z85, ()))))) fun x91 =>
    cond x91.1.2.1
      (some (.inr false))
      (L (fun (s92 : ((Unit × (Bool × (Int × Unit))) × (Request × Unit))) nx93 => l25_5 L g34 r2 r3 nx93 s92.1.2.1 s92.1.2.2.1 s92.2.1) (((), false, 0, ()), (x91.2.1, ()))))
def l25_7 (L : Lp) (g34 : Int → Option Bool) (r2 : (List Int)) (r3 : (List Int)) (nx71 : ((Unit × (Bool × (Int × Unit))) × (Request × Unit)) → Option (((Unit × Unit) × (Request × Unit)) ⊕ Bool)) (mine72 : Bool) (zk73 : Int) (z74 : Request) : Option (((Unit × Unit) × (Request × Unit)) ⊕ Bool) :=
  cond (decide (zk73 < (List.length r3 : Int)))
    (cond mine72
      (nx71 (((), true, IntKind.wrap .i64 (zk73 + 1), ()), (z74, ())))
      (cond (decide (0 ≤ zk73))
        (Option.bind (r3[Int.toNat zk73]?) fun y75 =>
        nx71 (((), decide (y75 = 7), IntKind.wrap .i64 (zk73 + 1), ()), (z74, ())))
        (none)))
    (Option.bind (α := ((Unit × (Bool × Unit)) × (Request × Unit)))
      (cond mine72
        (Option.bind (r2[7]?) fun y76 =>
        Option.bind (g34 y76) fun r77 =>
        cond (!r77)
          (some (((), true, ()), (z74, ())))
          (cond (!mine72)
            (Option.bind (r2[7]?) fun y78 =>
            some (((), !decide (y78 = 0), ()), (z74, ())))
            (some (((), false, ()), (z74, ())))))
        (cond (!mine72)
          (Option.bind (r2[7]?) fun y79 =>
          some (((), !decide (y79 = 0), ()), (z74, ())))
          (some (((), false, ()), (z74, ()))))) fun x80 =>
    cond x80.1.2.1
      (some (.inr false))
      (L (fun (s81 : ((Unit × (Bool × (Int × Unit))) × (Request × Unit))) nx82 => l25_6 L g34 r2 r3 nx82 s81.1.2.1 s81.1.2.2.1 s81.2.1) (((), false, 0, ()), (x80.2.1, ()))))
def l25_8 (L : Lp) (g34 : Int → Option Bool) (r2 : (List Int)) (r3 : (List Int)) (nx60 : ((Unit × (Bool × (Int × Unit))) × (Request × Unit)) → Option (((Unit × Unit) × (Request × Unit)) ⊕ Bool)) (mine61 : Bool) (zk62 : Int) (z63 : Request) : Option (((Unit × Unit) × (Request × Unit)) ⊕ Bool) :=
  cond (decide (zk62 < (List.length r3 : Int)))
    (cond mine61
      (nx60 (((), true, IntKind.wrap .i64 (zk62 + 1), ()), (z63, ())))
      (cond (decide (0 ≤ zk62))
        (Option.bind (r3[Int.toNat zk62]?) fun y64 =>
        nx60 (((), decide (y64 = 6), IntKind.wrap .i64 (zk62 + 1), ()), (z63, ())))
        (none)))
    (Option.bind (α := ((Unit × (Bool × Unit)) × (Request × Unit)))
      (cond mine61
        (Option.bind (r2[6]?) fun y65 =>
        Option.bind (g34 y65) fun r66 =>
        cond (!r66)
          (some (((), true, ()), (z63, ())))
          (cond (!mine61)
            (Option.bind (r2[6]?) fun y67 =>
            some (((), !decide (y67 = 0), ()), (z63, ())))
            (some (((), false, ()), (z63, ())))))
        (cond (!mine61)
          (Option.bind (r2[6]?) fun y68 =>
          some (((), !decide (y68 = 0), ()), (z63, ())))
          (some (((), false, ()), (z63, ()))))) fun x69 =>
    cond x69.1.2.1
      (some (.inr false))
      (L (fun (s70 : ((Unit × (Bool × (Int × Unit))) × (Request × Unit))) nx71 => l25_7 L g34 r2 r3 nx71 s70.1.2.1 s70.1.2.2.1 s70.2.1) (((), false, 0, ()), (x69.2.1, ()))))
def l25_9 (L : Lp) (g34 : Int → Option Bool) (r2 : (List Int)) (r3 : (List Int)) (nx49 : ((Unit × (Bool × (Int × Unit))) × (Request × Unit)) → Option (((Unit × Unit) × (Request × Unit)) ⊕ Bool)) (mine50 : Bool) (zk51 : Int) (z52 : Request) : Option (((Unit × Unit) × (Request × Unit)) ⊕ Bool) :=
  cond (decide (zk51 < (List.length r3 : Int)))
    (cond mine50
      (nx49 (((), true, IntKind.wrap .i64 (zk51 + 1), ()), (z52, ())))
      (cond (decide (0 ≤ zk51))
        (Option.bind (r3[Int.toNat zk51]?) fun y53 =>
        nx49 (((), decide (y53 = 5), IntKind.wrap .i64 (zk51 + 1), ()), (z52, ())))
        (none)))
    (Option.bind (α := ((Unit × (Bool × Unit)) × (Request × Unit)))
      (cond mine50
        (Option.bind (r2[5]?) fun y54 =>
        Option.bind (g34 y54) fun r55 =>
        cond (!r55)
          (some (((), true, ()), (z52, ())))
          (cond (!mine50)
            (Option.bind (r2[5]?) fun y56 =>
            some (((), !decide (y56 = 0), ()), (z52, ())))
            (some (((), false, ()), (z52, ())))))
        (cond (!mine50)
          (Option.bind (r2[5]?) fun y57 =>
          some (((), !decide (y57 = 0), ()), (z52, ())))
          (some (((), false, ()), (z52, ()))))) fun x58 =>
    cond x58.1.2.1
      (some (.inr false))
      (L (fun (s59 : ((Unit × (Bool × (Int × Unit))) × (Request × Unit))) nx60 => l25_8 L g34 r2 r3 nx60 s59.1.2.1 s59.1.2.2.1 s59.2.1) (((), false, 0, ()), (x58.2.1, ()))))
def l25_10 (L : Lp) (g34 : Int → Option Bool) (r2 : (List Int)) (r3 : (List Int)) (nx38 : ((Unit × (Bool × (Int × Unit))) × (Request × Unit)) → Option (((Unit × Unit) × (Request × Unit)) ⊕ Bool)) (mine39 : Bool) (zk40 : Int) (z41 : Request) : Option (((Unit × Unit) × (Request × Unit)) ⊕ Bool) :=
  cond (decide (zk40 < (List.length r3 : Int)))
    (cond mine39
      (nx38 (((), true, IntKind.wrap .i64 (zk40 + 1), ()), (z41, ())))
      (cond (decide (0 ≤ zk40))
        (Option.bind (r3[Int.toNat zk40]?) fun y42 =>
        nx38 (((), decide (y42 = 4), IntKind.wrap .i64 (zk40 + 1), ()), (z41, ())))
        (none)))
    (Option.bind (α := ((Unit × (Bool × Unit)) × (Request × Unit)))
      (cond mine39
        (Option.bind (r2[4]?) fun y43 =>
        Option.bind (g34 y43) fun r44 =>
        cond (!r44)
          (some (((), true, ()), (z41, ())))
          (cond (!mine39)
            (Option.bind (r2[4]?) fun y45 =>
            some (((), !decide (y45 = 0), ()), (z41, ())))
            (some (((), false, ()), (z41, ())))))
        (cond (!mine39)
          (Option.bind (r2[4]?) fun y46 =>
          some (((), !decide (y46 = 0), ()), (z41, ())))
          (some (((), false, ()), (z41, ()))))) fun x47 =>
    cond x47.1.2.1
      (some (.inr false))
      (L (fun (s48 : ((Unit × (Bool × (Int × Unit))) × (Request × Unit))) nx49 => l25_9 L g34 r2 r3 nx49 s48.1.2.1 s48.1.2.2.1 s48.2.1) (((), false, 0, ()), (x47.2.1, ()))))
def l25_11 (L : Lp) (g34 : Int → Option Bool) (r2 : (List Int)) (r3 : (List Int)) (nx27 : ((Unit × (Bool × (Int × Unit))) × (Request × Unit)) → Option (((Unit × Unit) × (Request × Unit)) ⊕ Bool)) (mine28 : Bool) (zk29 : Int) (z30 : Request) : Option (((Unit × Unit) × (Request × Unit)) ⊕ Bool) :=
  cond (decide (zk29 < (List.length r3 : Int)))
    (cond mine28
      (nx27 (((), true, IntKind.wrap .i64 (zk29 + 1), ()), (z30, ())))
      (cond (decide (0 ≤ zk29))
        (Option.bind (r3[Int.toNat zk29]?) fun y31 =>
        nx27 (((), decide (y31 = 3), IntKind.wrap .i64 (zk29 + 1), ()), (z30, ())))
        (none)))
    (Option.bind (α := ((Unit × (Bool × Unit)) × (Request × Unit)))
      (cond mine28
        (Option.bind (r2[3]?) fun y32 =>
        Option.bind (g34 y32) fun r33 =>
        cond (!r33)
          (some (((), true, ()), (z30, ())))
          (cond (!mine28)
            (Option.bind (r2[3]?) fun y34 =>
            some (((), !decide (y34 = 0), ()), (z30, ())))
            (some (((), false, ()), (z30, ())))))
        (cond (!mine28)
          (Option.bind (r2[3]?) fun y35 =>
          some (((), !decide (y35 = 0), ()), (z30, ())))
          (some (((), false, ()), (z30, ()))))) fun x36 =>
    cond x36.1.2.1
      (some (.inr false))
      (L (fun (s37 : ((Unit × (Bool × (Int × Unit))) × (Request × Unit))) nx38 => l25_10 L g34 r2 r3 nx38 s37.1.2.1 s37.1.2.2.1 s37.2.1) (((), false, 0, ()), (x36.2.1, ()))))
def l25_12 (L : Lp) (g34 : Int → Option Bool) (r2 : (List Int)) (r3 : (List Int)) (nx16 : ((Unit × (Bool × (Int × Unit))) × (Request × Unit)) → Option (((Unit × Unit) × (Request × Unit)) ⊕ Bool)) (mine17 : Bool) (zk18 : Int) (z19 : Request) : Option (((Unit × Unit) × (Request × Unit)) ⊕ Bool) :=
  cond (decide (zk18 < (List.length r3 : Int)))
    (cond mine17
      (nx16 (((), true, IntKind.wrap .i64 (zk18 + 1), ()), (z19, ())))
      (cond (decide (0 ≤ zk18))
        (Option.bind (r3[Int.toNat zk18]?) fun y20 =>
        nx16 (((), decide (y20 = 2), IntKind.wrap .i64 (zk18 + 1), ()), (z19, ())))
        (none)))
    (Option.bind (α := ((Unit × (Bool × Unit)) × (Request × Unit)))
      (cond mine17
        (Option.bind (r2[2]?) fun y21 =>
        Option.bind (g34 y21) fun r22 =>
        cond (!r22)
          (some (((), true, ()), (z19, ())))
          (cond (!mine17)
            (Option.bind (r2[2]?) fun y23 =>
            some (((), !decide (y23 = 0), ()), (z19, ())))
            (some (((), false, ()), (z19, ())))))
        (cond (!mine17)
          (Option.bind (r2[2]?) fun y24 =>
          some (((), !decide (y24 = 0), ()), (z19, ())))
          (some (((), false, ()), (z19, ()))))) fun x25 =>
    cond x25.1.2.1
      (some (.inr false))
      (L (fun (s26 : ((Unit × (Bool × (Int × Unit))) × (Request × Unit))) nx27 => l25_11 L g34 r2 r3 nx27 s26.1.2.1 s26.1.2.2.1 s26.2.1) (((), false, 0, ()), (x25.2.1, ()))))
def l25_13 (L : Lp) (g34 : Int → Option Bool) (r2 : (List Int)) (r3 : (List Int)) (nx5 : ((Unit × (Bool × (Int × Unit))) × (Request × Unit)) → Option (((Unit × Unit) × (Request × Unit)) ⊕ Bool)) (mine6 : Bool) (zk7 : Int) (z8 : Request) : Option (((Unit × Unit) × (Request × Unit)) ⊕ Bool) :=
  cond (decide (zk7 < (List.length r3 : Int)))
    (cond mine6
      (nx5 (((), true, IntKind.wrap .i64 (zk7 + 1), ()), (z8, ())))
      (cond (decide (0 ≤ zk7))
        (Option.bind (r3[Int.toNat zk7]?) fun y9 =>
        nx5 (((), decide (y9 = 1), IntKind.wrap .i64 (zk7 + 1), ()), (z8, ())))
        (none)))
    (Option.bind (α := ((Unit × (Bool × Unit)) × (Request × Unit)))
      (cond mine6
        (Option.bind (r2[1]?) fun y10 =>
        Option.bind (g34 y10) fun r11 =>
        cond (!r11)
          (some (((), true, ()), (z8, ())))
          (cond (!mine6)
            (Option.bind (r2[1]?) fun y12 =>
            some (((), !decide (y12 = 0), ()), (z8, ())))
            (some (((), false, ()), (z8, ())))))
        (cond (!mine6)
          (Option.bind (r2[1]?) fun y13 =>
          some (((), !decide (y13 = 0), ()), (z8, ())))
          (some (((), false, ()), (z8, ()))))) fun x14 =>
    cond x14.1.2.1
      (some (.inr false))
      (L (fun (s15 : ((Unit × (Bool × (Int × Unit))) × (Request × Unit))) nx16 => l25_12 L g34 r2 r3 nx16 s15.1.2.1 s15.1.2.2.1 s15.2.1) (((), false, 0, ()), (x14.2.1, ()))))
def l25_14 (g34 : Int → Option Bool) (nx160 : ((Unit × (Int × Unit)) × (Request × Unit)) → Option Bool) (i161 : Int) (z162 : Request) : Option Bool :=
  cond (decide (i161 < (List.length z162.after : Int)))
    (cond (decide (0 ≤ i161))
      (Option.bind (z162.after[Int.toNat i161]?) fun y163 =>
      Option.bind (g34 y163.job) fun r164 =>
      cond (!r164)
        (some false)
        (nx160 (((), IntKind.wrap .i64 (i161 + 1), ()), (z162, ()))))
      (none))
    (some true)
def F25 (L : Lp) (g65 : Request → Option (List Int)) (g81 : Int → Option (List Int)) (g34 : Int → Option Bool) (ar0 : Request) : Option Bool :=
  Option.bind (α := (((Unit × Unit) × (Request × Unit)) ⊕ Bool))
    (cond (decide (ar0.kind < 1))
      (some (.inr false))
      (cond (decide (12 < ar0.kind))
        (some (.inr false))
        (cond (decide (ar0.key < 1))
          (some (.inr false))
          (cond (decide (1073741824 < ar0.key))
            (some (.inr false))
            (cond (decide (4 < (List.length ar0.after : Int)))
              (some (.inr false))
              (cond (!decide (ar0.kind = 1))
                (cond (decide (0 < (List.length ar0.after : Int)))
                  (some (.inr false))
                  (some (.inl (((), ()), (ar0, ())))))
                (some (.inl (((), ()), (ar0, ())))))))))) (Sum.elim (fun x1 =>
    Option.bind (g65 x1.2.1) fun r2 =>
    Option.bind (g81 x1.2.1.kind) fun r3 =>
    Option.bind (α := (((Unit × Unit) × (Request × Unit)) ⊕ Bool))
      (L (fun (s4 : ((Unit × (Bool × (Int × Unit))) × (Request × Unit))) nx5 => l25_13 L g34 r2 r3 nx5 s4.1.2.1 s4.1.2.2.1 s4.2.1) (((), false, 0, ()), (x1.2.1, ()))) (Sum.elim (fun x158 =>
      L (fun (s159 : ((Unit × (Int × Unit)) × (Request × Unit))) nx160 => l25_14 g34 nx160 s159.1.2.1 s159.2.1) (((), 0, ()), (x158.2.1, ()))) some)) some)
theorem e25 (L : Lp) (g65 : Request → Option (List Int)) (g81 : Int → Option (List Int)) (g34 : Int → Option Bool) (x : s25.args.den) (h : denH s25.heap) : nrun [⟨65, s65, fun x h => g65 x.1⟩, ⟨81, s81, fun x h => g81 x.1⟩, ⟨34, s34, fun x h => g34 x.1⟩] L n25 s25 x h = F25 L g65 g81 g34 x.1 := by kernel_rfl
def f25 : Request → Option Bool := F25 (@LN LOOPS) f65 f81 f34
@[reducible] def t25 : Ent := ⟨25, s25, fun x h => f25 x.1⟩
theorem k25 : chkNF Try.prog Try.f25 n25 = true := by kernel_rfl
theorem ok25 : NOk Try.prog t25 := NOk.body (T := [t65, t81, t34]) mixed (nall_cons ok65 (nall_cons ok81 (nall_cons ok34 nall_nil))) (oneEach_of (by kernel_rfl)) Try.func25 k25 (by kernel_rfl) (fun x h => e25 _ _ _ _ x h)
/- bytes.Clone -/
def n109 : NFunc := ⟨8, .seq (.region 0 [
    ⟨(some 2), .move (.const (.zsl)), none, 0, none⟩] []) (.seq (.seq (.region 0 [
    ⟨(some 3), .move (.tmp 0), none, 0, none⟩,
    ⟨(some 4), .eqI false (.tmp 3) (.const (.zsl)), none, 0, none⟩] []) (.cond (.tmp 4) (.seq (.region 0 [
    ⟨(some 2), .move (.const (.zsl)), none, 0, none⟩] []) (.ret)) (.skip))) (.seq (.region 2 [
    ⟨(some 5), .buildSlice 1 0 true [.int .u8 (0)] [], none, 0, none⟩,
    ⟨(some 6), .move (.tmp 0), none, 1, none⟩,
    ⟨(some 7), .append 1 1 true (.tmp 5) (.tmp 6), none, 1, none⟩,
    ⟨(some 2), .move (.tmp 7), none, 2, none⟩] []) (.ret))), [.tmp 2], false⟩
def s109 : Sig := ⟨(.cons (.v (.list (.int .u8))) .nil), [], ((.slw 0 1), [.typed (.int .u8)]), []⟩
def F109 (L : Lp)  (b0 : (List Int)) : Option (Unit × ((List Int) × Unit)) :=
  cond (List.isEmpty b0)
    (none)
    (cond (smallB (0 + (List.length b0)) 1)
      (some ((), ([] ++ b0, ())))
      (none))
theorem e109 (L : Lp)  (x : s109.args.den) (h : denH s109.heap) : nrun [] L n109 s109 x h = F109 L  x.1 := by kernel_rfl
def f109 : (List Int) → Option (Unit × ((List Int) × Unit)) := cloneF (F109 (@LN LOOPS))
@[reducible] def t109 : Ent := ⟨109, s109, fun x h => f109 x.1⟩
theorem k109 : chkNF Try.prog Try.f109 n109 = true := by kernel_rfl
theorem c109 (A : Option Addr) (c : Nat) (w : World) : Calls Try.prog 109 #[.slice A 0 c] w (fun e w' => ∃ A', e = .returned (.slice A' 0 0) ∧ Go.RowKit.Below w.heap.size w w') := by
  have hq := fun (u : World) => Lib.run_eql_slice_nil (P := Try.prog) u 29 5 A 0 c 0 0 Try.underlying29
  cases A with
  | none => (go_enter Try.func109, Try.ntmps109; go_wp2; go_ret; exact ⟨_, rfl, Go.RowKit.Below.refl _ _⟩)
  | some ad => (go_enter Try.func109, Try.ntmps109; go_wp2; go_ret; exact ⟨_, rfl, (Go.RowKit.Below.refl _ _).alloc (Nat.le_refl _) _⟩)
theorem b109 : NOk Try.prog ⟨109, s109, fun x h => F109 (@LN LOOPS) x.1⟩ := NOk.body (T := []) mixed nall_nil (oneEach_of (by kernel_rfl)) Try.func109 k109 (by kernel_rfl) (fun x h => e109 _  x h)
theorem ok109 : NOk Try.prog t109 := NOk.clone (t := (.int .u8)) b109 (clone_empty (.int .u8) b109.1 c109)
/- drayage/codec.New -/
def n69 : NFunc := ⟨7, .seq (.region 0 [
    ⟨(some 2), .move (.const (.nilp)), none, 0, none⟩] []) (.seq (.post [2] [.frzC 2 0] (.region 5 [
    ⟨(some 3), .move (.tmp 0), none, 0, none⟩,
    ⟨(some 4), .call (.func 109) [(false, (.tmp 3))] false 4, none, 0, none⟩,
    ⟨(some 5), .build [.zsl, .int .i64 (0)] [(0, 1, (.tmp 4))], none, 4, none⟩,
    ⟨(some 6), .box 2 (.tmp 5), none, 4, none⟩,
    ⟨(some 2), .move (.tmp 6), none, 5, none⟩] [])) (.ret)), [.tmp 2], false⟩
def s69 : Sig := ⟨(.cons (.v (.list (.int .u8))) .nil), [], ((.ptr 0 0 0), [.one false (.pair (.list (.int .u8)) (.int .i64))]), []⟩
def F69 (L : Lp) (g109 : (List Int) → Option (Unit × ((List Int) × Unit))) (b0 : (List Int)) : Option (Unit × (((List Int) × Int) × Unit)) :=
  Option.bind (g109 b0) fun r1 =>
  some ((), ((r1.2.1, 0), ()))
theorem e69 (L : Lp) (g109 : (List Int) → Option (Unit × ((List Int) × Unit))) (x : s69.args.den) (h : denH s69.heap) : nrun [⟨109, s109, fun x h => g109 x.1⟩] L n69 s69 x h = F69 L g109 x.1 := by kernel_rfl
def f69 : (List Int) → Option (Unit × (((List Int) × Int) × Unit)) := F69 (@LN LOOPS) f109
@[reducible] def t69 : Ent := ⟨69, s69, fun x h => f69 x.1⟩
theorem k69 : chkNF Try.prog Try.f69 n69 = true := by kernel_rfl
theorem ok69 : NOk Try.prog t69 := NOk.body (T := [t109]) mixed (nall_cons ok109 nall_nil) (oneEach_of (by kernel_rfl)) Try.func69 k69 (by kernel_rfl) (fun x h => e69 _ _ x h)
/- (*drayage/codec.Reader).fail -/
def n110 : NFunc := ⟨12, .seq (.region 0 [
    ⟨(some 4), .move (.const (.int .i64 (0))), none, 0, none⟩] []) (.seq (.region 0 [
    ⟨(some 5), .move (.tmp 0), none, 0, none⟩,
    ⟨(some 6), .move (.tmp 1), none, 0, none⟩,
    ⟨(some 7), .nilCheck (.tmp 5), none, 0, none⟩,
    ⟨(some 8), .fieldAddr 1 (.tmp 7), none, 0, none⟩,
    ⟨none, .store 1 (.tmp 8) (.tmp 6), none, 0, none⟩] []) (.seq (.region 0 [
    ⟨(some 9), .move (.tmp 0), none, 0, none⟩,
    ⟨(some 10), .nilCheck (.tmp 9), none, 0, none⟩,
    ⟨(some 11), .fieldAddr 0 (.tmp 10), none, 0, none⟩,
    ⟨none, .store 1 (.tmp 11) (.const (.zsl)), none, 0, none⟩] []) (.seq (.region 0 [
    ⟨(some 4), .move (.const (.int .i64 (0))), none, 0, none⟩] []) (.ret)))), [.tmp 4], true⟩
def s110 : Sig := ⟨(.cons (.ptr 0 0 0) (.cons (.v (.int .i64)) .nil)), [.one false (.pair (.list (.int .u8)) (.int .i64))], ((.v (.int .i64)), [.cell false (.cons .zsl (.cons (.v (.int .i64)) .nil))]), []⟩
def F110 (L : Lp)  (err0 : Int) (a1 : ((List Int) × Int)) : Option (Int × ((Unit × (Int × Unit)) × Unit)) :=
  some (0, (((), err0, ()), ()))
theorem e110 (L : Lp)  (x : s110.args.den) (h : denH s110.heap) : nrun [] L n110 s110 x h = F110 L  x.2.1 h.1 := by kernel_rfl
def f110 : Int → ((List Int) × Int) → Option (Int × ((Unit × (Int × Unit)) × Unit)) := F110 (@LN LOOPS) 
@[reducible] def t110 : Ent := ⟨110, s110, fun x h => f110 x.2.1 h.1⟩
theorem k110 : chkNF Try.prog Try.f110 n110 = true := by kernel_rfl
theorem ok110 : NOk Try.prog t110 := NOk.body (T := []) mixed nall_nil (oneEach_of (by kernel_rfl)) Try.func110 k110 (by kernel_rfl) (fun x h => e110 _  x h)
/- (*drayage/codec.Reader).Number -/
def n72 : NFunc := ⟨69, .seq (.region 0 [
    ⟨(some 2), .move (.const (.int .i64 (0))), none, 0, none⟩] []) (.scope 0 [0, 3, 4] ⟨[(0, (.ptr 0 0 0)), (3, (.v (.int .i64))), (4, (.v (.int .i64)))], [], [.one false (.pair (.list (.int .u8)) (.int .i64))]⟩ (.seq (.skip) (.seq (.seq (.region 0 [
    ⟨(some 15), .move (.tmp 4), none, 0, none⟩,
    ⟨(some 16), .bin .eql (.tmp 15) (.const (.int .i64 (8))), none, 0, none⟩] []) (.cond (.tmp 16) (.seq (.region 4 [
    ⟨(some 17), .move (.tmp 0), none, 0, none⟩,
    ⟨(some 18), .call (.func 110) [(true, (.tmp 17)), (false, (.const (.int .i64 (11))))] false 4, none, 0, none⟩,
    ⟨(some 2), .move (.tmp 18), none, 4, none⟩] []) (.ret)) (.skip))) (.seq (.seq (.region 0 [
    ⟨(some 19), .move (.tmp 4), none, 0, none⟩,
    ⟨(some 20), .move (.tmp 0), none, 0, none⟩,
    ⟨(some 21), .nilCheck (.tmp 20), none, 0, none⟩,
    ⟨(some 22), .fieldAddr 0 (.tmp 21), none, 0, none⟩,
    ⟨(some 23), .load false 1 (.tmp 22), none, 0, none⟩,
    ⟨(some 24), .len (.tmp 23), none, 0, none⟩,
    ⟨(some 25), .bin .eql (.tmp 19) (.tmp 24), none, 0, none⟩] []) (.cond (.tmp 25) (.seq (.region 4 [
    ⟨(some 26), .move (.tmp 0), none, 0, none⟩,
    ⟨(some 27), .call (.func 110) [(true, (.tmp 26)), (false, (.const (.int .i64 (10))))] false 4, none, 0, none⟩,
    ⟨(some 2), .move (.tmp 27), none, 4, none⟩] []) (.ret)) (.skip))) (.seq (.region 0 [
    ⟨(some 28), .move (.tmp 0), none, 0, none⟩,
    ⟨(some 29), .nilCheck (.tmp 28), none, 0, none⟩,
    ⟨(some 30), .fieldAddr 0 (.tmp 29), none, 0, none⟩,
    ⟨(some 31), .load false 1 (.tmp 30), none, 0, none⟩,
    ⟨(some 32), .move (.tmp 4), none, 0, none⟩,
    ⟨(some 33), .indexSl 1 (.tmp 31) (.tmp 32), none, 0, none⟩,
    ⟨(some 34), .load false 1 (.tmp 33), none, 0, none⟩,
    ⟨(some 35), .conv .i64 (.tmp 34), none, 0, none⟩,
    ⟨(some 5), .move (.tmp 35), none, 0, none⟩] []) (.seq (.region 0 [
    ⟨(some 36), .move (.tmp 3), none, 0, none⟩,
    ⟨(some 37), .move (.tmp 5), none, 0, none⟩,
    ⟨(some 38), .bin .rem (.tmp 37) (.const (.int .i64 (128))), none, 0, none⟩,
    ⟨(some 39), .move (.tmp 4), none, 0, none⟩,
    ⟨(some 40), .bin .mul (.const (.int .i64 (7))) (.tmp 39), none, 0, none⟩,
    ⟨(some 41), .bin .shl (.tmp 38) (.tmp 40), none, 0, none⟩,
    ⟨(some 42), .bin .add (.tmp 36) (.tmp 41), none, 0, none⟩,
    ⟨(some 3), .move (.tmp 42), none, 0, none⟩] []) (.seq (.region 0 [
    ⟨(some 43), .move (.tmp 4), none, 0, none⟩,
    ⟨(some 44), .bin .add (.tmp 43) (.const (.int .i64 (1))), none, 0, none⟩,
    ⟨(some 4), .move (.tmp 44), none, 0, none⟩] []) (.seq (.seq (.region 0 [
    ⟨(some 45), .move (.tmp 5), none, 0, none⟩,
    ⟨(some 46), .bin .geq (.tmp 45) (.const (.int .i64 (128))), none, 0, none⟩] []) (.cond (.tmp 46) (.goto 0) (.skip))) (.seq (.seq (.region 0 [
    ⟨(some 47), .move (.tmp 4), none, 0, none⟩,
    ⟨(some 48), .bin .gtr (.tmp 47) (.const (.int .i64 (1))), none, 0, none⟩,
    ⟨(some 49), .move (.tmp 48), none, 0, none⟩,
    ⟨(some 50), .move (.tmp 5), (some (49, true)), 0, none⟩,
    ⟨(some 51), .bin .eql (.tmp 50) (.const (.int .i64 (0))), (some (49, true)), 0, none⟩,
    ⟨(some 52), .pick (.tmp 49) (.tmp 51) (.const (.bool false)), none, 0, none⟩,
    ⟨(some 53), .move (.tmp 52), none, 0, none⟩,
    ⟨(some 54), .move (.tmp 3), (some (53, false)), 0, none⟩,
    ⟨(some 55), .bin .gtr (.tmp 54) (.const (.int .i64 (281474976710656))), (some (53, false)), 0, none⟩,
    ⟨(some 56), .pick (.tmp 53) (.const (.bool true)) (.tmp 55), none, 0, none⟩] []) (.cond (.tmp 56) (.seq (.region 4 [
    ⟨(some 57), .move (.tmp 0), none, 0, none⟩,
    ⟨(some 58), .call (.func 110) [(true, (.tmp 57)), (false, (.const (.int .i64 (11))))] false 4, none, 0, none⟩,
    ⟨(some 2), .move (.tmp 58), none, 4, none⟩] []) (.ret)) (.skip))) (.seq (.region 0 [
    ⟨(some 59), .move (.tmp 0), none, 0, none⟩,
    ⟨(some 60), .move (.tmp 0), none, 0, none⟩,
    ⟨(some 61), .nilCheck (.tmp 60), none, 0, none⟩,
    ⟨(some 62), .fieldAddr 0 (.tmp 61), none, 0, none⟩,
    ⟨(some 63), .load false 1 (.tmp 62), none, 0, none⟩,
    ⟨(some 64), .move (.tmp 4), none, 0, none⟩,
    ⟨(some 65), .slice 1 (.tmp 63) (some (.tmp 64)) none none, none, 0, none⟩,
    ⟨(some 66), .nilCheck (.tmp 59), none, 0, none⟩,
    ⟨(some 67), .fieldAddr 0 (.tmp 66), none, 0, none⟩,
    ⟨none, .store 1 (.tmp 67) (.tmp 65), none, 0, none⟩] []) (.seq (.region 0 [
    ⟨(some 68), .move (.tmp 3), none, 0, none⟩,
    ⟨(some 2), .move (.tmp 68), none, 0, none⟩] []) (.ret))))))))))) (.seq (.seq (.region 0 [
    ⟨(some 6), .move (.tmp 0), none, 0, none⟩,
    ⟨(some 7), .eqP false (.tmp 6) (.const (.nilp)), none, 0, none⟩,
    ⟨(some 8), .move (.tmp 7), none, 0, none⟩,
    ⟨(some 9), .move (.tmp 0), (some (8, false)), 0, none⟩,
    ⟨(some 10), .nilCheck (.tmp 9), (some (8, false)), 0, none⟩,
    ⟨(some 11), .fieldAddr 1 (.tmp 10), (some (8, false)), 0, none⟩,
    ⟨(some 12), .load false 1 (.tmp 11), (some (8, false)), 0, none⟩,
    ⟨(some 13), .bin .neq (.tmp 12) (.const (.int .i64 (0))), (some (8, false)), 0, none⟩,
    ⟨(some 14), .pick (.tmp 8) (.const (.bool true)) (.tmp 13), none, 0, none⟩] []) (.cond (.tmp 14) (.seq (.region 0 [
    ⟨(some 2), .move (.const (.int .i64 (0))), none, 0, none⟩] []) (.ret)) (.skip))) (.seq (.region 0 [
    ⟨(some 3), .move (.const (.int .i64 (0))), none, 0, none⟩,
    ⟨(some 4), .move (.const (.int .i64 (0))), none, 0, none⟩] []) (.seq (.label) (.seq (.seq (.region 0 [
    ⟨(some 15), .move (.tmp 4), none, 0, none⟩,
    ⟨(some 16), .bin .eql (.tmp 15) (.const (.int .i64 (8))), none, 0, none⟩] []) (.cond (.tmp 16) (.seq (.region 4 [
    ⟨(some 17), .move (.tmp 0), none, 0, none⟩,
    ⟨(some 18), .call (.func 110) [(true, (.tmp 17)), (false, (.const (.int .i64 (11))))] false 4, none, 0, none⟩,
    ⟨(some 2), .move (.tmp 18), none, 4, none⟩] []) (.ret)) (.skip))) (.seq (.seq (.region 0 [
    ⟨(some 19), .move (.tmp 4), none, 0, none⟩,
    ⟨(some 20), .move (.tmp 0), none, 0, none⟩,
    ⟨(some 21), .nilCheck (.tmp 20), none, 0, none⟩,
    ⟨(some 22), .fieldAddr 0 (.tmp 21), none, 0, none⟩,
    ⟨(some 23), .load false 1 (.tmp 22), none, 0, none⟩,
    ⟨(some 24), .len (.tmp 23), none, 0, none⟩,
    ⟨(some 25), .bin .eql (.tmp 19) (.tmp 24), none, 0, none⟩] []) (.cond (.tmp 25) (.seq (.region 4 [
    ⟨(some 26), .move (.tmp 0), none, 0, none⟩,
    ⟨(some 27), .call (.func 110) [(true, (.tmp 26)), (false, (.const (.int .i64 (10))))] false 4, none, 0, none⟩,
    ⟨(some 2), .move (.tmp 27), none, 4, none⟩] []) (.ret)) (.skip))) (.seq (.region 0 [
    ⟨(some 28), .move (.tmp 0), none, 0, none⟩,
    ⟨(some 29), .nilCheck (.tmp 28), none, 0, none⟩,
    ⟨(some 30), .fieldAddr 0 (.tmp 29), none, 0, none⟩,
    ⟨(some 31), .load false 1 (.tmp 30), none, 0, none⟩,
    ⟨(some 32), .move (.tmp 4), none, 0, none⟩,
    ⟨(some 33), .indexSl 1 (.tmp 31) (.tmp 32), none, 0, none⟩,
    ⟨(some 34), .load false 1 (.tmp 33), none, 0, none⟩,
    ⟨(some 35), .conv .i64 (.tmp 34), none, 0, none⟩,
    ⟨(some 5), .move (.tmp 35), none, 0, none⟩] []) (.seq (.region 0 [
    ⟨(some 36), .move (.tmp 3), none, 0, none⟩,
    ⟨(some 37), .move (.tmp 5), none, 0, none⟩,
    ⟨(some 38), .bin .rem (.tmp 37) (.const (.int .i64 (128))), none, 0, none⟩,
    ⟨(some 39), .move (.tmp 4), none, 0, none⟩,
    ⟨(some 40), .bin .mul (.const (.int .i64 (7))) (.tmp 39), none, 0, none⟩,
    ⟨(some 41), .bin .shl (.tmp 38) (.tmp 40), none, 0, none⟩,
    ⟨(some 42), .bin .add (.tmp 36) (.tmp 41), none, 0, none⟩,
    ⟨(some 3), .move (.tmp 42), none, 0, none⟩] []) (.seq (.region 0 [
    ⟨(some 43), .move (.tmp 4), none, 0, none⟩,
    ⟨(some 44), .bin .add (.tmp 43) (.const (.int .i64 (1))), none, 0, none⟩,
    ⟨(some 4), .move (.tmp 44), none, 0, none⟩] []) (.seq (.seq (.region 0 [
    ⟨(some 45), .move (.tmp 5), none, 0, none⟩,
    ⟨(some 46), .bin .geq (.tmp 45) (.const (.int .i64 (128))), none, 0, none⟩] []) (.cond (.tmp 46) (.goto 0) (.skip))) (.seq (.seq (.region 0 [
    ⟨(some 47), .move (.tmp 4), none, 0, none⟩,
    ⟨(some 48), .bin .gtr (.tmp 47) (.const (.int .i64 (1))), none, 0, none⟩,
    ⟨(some 49), .move (.tmp 48), none, 0, none⟩,
    ⟨(some 50), .move (.tmp 5), (some (49, true)), 0, none⟩,
    ⟨(some 51), .bin .eql (.tmp 50) (.const (.int .i64 (0))), (some (49, true)), 0, none⟩,
    ⟨(some 52), .pick (.tmp 49) (.tmp 51) (.const (.bool false)), none, 0, none⟩,
    ⟨(some 53), .move (.tmp 52), none, 0, none⟩,
    ⟨(some 54), .move (.tmp 3), (some (53, false)), 0, none⟩,
    ⟨(some 55), .bin .gtr (.tmp 54) (.const (.int .i64 (281474976710656))), (some (53, false)), 0, none⟩,
    ⟨(some 56), .pick (.tmp 53) (.const (.bool true)) (.tmp 55), none, 0, none⟩] []) (.cond (.tmp 56) (.seq (.region 4 [
    ⟨(some 57), .move (.tmp 0), none, 0, none⟩,
    ⟨(some 58), .call (.func 110) [(true, (.tmp 57)), (false, (.const (.int .i64 (11))))] false 4, none, 0, none⟩,
    ⟨(some 2), .move (.tmp 58), none, 4, none⟩] []) (.ret)) (.skip))) (.seq (.region 0 [
    ⟨(some 59), .move (.tmp 0), none, 0, none⟩,
    ⟨(some 60), .move (.tmp 0), none, 0, none⟩,
    ⟨(some 61), .nilCheck (.tmp 60), none, 0, none⟩,
    ⟨(some 62), .fieldAddr 0 (.tmp 61), none, 0, none⟩,
    ⟨(some 63), .load false 1 (.tmp 62), none, 0, none⟩,
    ⟨(some 64), .move (.tmp 4), none, 0, none⟩,
    ⟨(some 65), .slice 1 (.tmp 63) (some (.tmp 64)) none none, none, 0, none⟩,
    ⟨(some 66), .nilCheck (.tmp 59), none, 0, none⟩,
    ⟨(some 67), .fieldAddr 0 (.tmp 66), none, 0, none⟩,
    ⟨none, .store 1 (.tmp 67) (.tmp 65), none, 0, none⟩] []) (.seq (.region 0 [
    ⟨(some 68), .move (.tmp 3), none, 0, none⟩,
    ⟨(some 2), .move (.tmp 68), none, 0, none⟩] []) (.ret)))))))))))))), [.tmp 2], true⟩
def s72 : Sig := ⟨(.cons (.ptr 0 0 0) .nil), [.one false (.pair (.list (.int .u8)) (.int .i64))], ((.v (.int .i64)), [.one false (.pair (.list (.int .u8)) (.int .i64))]), []⟩
def l72_0 (g110 : Int → ((List Int) × Int) → Option (Int × ((Unit × (Int × Unit)) × Unit))) (nx5 : ((Unit × (Int × (Int × Unit))) × (((List Int) × Int) × Unit)) → Option (Int × (((List Int) × Int) × Unit))) (zn6 : Int) (i7 : Int) (z8 : ((List Int) × Int)) : Option (Int × (((List Int) × Int) × Unit)) :=
  cond (decide (i7 = 8))
    (Option.bind (g110 11 z8) fun r9 =>
    some (r9.1, (([], r9.2.1.2.1), ())))
    (cond (decide (i7 = (List.length z8.1 : Int)))
      (Option.bind (g110 10 z8) fun r10 =>
      some (r10.1, (([], r10.2.1.2.1), ())))
      (cond (decide (0 ≤ i7))
        (Option.bind (z8.1[Int.toNat i7]?) fun y11 =>
        cond (decide ((IntKind.wrap .i64 (7 * i7)) < 0))
          (none)
          (let v12 := IntKind.wrap .i64 ((Int.tmod (IntKind.wrap .i64 (y11)) 128) * 2 ^ (min (Int.toNat (IntKind.wrap .i64 (7 * i7))) 64))
          cond (decide (128 ≤ (IntKind.wrap .i64 (y11))))
            (nx5 (((), IntKind.wrap .i64 (zn6 + v12), IntKind.wrap .i64 (i7 + 1), ()), (z8, ())))
            (cond (decide (1 < (IntKind.wrap .i64 (i7 + 1))))
              (cond (decide ((IntKind.wrap .i64 (y11)) = 0))
                (Option.bind (g110 11 z8) fun r13 =>
                some (r13.1, (([], r13.2.1.2.1), ())))
                (cond (decide (281474976710656 < (IntKind.wrap .i64 (zn6 + v12))))
                  (Option.bind (g110 11 z8) fun r14 =>
                  some (r14.1, (([], r14.2.1.2.1), ())))
                  (cond (decide (0 ≤ (IntKind.wrap .i64 (i7 + 1))))
                    (cond (decide ((Int.toNat (IntKind.wrap .i64 (i7 + 1))) ≤ (List.length z8.1)))
                      (some (IntKind.wrap .i64 (zn6 + v12), ((List.drop (Int.toNat (IntKind.wrap .i64 (i7 + 1))) z8.1, z8.2), ())))
                      (none))
                    (none))))
              (cond (decide (281474976710656 < (IntKind.wrap .i64 (zn6 + v12))))
                (Option.bind (g110 11 z8) fun r15 =>
                some (r15.1, (([], r15.2.1.2.1), ())))
                (cond (decide (0 ≤ (IntKind.wrap .i64 (i7 + 1))))
                  (cond (decide ((Int.toNat (IntKind.wrap .i64 (i7 + 1))) ≤ (List.length z8.1)))
                    (some (IntKind.wrap .i64 (zn6 + v12), ((List.drop (Int.toNat (IntKind.wrap .i64 (i7 + 1))) z8.1, z8.2), ())))
                    (none))
                  (none))))))
        (none)))
def F72 (L : Lp) (g110 : Int → ((List Int) × Int) → Option (Int × ((Unit × (Int × Unit)) × Unit))) (a0 : ((List Int) × Int)) : Option (Int × (((List Int) × Int) × Unit)) :=
  cond (!decide (a0.2 = 0))
    (some (0, (a0, ())))
    (cond (decide (0 = (List.length a0.1 : Int)))
      (Option.bind (g110 10 a0) fun r1 =>
      some (r1.1, (([], r1.2.1.2.1), ())))
      (Option.bind (a0.1[0]?) fun y2 =>
      let v3 := IntKind.wrap .i64 ((Int.tmod (IntKind.wrap .i64 (y2)) 128) * 2 ^ (min (Int.toNat 0) 64))
      cond (decide (128 ≤ (IntKind.wrap .i64 (y2))))
        (L (fun (s4 : ((Unit × (Int × (Int × Unit))) × (((List Int) × Int) × Unit))) nx5 => l72_0 g110 nx5 s4.1.2.1 s4.1.2.2.1 s4.2.1) (((), IntKind.wrap .i64 (0 + v3), 1, ()), (a0, ())))
        (cond (decide (281474976710656 < (IntKind.wrap .i64 (0 + v3))))
          (Option.bind (g110 11 a0) fun r16 =>
          some (r16.1, (([], r16.2.1.2.1), ())))
          (cond (decide (1 ≤ (List.length a0.1)))
            (some (IntKind.wrap .i64 (0 + v3), ((List.drop 1 a0.1, a0.2), ())))
            (none)))))
theorem e72 (L : Lp) (g110 : Int → ((List Int) × Int) → Option (Int × ((Unit × (Int × Unit)) × Unit))) (x : s72.args.den) (h : denH s72.heap) : nrun [⟨110, s110, fun x h => g110 x.2.1 h.1⟩] L n72 s72 x h = F72 L g110 h.1 := by kernel_rfl
def f72 : ((List Int) × Int) → Option (Int × (((List Int) × Int) × Unit)) := F72 (@LN LOOPS) f110
@[reducible] def t72 : Ent := ⟨72, s72, fun x h => f72 h.1⟩
theorem k72 : chkNF Try.prog Try.f72 n72 = true := by kernel_rfl
theorem ok72 : NOk Try.prog t72 := NOk.body (T := [t110]) mixed (nall_cons ok110 nall_nil) (oneEach_of (by kernel_rfl)) Try.func72 k72 (by kernel_rfl) (fun x h => e72 _ _ x h)
/- (*drayage/codec.Reader).Err -/
def n82 : NFunc := ⟨9, .seq (.region 0 [
    ⟨(some 2), .move (.const (.int .i64 (0))), none, 0, none⟩] []) (.seq (.seq (.region 0 [
    ⟨(some 3), .move (.tmp 0), none, 0, none⟩,
    ⟨(some 4), .eqP false (.tmp 3) (.const (.nilp)), none, 0, none⟩] []) (.cond (.tmp 4) (.seq (.region 0 [
    ⟨(some 2), .move (.const (.int .i64 (1))), none, 0, none⟩] []) (.ret)) (.skip))) (.seq (.region 0 [
    ⟨(some 5), .move (.tmp 0), none, 0, none⟩,
    ⟨(some 6), .nilCheck (.tmp 5), none, 0, none⟩,
    ⟨(some 7), .fieldAddr 1 (.tmp 6), none, 0, none⟩,
    ⟨(some 8), .load false 1 (.tmp 7), none, 0, none⟩,
    ⟨(some 2), .move (.tmp 8), none, 0, none⟩] []) (.ret))), [.tmp 2], true⟩
def s82 : Sig := ⟨(.cons (.ptr 0 0 0) .nil), [.one false (.pair (.list (.int .u8)) (.int .i64))], ((.v (.int .i64)), [.one false (.pair (.list (.int .u8)) (.int .i64))]), []⟩
def F82 (L : Lp)  (a0 : ((List Int) × Int)) : Option (Int × (((List Int) × Int) × Unit)) :=
  some (a0.2, (a0, ()))
theorem e82 (L : Lp)  (x : s82.args.den) (h : denH s82.heap) : nrun [] L n82 s82 x h = F82 L  h.1 := by kernel_rfl
def f82 : ((List Int) × Int) → Option (Int × (((List Int) × Int) × Unit)) := F82 (@LN LOOPS) 
@[reducible] def t82 : Ent := ⟨82, s82, fun x h => f82 h.1⟩
theorem k82 : chkNF Try.prog Try.f82 n82 = true := by kernel_rfl
theorem ok82 : NOk Try.prog t82 := NOk.body (T := []) mixed nall_nil (oneEach_of (by kernel_rfl)) Try.func82 k82 (by kernel_rfl) (fun x h => e82 _  x h)
/- (*drayage/codec.Reader).Within -/
def n71 : NFunc := ⟨30, .seq (.region 0 [
    ⟨(some 6), .move (.const (.int .i64 (0))), none, 0, none⟩] []) (.seq (.region 4 [
    ⟨(some 8), .move (.tmp 0), none, 0, none⟩,
    ⟨(some 9), .call (.func 72) [(true, (.tmp 8))] false 4, none, 0, none⟩,
    ⟨(some 7), .move (.tmp 9), none, 4, none⟩] []) (.seq (.seq (.region 0 [
    ⟨(some 10), .move (.tmp 0), none, 0, none⟩,
    ⟨(some 11), .eqP false (.tmp 10) (.const (.nilp)), none, 0, none⟩,
    ⟨(some 12), .move (.tmp 11), none, 0, none⟩,
    ⟨(some 13), .move (.tmp 0), (some (12, false)), 0, none⟩,
    ⟨(some 14), .nilCheck (.tmp 13), (some (12, false)), 0, none⟩,
    ⟨(some 15), .fieldAddr 1 (.tmp 14), (some (12, false)), 0, none⟩,
    ⟨(some 16), .load false 1 (.tmp 15), (some (12, false)), 0, none⟩,
    ⟨(some 17), .bin .neq (.tmp 16) (.const (.int .i64 (0))), (some (12, false)), 0, none⟩,
    ⟨(some 18), .pick (.tmp 12) (.const (.bool true)) (.tmp 17), none, 0, none⟩] []) (.cond (.tmp 18) (.seq (.region 0 [
    ⟨(some 6), .move (.const (.int .i64 (0))), none, 0, none⟩] []) (.ret)) (.skip))) (.seq (.seq (.region 0 [
    ⟨(some 19), .move (.tmp 7), none, 0, none⟩,
    ⟨(some 20), .move (.tmp 1), none, 0, none⟩,
    ⟨(some 21), .bin .lss (.tmp 19) (.tmp 20), none, 0, none⟩,
    ⟨(some 22), .move (.tmp 21), none, 0, none⟩,
    ⟨(some 23), .move (.tmp 7), (some (22, false)), 0, none⟩,
    ⟨(some 24), .move (.tmp 2), (some (22, false)), 0, none⟩,
    ⟨(some 25), .bin .gtr (.tmp 23) (.tmp 24), (some (22, false)), 0, none⟩,
    ⟨(some 26), .pick (.tmp 22) (.const (.bool true)) (.tmp 25), none, 0, none⟩] []) (.cond (.tmp 26) (.seq (.region 4 [
    ⟨(some 27), .move (.tmp 0), none, 0, none⟩,
    ⟨(some 28), .call (.func 110) [(true, (.tmp 27)), (false, (.const (.int .i64 (11))))] false 4, none, 0, none⟩,
    ⟨(some 6), .move (.tmp 28), none, 4, none⟩] []) (.ret)) (.skip))) (.seq (.region 0 [
    ⟨(some 29), .move (.tmp 7), none, 0, none⟩,
    ⟨(some 6), .move (.tmp 29), none, 0, none⟩] []) (.ret))))), [.tmp 6], true⟩
def s71 : Sig := ⟨(.cons (.ptr 0 0 0) (.cons (.v (.int .i64)) (.cons (.v (.int .i64)) .nil))), [.one false (.pair (.list (.int .u8)) (.int .i64))], ((.v (.int .i64)), [.one false (.pair (.list (.int .u8)) (.int .i64))]), []⟩
def F71 (L : Lp) (g72 : ((List Int) × Int) → Option (Int × (((List Int) × Int) × Unit))) (g110 : Int → ((List Int) × Int) → Option (Int × ((Unit × (Int × Unit)) × Unit))) (lo0 : Int) (hi1 : Int) (a2 : ((List Int) × Int)) : Option (Int × (((List Int) × Int) × Unit)) :=
  Option.bind (g72 a2) fun r3 =>
  cond (!decide (r3.2.1.2 = 0))
    (some (0, (r3.2.1, ())))
    (cond (decide (r3.1 < lo0))
      (Option.bind (g110 11 r3.2.1) fun r4 =>
      some (r4.1, (([], r4.2.1.2.1), ())))
      (cond (decide (hi1 < r3.1))
        (Option.bind (g110 11 r3.2.1) fun r5 =>
        some (r5.1, (([], r5.2.1.2.1), ())))
        (some (r3.1, (r3.2.1, ())))))
theorem e71 (L : Lp) (g72 : ((List Int) × Int) → Option (Int × (((List Int) × Int) × Unit))) (g110 : Int → ((List Int) × Int) → Option (Int × ((Unit × (Int × Unit)) × Unit))) (x : s71.args.den) (h : denH s71.heap) : nrun [⟨72, s72, fun x h => g72 h.1⟩, ⟨110, s110, fun x h => g110 x.2.1 h.1⟩] L n71 s71 x h = F71 L g72 g110 x.2.1 x.2.2.1 h.1 := by kernel_rfl
def f71 : Int → Int → ((List Int) × Int) → Option (Int × (((List Int) × Int) × Unit)) := F71 (@LN LOOPS) f72 f110
@[reducible] def t71 : Ent := ⟨71, s71, fun x h => f71 x.2.1 x.2.2.1 h.1⟩
theorem k71 : chkNF Try.prog Try.f71 n71 = true := by kernel_rfl
theorem ok71 : NOk Try.prog t71 := NOk.body (T := [t72, t110]) mixed (nall_cons ok72 (nall_cons ok110 nall_nil)) (oneEach_of (by kernel_rfl)) Try.func71 k71 (by kernel_rfl) (fun x h => e71 _ _ _ x h)
/- drayage/ask.numbers -/
def n66_1 : NFunc := ⟨120, .split 0 0 13 (.seq (.region 0 [
    ⟨(some 2), .move (.const (.zsl)), none, 0, none⟩] []) (.seq (.region 0 [
    ⟨(some 3), .move (.const (.zsl)), none, 0, none⟩] []) (.seq (.seq (.region 0 [
    ⟨(some 4), .move (.tmp 0), none, 0, none⟩,
    ⟨(some 5), .nilCheck (.tmp 4), none, 0, none⟩,
    ⟨(some 6), .fieldAddr 0 (.tmp 5), none, 0, none⟩,
    ⟨(some 7), .load false 1 (.tmp 6), none, 0, none⟩] []) (.block 0 (.seq (.seq (.region 0 [
    ⟨(some 9), .bin .eql (.tmp 7) (.const (.int .i64 (2))), none, 0, none⟩,
    ⟨(some 8), .move (.tmp 9), none, 0, none⟩] []) (.cond (.tmp 8) (.skip) (.seq (.region 0 [
    ⟨(some 10), .bin .eql (.tmp 7) (.const (.int .i64 (3))), none, 0, none⟩,
    ⟨(some 8), .move (.tmp 10), none, 0, none⟩] []) (.cond (.tmp 8) (.skip) (.seq (.region 0 [
    ⟨(some 11), .bin .eql (.tmp 7) (.const (.int .i64 (4))), none, 0, none⟩,
    ⟨(some 8), .move (.tmp 11), none, 0, none⟩] []) (.cond (.tmp 8) (.skip) (.seq (.region 0 [
    ⟨(some 12), .bin .eql (.tmp 7) (.const (.int .i64 (5))), none, 0, none⟩,
    ⟨(some 8), .move (.tmp 12), none, 0, none⟩] []) (.cond (.tmp 8) (.skip) (.seq (.region 0 [
    ⟨(some 13), .bin .eql (.tmp 7) (.const (.int .i64 (6))), none, 0, none⟩,
    ⟨(some 8), .move (.tmp 13), none, 0, none⟩] []) (.cond (.tmp 8) (.skip) (.region 0 [
    ⟨(some 14), .bin .eql (.tmp 7) (.const (.int .i64 (7))), none, 0, none⟩,
    ⟨(some 8), .move (.tmp 14), none, 0, none⟩] []))))))))))) (.cond (.tmp 8) (.region 2 [
    ⟨(some 15), .move (.tmp 3), none, 0, (some ([], none))⟩,
    ⟨(some 16), .move (.tmp 0), none, 0, (some ([], none))⟩,
    ⟨(some 17), .nilCheck (.tmp 16), none, 0, (some ([], none))⟩,
    ⟨(some 18), .fieldAddr 2 (.tmp 17), none, 0, (some ([], none))⟩,
    ⟨(some 19), .move (.tmp 0), none, 0, (some ([], none))⟩,
    ⟨(some 20), .nilCheck (.tmp 19), none, 0, (some ([], none))⟩,
    ⟨(some 21), .fieldAddr 3 (.tmp 20), none, 0, (some ([], none))⟩,
    ⟨(some 22), .buildSlice 1 2 false [.nilp] [(0, (.tmp 18)), (1, (.tmp 21))], none, 0, (some ([], none))⟩,
    ⟨(some 23), .append 1 8 false (.tmp 15) (.tmp 22), none, 1, (some ([0], none))⟩,
    ⟨(some 3), .move (.tmp 23), none, 2, (some ([0, 1], none))⟩] []) (.seq (.region 0 [
    ⟨(some 25), .bin .eql (.tmp 7) (.const (.int .i64 (8))), none, 0, none⟩,
    ⟨(some 24), .move (.tmp 25), none, 0, none⟩] []) (.cond (.tmp 24) (.region 2 [
    ⟨(some 26), .move (.tmp 3), none, 0, none⟩,
    ⟨(some 27), .move (.tmp 0), none, 0, none⟩,
    ⟨(some 28), .nilCheck (.tmp 27), none, 0, none⟩,
    ⟨(some 29), .fieldAddr 2 (.tmp 28), none, 0, none⟩,
    ⟨(some 30), .buildSlice 1 1 false [.nilp] [(0, (.tmp 29))], none, 0, none⟩,
    ⟨(some 31), .append 1 8 false (.tmp 26) (.tmp 30), none, 1, none⟩,
    ⟨(some 3), .move (.tmp 31), none, 2, none⟩] []) (.seq (.region 0 [
    ⟨(some 33), .bin .eql (.tmp 7) (.const (.int .i64 (11))), none, 0, none⟩,
    ⟨(some 32), .move (.tmp 33), none, 0, none⟩] []) (.cond (.tmp 32) (.region 2 [
    ⟨(some 34), .move (.tmp 3), none, 0, (some ([], none))⟩,
    ⟨(some 35), .move (.tmp 0), none, 0, (some ([], none))⟩,
    ⟨(some 36), .nilCheck (.tmp 35), none, 0, (some ([], none))⟩,
    ⟨(some 37), .fieldAddr 13 (.tmp 36), none, 0, (some ([], none))⟩,
    ⟨(some 38), .move (.tmp 0), none, 0, (some ([], none))⟩,
    ⟨(some 39), .nilCheck (.tmp 38), none, 0, (some ([], none))⟩,
    ⟨(some 40), .fieldAddr 14 (.tmp 39), none, 0, (some ([], none))⟩,
    ⟨(some 41), .move (.tmp 0), none, 0, (some ([], none))⟩,
    ⟨(some 42), .nilCheck (.tmp 41), none, 0, (some ([], none))⟩,
    ⟨(some 43), .fieldAddr 15 (.tmp 42), none, 0, (some ([], none))⟩,
    ⟨(some 44), .buildSlice 1 3 false [.nilp] [(0, (.tmp 37)), (1, (.tmp 40)), (2, (.tmp 43))], none, 0, (some ([], none))⟩,
    ⟨(some 45), .append 1 8 false (.tmp 34) (.tmp 44), none, 1, (some ([0], none))⟩,
    ⟨(some 3), .move (.tmp 45), none, 2, (some ([0, 1], none))⟩] []) (.seq (.region 0 [
    ⟨(some 47), .bin .eql (.tmp 7) (.const (.int .i64 (12))), none, 0, none⟩,
    ⟨(some 46), .move (.tmp 47), none, 0, none⟩] []) (.cond (.tmp 46) (.region 2 [
    ⟨(some 48), .move (.tmp 3), none, 0, none⟩,
    ⟨(some 49), .move (.tmp 0), none, 0, none⟩,
    ⟨(some 50), .nilCheck (.tmp 49), none, 0, none⟩,
    ⟨(some 51), .fieldAddr 16 (.tmp 50), none, 0, none⟩,
    ⟨(some 52), .buildSlice 1 1 false [.nilp] [(0, (.tmp 51))], none, 0, none⟩,
    ⟨(some 53), .append 1 8 false (.tmp 48) (.tmp 52), none, 1, none⟩,
    ⟨(some 3), .move (.tmp 53), none, 2, none⟩] []) (.skip))))))))))) (.seq (.seq (.region 0 [
    ⟨(some 54), .move (.tmp 0), none, 0, none⟩,
    ⟨(some 55), .nilCheck (.tmp 54), none, 0, none⟩,
    ⟨(some 56), .fieldAddr 0 (.tmp 55), none, 0, none⟩,
    ⟨(some 57), .load false 1 (.tmp 56), none, 0, none⟩] []) (.block 1 (.seq (.block 4 (.seq (.block 3 (.seq (.block 2 (.seq (.seq (.seq (.region 0 [
    ⟨(some 59), .bin .eql (.tmp 57) (.const (.int .i64 (1))), none, 0, none⟩,
    ⟨(some 58), .move (.tmp 59), none, 0, none⟩] []) (.cond (.tmp 58) (.exit 2) (.skip))) (.seq (.seq (.region 0 [
    ⟨(some 61), .bin .eql (.tmp 57) (.const (.int .i64 (2))), none, 0, none⟩,
    ⟨(some 60), .move (.tmp 61), none, 0, none⟩] []) (.cond (.tmp 60) (.exit 3) (.skip))) (.seq (.seq (.region 0 [
    ⟨(some 63), .bin .eql (.tmp 57) (.const (.int .i64 (7))), none, 0, none⟩,
    ⟨(some 62), .move (.tmp 63), none, 0, none⟩] []) (.cond (.tmp 62) (.skip) (.region 0 [
    ⟨(some 64), .bin .eql (.tmp 57) (.const (.int .i64 (9))), none, 0, none⟩,
    ⟨(some 62), .move (.tmp 64), none, 0, none⟩] []))) (.cond (.tmp 62) (.exit 4) (.skip))))) (.exit 1))) (.region 2 [
    ⟨(some 65), .move (.tmp 3), none, 0, none⟩,
    ⟨(some 66), .move (.tmp 0), none, 0, none⟩,
    ⟨(some 67), .nilCheck (.tmp 66), none, 0, none⟩,
    ⟨(some 68), .fieldAddr 4 (.tmp 67), none, 0, none⟩,
    ⟨(some 69), .buildSlice 1 1 false [.nilp] [(0, (.tmp 68))], none, 0, none⟩,
    ⟨(some 70), .append 1 8 false (.tmp 65) (.tmp 69), none, 1, none⟩,
    ⟨(some 3), .move (.tmp 70), none, 2, none⟩] []))) (.seq (.seq (.region 2 [
    ⟨(some 71), .move (.tmp 3), none, 0, none⟩,
    ⟨(some 72), .move (.tmp 0), none, 0, none⟩,
    ⟨(some 73), .nilCheck (.tmp 72), none, 0, none⟩,
    ⟨(some 74), .fieldAddr 5 (.tmp 73), none, 0, none⟩,
    ⟨(some 75), .buildSlice 1 1 false [.nilp] [(0, (.tmp 74))], none, 0, none⟩,
    ⟨(some 76), .append 1 8 false (.tmp 71) (.tmp 75), none, 1, none⟩,
    ⟨(some 3), .move (.tmp 76), none, 2, none⟩] []) (.seq (.region 2 [
    ⟨(some 77), .move (.tmp 3), none, 0, (some ([], none))⟩,
    ⟨(some 78), .move (.tmp 0), none, 0, (some ([], none))⟩,
    ⟨(some 79), .nilCheck (.tmp 78), none, 0, (some ([], none))⟩,
    ⟨(some 80), .fieldAddr 6 (.tmp 79), none, 0, (some ([], none))⟩,
    ⟨(some 81), .fieldAddr 0 (.tmp 80), none, 0, (some ([], none))⟩,
    ⟨(some 82), .move (.tmp 0), none, 0, (some ([], none))⟩,
    ⟨(some 83), .nilCheck (.tmp 82), none, 0, (some ([], none))⟩,
    ⟨(some 84), .fieldAddr 6 (.tmp 83), none, 0, (some ([], none))⟩,
    ⟨(some 85), .fieldAddr 1 (.tmp 84), none, 0, (some ([], none))⟩,
    ⟨(some 86), .move (.tmp 0), none, 0, (some ([], none))⟩,
    ⟨(some 87), .nilCheck (.tmp 86), none, 0, (some ([], none))⟩,
    ⟨(some 88), .fieldAddr 6 (.tmp 87), none, 0, (some ([], none))⟩,
    ⟨(some 89), .fieldAddr 2 (.tmp 88), none, 0, (some ([], none))⟩,
    ⟨(some 90), .move (.tmp 0), none, 0, (some ([], none))⟩,
    ⟨(some 91), .nilCheck (.tmp 90), none, 0, (some ([], none))⟩,
    ⟨(some 92), .fieldAddr 6 (.tmp 91), none, 0, (some ([], none))⟩,
    ⟨(some 93), .fieldAddr 3 (.tmp 92), none, 0, (some ([], none))⟩,
    ⟨(some 94), .buildSlice 1 4 false [.nilp] [(0, (.tmp 81)), (1, (.tmp 85)), (2, (.tmp 89)), (3, (.tmp 93))], none, 0, (some ([], none))⟩,
    ⟨(some 95), .append 1 8 false (.tmp 77) (.tmp 94), none, 1, (some ([0], none))⟩,
    ⟨(some 3), .move (.tmp 95), none, 2, (some ([0, 1], none))⟩] []) (.region 2 [
    ⟨(some 96), .move (.tmp 3), none, 0, none⟩,
    ⟨(some 97), .move (.tmp 0), none, 0, none⟩,
    ⟨(some 98), .nilCheck (.tmp 97), none, 0, none⟩,
    ⟨(some 99), .fieldAddr 10 (.tmp 98), none, 0, none⟩,
    ⟨(some 100), .buildSlice 1 1 false [.nilp] [(0, (.tmp 99))], none, 0, none⟩,
    ⟨(some 101), .append 1 8 false (.tmp 96) (.tmp 100), none, 1, none⟩,
    ⟨(some 3), .move (.tmp 101), none, 2, none⟩] []))) (.exit 1)))) (.seq (.region 2 [
    ⟨(some 102), .move (.tmp 3), none, 0, none⟩,
    ⟨(some 103), .move (.tmp 0), none, 0, none⟩,
    ⟨(some 104), .nilCheck (.tmp 103), none, 0, none⟩,
    ⟨(some 105), .fieldAddr 4 (.tmp 104), none, 0, none⟩,
    ⟨(some 106), .buildSlice 1 1 false [.nilp] [(0, (.tmp 105))], none, 0, none⟩,
    ⟨(some 107), .append 1 8 false (.tmp 102) (.tmp 106), none, 1, none⟩,
    ⟨(some 3), .move (.tmp 107), none, 2, none⟩] []) (.exit 1))))) (.seq (.seq (.region 0 [
    ⟨(some 108), .move (.tmp 0), none, 0, none⟩,
    ⟨(some 109), .nilCheck (.tmp 108), none, 0, none⟩,
    ⟨(some 110), .fieldAddr 0 (.tmp 109), none, 0, none⟩,
    ⟨(some 111), .load false 1 (.tmp 110), none, 0, none⟩,
    ⟨(some 112), .bin .eql (.tmp 111) (.const (.int .i64 (1))), none, 0, none⟩] []) (.cond (.tmp 112) (.region 2 [
    ⟨(some 113), .move (.tmp 3), none, 0, none⟩,
    ⟨(some 114), .move (.tmp 0), none, 0, none⟩,
    ⟨(some 115), .nilCheck (.tmp 114), none, 0, none⟩,
    ⟨(some 116), .fieldAddr 11 (.tmp 115), none, 0, none⟩,
    ⟨(some 117), .buildSlice 1 1 false [.nilp] [(0, (.tmp 116))], none, 0, none⟩,
    ⟨(some 118), .append 1 8 false (.tmp 113) (.tmp 117), none, 1, none⟩,
    ⟨(some 3), .move (.tmp 118), none, 2, none⟩] []) (.skip))) (.seq (.region 0 [
    ⟨(some 119), .move (.tmp 3), none, 0, none⟩,
    ⟨(some 2), .move (.tmp 119), none, 0, none⟩] []) (.ret))))))), [.tmp 2], false⟩
def s66_1 : Sig := ⟨(.cons (.ptr 0 0 0) .nil), [.cell false (.cons (.v (.int .i64)) (.cons (.v (.int .i64)) (.cons (.v (.int .i64)) (.cons (.v (.int .i64)) (.cons (.v (.int .i64)) (.cons (.v (.int .i64)) (.cons (.v (.int .i64)) (.cons (.v (.int .i64)) (.cons (.v (.int .i64)) (.cons (.v (.int .i64)) (.cons (.v (.int .i64)) (.cons (.v (.int .i64)) (.cons .zsl (.cons (.v (.int .i64)) (.cons (.v (.int .i64)) (.cons (.v (.int .i64)) (.cons (.v (.int .i64)) .nil)))))))))))))))))], ((.slw 1 1), [.cell false (.cons (.v (.int .i64)) (.cons (.v (.int .i64)) (.cons (.v (.int .i64)) (.cons (.v (.int .i64)) (.cons (.v (.int .i64)) (.cons (.v (.int .i64)) (.cons (.v (.int .i64)) (.cons (.v (.int .i64)) (.cons (.v (.int .i64)) (.cons (.v (.int .i64)) (.cons (.v (.int .i64)) (.cons (.v (.int .i64)) (.cons .zsl (.cons (.v (.int .i64)) (.cons (.v (.int .i64)) (.cons (.v (.int .i64)) (.cons (.v (.int .i64)) .nil))))))))))))))))), .many 1 (.cons (.cons (.ptr 0 0 13) .nil) (.cons (.cons (.ptr 0 0 14) .nil) (.cons (.cons (.ptr 0 0 15) .nil) .nil)))]), [(.zsl, [.cell false (.cons (.v (.int .i64)) (.cons (.v (.int .i64)) (.cons (.v (.int .i64)) (.cons (.v (.int .i64)) (.cons (.v (.int .i64)) (.cons (.v (.int .i64)) (.cons (.v (.int .i64)) (.cons (.v (.int .i64)) (.cons (.v (.int .i64)) (.cons (.v (.int .i64)) (.cons (.v (.int .i64)) (.cons (.v (.int .i64)) (.cons .zsl (.cons (.v (.int .i64)) (.cons (.v (.int .i64)) (.cons (.v (.int .i64)) (.cons (.v (.int .i64)) .nil)))))))))))))))))]), ((.slw 1 1), [.cell false (.cons (.v (.int .i64)) (.cons (.v (.int .i64)) (.cons (.v (.int .i64)) (.cons (.v (.int .i64)) (.cons (.v (.int .i64)) (.cons (.v (.int .i64)) (.cons (.v (.int .i64)) (.cons (.v (.int .i64)) (.cons (.v (.int .i64)) (.cons (.v (.int .i64)) (.cons (.v (.int .i64)) (.cons (.v (.int .i64)) (.cons .zsl (.cons (.v (.int .i64)) (.cons (.v (.int .i64)) (.cons (.v (.int .i64)) (.cons (.v (.int .i64)) .nil))))))))))))))))), .cell false (.cons (.ptr 0 0 4) .nil)]), ((.slw 1 1), [.cell false (.cons (.v (.int .i64)) (.cons (.v (.int .i64)) (.cons (.v (.int .i64)) (.cons (.v (.int .i64)) (.cons (.v (.int .i64)) (.cons (.v (.int .i64)) (.cons (.v (.int .i64)) (.cons (.v (.int .i64)) (.cons (.v (.int .i64)) (.cons (.v (.int .i64)) (.cons (.v (.int .i64)) (.cons (.v (.int .i64)) (.cons .zsl (.cons (.v (.int .i64)) (.cons (.v (.int .i64)) (.cons (.v (.int .i64)) (.cons (.v (.int .i64)) .nil))))))))))))))))), .cell false (.cons (.ptr 0 0 2) .nil)]), ((.slw 1 1), [.cell false (.cons (.v (.int .i64)) (.cons (.v (.int .i64)) (.cons (.v (.int .i64)) (.cons (.v (.int .i64)) (.cons (.v (.int .i64)) (.cons (.v (.int .i64)) (.cons (.v (.int .i64)) (.cons (.v (.int .i64)) (.cons (.v (.int .i64)) (.cons (.v (.int .i64)) (.cons (.v (.int .i64)) (.cons (.v (.int .i64)) (.cons .zsl (.cons (.v (.int .i64)) (.cons (.v (.int .i64)) (.cons (.v (.int .i64)) (.cons (.v (.int .i64)) .nil))))))))))))))))), .many 1 (.cons (.cons (.ptr 0 0 2) .nil) (.cons (.cons (.ptr 0 0 3) .nil) (.cons (.cons (.ptr 0 0 4) .nil) .nil)))]), ((.slw 1 1), [.cell false (.cons (.v (.int .i64)) (.cons (.v (.int .i64)) (.cons (.v (.int .i64)) (.cons (.v (.int .i64)) (.cons (.v (.int .i64)) (.cons (.v (.int .i64)) (.cons (.v (.int .i64)) (.cons (.v (.int .i64)) (.cons (.v (.int .i64)) (.cons (.v (.int .i64)) (.cons (.v (.int .i64)) (.cons (.v (.int .i64)) (.cons .zsl (.cons (.v (.int .i64)) (.cons (.v (.int .i64)) (.cons (.v (.int .i64)) (.cons (.v (.int .i64)) .nil))))))))))))))))), .many 1 (.cons (.cons (.ptr 0 0 2) .nil) (.cons (.cons (.ptr 0 0 3) .nil) .nil))]), ((.slw 1 1), [.cell false (.cons (.v (.int .i64)) (.cons (.v (.int .i64)) (.cons (.v (.int .i64)) (.cons (.v (.int .i64)) (.cons (.v (.int .i64)) (.cons (.v (.int .i64)) (.cons (.v (.int .i64)) (.cons (.v (.int .i64)) (.cons (.v (.int .i64)) (.cons (.v (.int .i64)) (.cons (.v (.int .i64)) (.cons (.v (.int .i64)) (.cons .zsl (.cons (.v (.int .i64)) (.cons (.v (.int .i64)) (.cons (.v (.int .i64)) (.cons (.v (.int .i64)) .nil))))))))))))))))), .many 1 (.cons (.cons (.ptr 0 0 2) .nil) (.cons (.cons (.ptr 0 0 3) .nil) (.cons (.cons (.ptr 0 0 5) .nil) (.cons (.cons (.ptr 0 0 6) .nil) (.cons (.cons (.ptr 0 0 7) .nil) (.cons (.cons (.ptr 0 0 8) .nil) (.cons (.cons (.ptr 0 0 9) .nil) (.cons (.cons (.ptr 0 0 10) .nil) .nil))))))))]), ((.slw 1 1), [.cell false (.cons (.v (.int .i64)) (.cons (.v (.int .i64)) (.cons (.v (.int .i64)) (.cons (.v (.int .i64)) (.cons (.v (.int .i64)) (.cons (.v (.int .i64)) (.cons (.v (.int .i64)) (.cons (.v (.int .i64)) (.cons (.v (.int .i64)) (.cons (.v (.int .i64)) (.cons (.v (.int .i64)) (.cons (.v (.int .i64)) (.cons .zsl (.cons (.v (.int .i64)) (.cons (.v (.int .i64)) (.cons (.v (.int .i64)) (.cons (.v (.int .i64)) .nil))))))))))))))))), .many 1 (.cons (.cons (.ptr 0 0 4) .nil) (.cons (.cons (.ptr 0 0 5) .nil) (.cons (.cons (.ptr 0 0 6) .nil) (.cons (.cons (.ptr 0 0 7) .nil) (.cons (.cons (.ptr 0 0 8) .nil) (.cons (.cons (.ptr 0 0 9) .nil) (.cons (.cons (.ptr 0 0 10) .nil) (.cons (.cons (.ptr 0 0 11) .nil) .nil))))))))]), ((.slw 1 1), [.cell false (.cons (.v (.int .i64)) (.cons (.v (.int .i64)) (.cons (.v (.int .i64)) (.cons (.v (.int .i64)) (.cons (.v (.int .i64)) (.cons (.v (.int .i64)) (.cons (.v (.int .i64)) (.cons (.v (.int .i64)) (.cons (.v (.int .i64)) (.cons (.v (.int .i64)) (.cons (.v (.int .i64)) (.cons (.v (.int .i64)) (.cons .zsl (.cons (.v (.int .i64)) (.cons (.v (.int .i64)) (.cons (.v (.int .i64)) (.cons (.v (.int .i64)) .nil))))))))))))))))), .cell false (.cons (.ptr 0 0 16) .nil)])]⟩
@[reducible] def y66_1 : Type := ((Unit × ((Int × (Int × (Int × (Int × (Int × (Int × (Int × (Int × (Int × (Int × (Int × (Int × (Unit × (Int × (Int × (Int × (Int × Unit))))))))))))))))) × (((Unit × Unit) × ((Unit × Unit) × ((Unit × Unit) × Unit))) × Unit))) ⊕ ((Unit × ((Int × (Int × (Int × (Int × (Int × (Int × (Int × (Int × (Int × (Int × (Int × (Int × (Unit × (Int × (Int × (Int × (Int × Unit))))))))))))))))) × Unit)) ⊕ ((Unit × ((Int × (Int × (Int × (Int × (Int × (Int × (Int × (Int × (Int × (Int × (Int × (Int × (Unit × (Int × (Int × (Int × (Int × Unit))))))))))))))))) × ((Unit × Unit) × Unit))) ⊕ ((Unit × ((Int × (Int × (Int × (Int × (Int × (Int × (Int × (Int × (Int × (Int × (Int × (Int × (Unit × (Int × (Int × (Int × (Int × Unit))))))))))))))))) × ((Unit × Unit) × Unit))) ⊕ ((Unit × ((Int × (Int × (Int × (Int × (Int × (Int × (Int × (Int × (Int × (Int × (Int × (Int × (Unit × (Int × (Int × (Int × (Int × Unit))))))))))))))))) × (((Unit × Unit) × ((Unit × Unit) × ((Unit × Unit) × Unit))) × Unit))) ⊕ ((Unit × ((Int × (Int × (Int × (Int × (Int × (Int × (Int × (Int × (Int × (Int × (Int × (Int × (Unit × (Int × (Int × (Int × (Int × Unit))))))))))))))))) × (((Unit × Unit) × ((Unit × Unit) × Unit)) × Unit))) ⊕ ((Unit × ((Int × (Int × (Int × (Int × (Int × (Int × (Int × (Int × (Int × (Int × (Int × (Int × (Unit × (Int × (Int × (Int × (Int × Unit))))))))))))))))) × (((Unit × Unit) × ((Unit × Unit) × ((Unit × Unit) × ((Unit × Unit) × ((Unit × Unit) × ((Unit × Unit) × ((Unit × Unit) × ((Unit × Unit) × Unit)))))))) × Unit))) ⊕ ((Unit × ((Int × (Int × (Int × (Int × (Int × (Int × (Int × (Int × (Int × (Int × (Int × (Int × (Unit × (Int × (Int × (Int × (Int × Unit))))))))))))))))) × (((Unit × Unit) × ((Unit × Unit) × ((Unit × Unit) × ((Unit × Unit) × ((Unit × Unit) × ((Unit × Unit) × ((Unit × Unit) × ((Unit × Unit) × Unit)))))))) × Unit))) ⊕ (Unit × ((Int × (Int × (Int × (Int × (Int × (Int × (Int × (Int × (Int × (Int × (Int × (Int × (Unit × (Int × (Int × (Int × (Int × Unit))))))))))))))))) × ((Unit × Unit) × Unit)))))))))))
def F66_1 (L : Lp)  (a0 : Int) (a1 : Int) (a2 : Int) (a3 : Int) (a4 : Int) (a5 : Int) (a6 : Int) (a7 : Int) (a8 : Int) (a9 : Int) (a10 : Int) (a11 : Int) (a12 : Int) (a13 : Int) (a14 : Int) (a15 : Int) : Option y66_1 :=
  cond (decide (a0 = 12))
    (some (.inr (.inr (.inr (.inr (.inr (.inr (.inr (.inr ((), ((12, a1, a2, a3, a4, a5, a6, a7, a8, a9, a10, a11, (), a12, a13, a14, a15, ()), ((), ()), ())))))))))))
    (cond (decide (a0 = 11))
      (some (.inl ((), ((11, a1, a2, a3, a4, a5, a6, a7, a8, a9, a10, a11, (), a12, a13, a14, a15, ()), (((), ()), (((), ()), (((), ()), ()))), ()))))
      (cond (decide (a0 = 10))
        (some (.inr (.inl ((), ((10, a1, a2, a3, a4, a5, a6, a7, a8, a9, a10, a11, (), a12, a13, a14, a15, ()), ())))))
        (cond (decide (a0 = 9))
          (some (.inr (.inr (.inl ((), ((9, a1, a2, a3, a4, a5, a6, a7, a8, a9, a10, a11, (), a12, a13, a14, a15, ()), ((), ()), ()))))))
          (cond (decide (a0 = 8))
            (some (.inr (.inr (.inr (.inl ((), ((8, a1, a2, a3, a4, a5, a6, a7, a8, a9, a10, a11, (), a12, a13, a14, a15, ()), ((), ()), ())))))))
            (cond (decide (a0 = 7))
              (some (.inr (.inr (.inr (.inr (.inl ((), ((7, a1, a2, a3, a4, a5, a6, a7, a8, a9, a10, a11, (), a12, a13, a14, a15, ()), (((), ()), (((), ()), (((), ()), ()))), ()))))))))
              (cond (decide (a0 = 6))
                (some (.inr (.inr (.inr (.inr (.inr (.inl ((), ((6, a1, a2, a3, a4, a5, a6, a7, a8, a9, a10, a11, (), a12, a13, a14, a15, ()), (((), ()), (((), ()), ())), ())))))))))
                (cond (decide (a0 = 5))
                  (some (.inr (.inr (.inr (.inr (.inr (.inl ((), ((5, a1, a2, a3, a4, a5, a6, a7, a8, a9, a10, a11, (), a12, a13, a14, a15, ()), (((), ()), (((), ()), ())), ())))))))))
                  (cond (decide (a0 = 4))
                    (some (.inr (.inr (.inr (.inr (.inr (.inl ((), ((4, a1, a2, a3, a4, a5, a6, a7, a8, a9, a10, a11, (), a12, a13, a14, a15, ()), (((), ()), (((), ()), ())), ())))))))))
                    (cond (decide (a0 = 3))
                      (some (.inr (.inr (.inr (.inr (.inr (.inl ((), ((3, a1, a2, a3, a4, a5, a6, a7, a8, a9, a10, a11, (), a12, a13, a14, a15, ()), (((), ()), (((), ()), ())), ())))))))))
                      (cond (decide (a0 = 2))
                        (some (.inr (.inr (.inr (.inr (.inr (.inr (.inl ((), ((2, a1, a2, a3, a4, a5, a6, a7, a8, a9, a10, a11, (), a12, a13, a14, a15, ()), (((), ()), (((), ()), (((), ()), (((), ()), (((), ()), (((), ()), (((), ()), (((), ()), ())))))))), ()))))))))))
                        (cond (decide (a0 = 1))
                          (some (.inr (.inr (.inr (.inr (.inr (.inr (.inr (.inl ((), ((1, a1, a2, a3, a4, a5, a6, a7, a8, a9, a10, a11, (), a12, a13, a14, a15, ()), (((), ()), (((), ()), (((), ()), (((), ()), (((), ()), (((), ()), (((), ()), (((), ()), ())))))))), ())))))))))))
                          (cond (decide (a0 = 0))
                            (some (.inr (.inl ((), ((0, a1, a2, a3, a4, a5, a6, a7, a8, a9, a10, a11, (), a12, a13, a14, a15, ()), ())))))
                            (none)))))))))))))
theorem e66_1 (L : Lp)  (x : s66_1.args.den) (h : denH s66_1.heap) : nrun [] L n66_1 s66_1 x h = F66_1 L  h.1.1 h.1.2.1 h.1.2.2.1 h.1.2.2.2.1 h.1.2.2.2.2.1 h.1.2.2.2.2.2.1 h.1.2.2.2.2.2.2.1 h.1.2.2.2.2.2.2.2.1 h.1.2.2.2.2.2.2.2.2.1 h.1.2.2.2.2.2.2.2.2.2.1 h.1.2.2.2.2.2.2.2.2.2.2.1 h.1.2.2.2.2.2.2.2.2.2.2.2.1 h.1.2.2.2.2.2.2.2.2.2.2.2.2.2.1 h.1.2.2.2.2.2.2.2.2.2.2.2.2.2.2.1 h.1.2.2.2.2.2.2.2.2.2.2.2.2.2.2.2.1 h.1.2.2.2.2.2.2.2.2.2.2.2.2.2.2.2.2.1 := by kernel_rfl
def f66_1 : Int → Int → Int → Int → Int → Int → Int → Int → Int → Int → Int → Int → Int → Int → Int → Int → Option y66_1 := F66_1 (@LN LOOPS) 
@[reducible] def t66_1 : Ent := ⟨66, s66_1, fun x h => f66_1 h.1.1 h.1.2.1 h.1.2.2.1 h.1.2.2.2.1 h.1.2.2.2.2.1 h.1.2.2.2.2.2.1 h.1.2.2.2.2.2.2.1 h.1.2.2.2.2.2.2.2.1 h.1.2.2.2.2.2.2.2.2.1 h.1.2.2.2.2.2.2.2.2.2.1 h.1.2.2.2.2.2.2.2.2.2.2.1 h.1.2.2.2.2.2.2.2.2.2.2.2.1 h.1.2.2.2.2.2.2.2.2.2.2.2.2.2.1 h.1.2.2.2.2.2.2.2.2.2.2.2.2.2.2.1 h.1.2.2.2.2.2.2.2.2.2.2.2.2.2.2.2.1 h.1.2.2.2.2.2.2.2.2.2.2.2.2.2.2.2.2.1⟩
theorem k66_1 : chkNF Try.prog Try.f66 n66_1 = true := by kernel_rfl
theorem ok66_1 : NOk Try.prog t66_1 := NOk.body (T := []) mixed nall_nil (oneEach_of (by kernel_rfl)) Try.func66 k66_1 (by kernel_rfl) (fun x h => e66_1 _  x h)
/- (*drayage/codec.Reader).Left -/
def n111 : NFunc := ⟨10, .seq (.region 0 [
    ⟨(some 2), .move (.const (.int .i64 (0))), none, 0, none⟩] []) (.seq (.seq (.region 0 [
    ⟨(some 3), .move (.tmp 0), none, 0, none⟩,
    ⟨(some 4), .eqP false (.tmp 3) (.const (.nilp)), none, 0, none⟩] []) (.cond (.tmp 4) (.seq (.region 0 [
    ⟨(some 2), .move (.const (.int .i64 (0))), none, 0, none⟩] []) (.ret)) (.skip))) (.seq (.region 0 [
    ⟨(some 5), .move (.tmp 0), none, 0, none⟩,
    ⟨(some 6), .nilCheck (.tmp 5), none, 0, none⟩,
    ⟨(some 7), .fieldAddr 0 (.tmp 6), none, 0, none⟩,
    ⟨(some 8), .load false 1 (.tmp 7), none, 0, none⟩,
    ⟨(some 9), .len (.tmp 8), none, 0, none⟩,
    ⟨(some 2), .move (.tmp 9), none, 0, none⟩] []) (.ret))), [.tmp 2], true⟩
def s111 : Sig := ⟨(.cons (.ptr 0 0 0) .nil), [.one false (.pair (.list (.int .u8)) (.int .i64))], ((.v (.int .i64)), [.one false (.pair (.list (.int .u8)) (.int .i64))]), []⟩
def F111 (L : Lp)  (a0 : ((List Int) × Int)) : Option (Int × (((List Int) × Int) × Unit)) :=
  some ((List.length a0.1 : Int), (a0, ()))
theorem e111 (L : Lp)  (x : s111.args.den) (h : denH s111.heap) : nrun [] L n111 s111 x h = F111 L  h.1 := by kernel_rfl
def f111 : ((List Int) × Int) → Option (Int × (((List Int) × Int) × Unit)) := F111 (@LN LOOPS) 
@[reducible] def t111 : Ent := ⟨111, s111, fun x h => f111 h.1⟩
theorem k111 : chkNF Try.prog Try.f111 n111 = true := by kernel_rfl
theorem ok111 : NOk Try.prog t111 := NOk.body (T := []) mixed nall_nil (oneEach_of (by kernel_rfl)) Try.func111 k111 (by kernel_rfl) (fun x h => e111 _  x h)
/- (*drayage/codec.Reader).End -/
def n73 : NFunc := ⟨12, .seq (.region 0 [
    ⟨(some 2), .move (.const (.int .i64 (0))), none, 0, none⟩] []) (.seq (.seq (.region 4 [
    ⟨(some 4), .move (.tmp 0), none, 0, none⟩,
    ⟨(some 5), .call (.func 82) [(true, (.tmp 4))] false 4, none, 0, none⟩,
    ⟨(some 3), .move (.tmp 5), none, 4, none⟩] []) (.seq (.region 0 [
    ⟨(some 6), .move (.tmp 3), none, 0, none⟩,
    ⟨(some 7), .bin .neq (.tmp 6) (.const (.int .i64 (0))), none, 0, none⟩] []) (.cond (.tmp 7) (.seq (.region 0 [
    ⟨(some 8), .move (.tmp 3), none, 0, none⟩,
    ⟨(some 2), .move (.tmp 8), none, 0, none⟩] []) (.ret)) (.skip)))) (.seq (.seq (.region 4 [
    ⟨(some 9), .move (.tmp 0), none, 0, none⟩,
    ⟨(some 10), .call (.func 111) [(true, (.tmp 9))] false 4, none, 0, none⟩,
    ⟨(some 11), .bin .gtr (.tmp 10) (.const (.int .i64 (0))), none, 4, none⟩] []) (.cond (.tmp 11) (.seq (.region 0 [
    ⟨(some 2), .move (.const (.int .i64 (11))), none, 0, none⟩] []) (.ret)) (.skip))) (.seq (.region 0 [
    ⟨(some 2), .move (.const (.int .i64 (0))), none, 0, none⟩] []) (.ret)))), [.tmp 2], true⟩
def s73 : Sig := ⟨(.cons (.ptr 0 0 0) .nil), [.one false (.pair (.list (.int .u8)) (.int .i64))], ((.v (.int .i64)), [.one false (.pair (.list (.int .u8)) (.int .i64))]), []⟩
def F73 (L : Lp) (g82 : ((List Int) × Int) → Option (Int × (((List Int) × Int) × Unit))) (g111 : ((List Int) × Int) → Option (Int × (((List Int) × Int) × Unit))) (a0 : ((List Int) × Int)) : Option (Int × (((List Int) × Int) × Unit)) :=
  Option.bind (g82 a0) fun r1 =>
  cond (!decide (r1.1 = 0))
    (some (r1.1, (r1.2.1, ())))
    (Option.bind (g111 r1.2.1) fun r2 =>
    cond (decide (0 < r2.1))
      (some (11, (r2.2.1, ())))
      (some (0, (r2.2.1, ()))))
theorem e73 (L : Lp) (g82 : ((List Int) × Int) → Option (Int × (((List Int) × Int) × Unit))) (g111 : ((List Int) × Int) → Option (Int × (((List Int) × Int) × Unit))) (x : s73.args.den) (h : denH s73.heap) : nrun [⟨82, s82, fun x h => g82 h.1⟩, ⟨111, s111, fun x h => g111 h.1⟩] L n73 s73 x h = F73 L g82 g111 h.1 := by kernel_rfl
def f73 : ((List Int) × Int) → Option (Int × (((List Int) × Int) × Unit)) := F73 (@LN LOOPS) f82 f111
@[reducible] def t73 : Ent := ⟨73, s73, fun x h => f73 h.1⟩
theorem k73 : chkNF Try.prog Try.f73 n73 = true := by kernel_rfl
theorem ok73 : NOk Try.prog t73 := NOk.body (T := [t82, t111]) mixed (nall_cons ok82 (nall_cons ok111 nall_nil)) (oneEach_of (by kernel_rfl)) Try.func73 k73 (by kernel_rfl) (fun x h => e73 _ _ _ x h)
/- drayage/ask.Read -/
def n27 : NFunc := ⟨66, .seq (.region 1 [
    ⟨(some 2), .alloc [.int .i64 (0), .int .i64 (0), .int .i64 (0), .int .i64 (0), .int .i64 (0), .int .i64 (0), .int .i64 (0), .int .i64 (0), .int .i64 (0), .int .i64 (0), .int .i64 (0), .int .i64 (0), .zsl, .int .i64 (0), .int .i64 (0), .int .i64 (0), .int .i64 (0)], none, 0, none⟩,
    ⟨(some 3), .move (.const (.int .i64 (0))), none, 1, none⟩] []) (.seq (.region 4 [
    ⟨(some 10), .move (.tmp 0), none, 0, none⟩,
    ⟨(some 11), .call (.func 69) [(false, (.tmp 10))] false 4, none, 0, none⟩,
    ⟨(some 4), .move (.tmp 11), none, 4, none⟩] []) (.seq (.region 5 [
    ⟨(some 12), .move (.tmp 4), none, 0, none⟩,
    ⟨(some 13), .call (.func 72) [(true, (.tmp 12))] false 4, none, 0, none⟩,
    ⟨(some 14), .build [.int .i64 (0), .int .i64 (0), .int .i64 (0), .int .i64 (0), .int .i64 (0), .int .i64 (0), .int .i64 (0), .int .i64 (0), .int .i64 (0), .int .i64 (0), .int .i64 (0), .int .i64 (0), .zsl, .int .i64 (0), .int .i64 (0), .int .i64 (0), .int .i64 (0)] [(0, 1, (.tmp 13))], none, 4, none⟩,
    ⟨(some 5), .alloc [.int .i64 (0), .int .i64 (0), .int .i64 (0), .int .i64 (0), .int .i64 (0), .int .i64 (0), .int .i64 (0), .int .i64 (0), .int .i64 (0), .int .i64 (0), .int .i64 (0), .int .i64 (0), .zsl, .int .i64 (0), .int .i64 (0), .int .i64 (0), .int .i64 (0)], none, 4, none⟩,
    ⟨none, .store 17 (.tmp 5) (.tmp 14), none, 5, none⟩] []) (.seq (.join [2, 4, 5] [] ⟨[(2, (.ptr 0 0 0)), (4, (.ptr 1 0 0)), (5, (.ptr 2 0 0))], [], [.cell false (.cons (.v (.int .i64)) (.cons (.v (.int .i64)) (.cons (.v (.int .i64)) (.cons (.v (.int .i64)) (.cons (.v (.int .i64)) (.cons (.v (.int .i64)) (.cons (.v (.int .i64)) (.cons (.v (.int .i64)) (.cons (.v (.int .i64)) (.cons (.v (.int .i64)) (.cons (.v (.int .i64)) (.cons (.v (.int .i64)) (.cons .zsl (.cons (.v (.int .i64)) (.cons (.v (.int .i64)) (.cons (.v (.int .i64)) (.cons (.v (.int .i64)) .nil))))))))))))))))), .one false (.pair (.list (.int .u8)) (.int .i64)), .cell false (.cons (.v (.int .i64)) (.cons (.v (.int .i64)) (.cons (.v (.int .i64)) (.cons (.v (.int .i64)) (.cons (.v (.int .i64)) (.cons (.v (.int .i64)) (.cons (.v (.int .i64)) (.cons (.v (.int .i64)) (.cons (.v (.int .i64)) (.cons (.v (.int .i64)) (.cons (.v (.int .i64)) (.cons (.v (.int .i64)) (.cons .zsl (.cons (.v (.int .i64)) (.cons (.v (.int .i64)) (.cons (.v (.int .i64)) (.cons (.v (.int .i64)) .nil)))))))))))))))))]⟩ (.seq (.region 8 [
    ⟨(some 15), .move (.tmp 4), none, 0, none⟩,
    ⟨(some 16), .call (.func 82) [(true, (.tmp 15))] false 4, none, 0, none⟩,
    ⟨(some 17), .bin .eql (.tmp 16) (.const (.int .i64 (0))), none, 4, none⟩,
    ⟨(some 18), .move (.tmp 17), none, 4, none⟩,
    ⟨(some 19), .fieldAddr 0 (.tmp 5), (some (18, true)), 4, none⟩,
    ⟨(some 20), .load false 1 (.tmp 19), (some (18, true)), 4, none⟩,
    ⟨(some 21), .call (.func 79) [(false, (.tmp 20))] false 4, (some (18, true)), 4, none⟩,
    ⟨(some 22), .un .not (.tmp 21), (some (18, true)), 8, none⟩,
    ⟨(some 23), .pick (.tmp 18) (.tmp 22) (.const (.bool false)), none, 8, none⟩] []) (.cond (.tmp 23) (.seq (.region 0 [
    ⟨(some 24), .build [.int .i64 (0), .int .i64 (0), .int .i64 (0), .int .i64 (0), .int .i64 (0), .int .i64 (0), .int .i64 (0), .int .i64 (0), .int .i64 (0), .int .i64 (0), .int .i64 (0), .int .i64 (0), .zsl, .int .i64 (0), .int .i64 (0), .int .i64 (0), .int .i64 (0)] [], none, 0, none⟩,
    ⟨none, .store 17 (.tmp 2) (.tmp 24), none, 0, none⟩,
    ⟨(some 3), .move (.const (.int .i64 (13))), none, 0, none⟩] []) (.ret)) (.skip)))) (.seq (.region 4 [
    ⟨(some 25), .move (.tmp 4), none, 0, none⟩,
    ⟨(some 26), .call (.func 71) [(true, (.tmp 25)), (false, (.const (.int .i64 (1)))), (false, (.const (.int .i64 (1073741824))))] false 4, none, 0, none⟩,
    ⟨(some 27), .fieldAddr 1 (.tmp 5), none, 4, none⟩,
    ⟨none, .store 1 (.tmp 27) (.tmp 26), none, 4, none⟩] []) (.seq (.meet [2, 4, 5] [] ⟨[(2, (.ptr 0 0 0)), (4, (.ptr 1 0 0)), (5, (.ptr 2 0 0))], [], [.cell false (.cons (.v (.int .i64)) (.cons (.v (.int .i64)) (.cons (.v (.int .i64)) (.cons (.v (.int .i64)) (.cons (.v (.int .i64)) (.cons (.v (.int .i64)) (.cons (.v (.int .i64)) (.cons (.v (.int .i64)) (.cons (.v (.int .i64)) (.cons (.v (.int .i64)) (.cons (.v (.int .i64)) (.cons (.v (.int .i64)) (.cons .zsl (.cons (.v (.int .i64)) (.cons (.v (.int .i64)) (.cons (.v (.int .i64)) (.cons (.v (.int .i64)) .nil))))))))))))))))), .one false (.pair (.list (.int .u8)) (.int .i64)), .cell false (.cons (.v (.int .i64)) (.cons (.v (.int .i64)) (.cons (.v (.int .i64)) (.cons (.v (.int .i64)) (.cons (.v (.int .i64)) (.cons (.v (.int .i64)) (.cons (.v (.int .i64)) (.cons (.v (.int .i64)) (.cons (.v (.int .i64)) (.cons (.v (.int .i64)) (.cons (.v (.int .i64)) (.cons (.v (.int .i64)) (.cons .zsl (.cons (.v (.int .i64)) (.cons (.v (.int .i64)) (.cons (.v (.int .i64)) (.cons (.v (.int .i64)) .nil)))))))))))))))))]⟩ (.seq (.region 4 [
    ⟨(some 28), .call (.func 66) [(true, (.tmp 5))] false 4, none, 0, none⟩,
    ⟨(some 29), .len (.tmp 28), none, 4, none⟩,
    ⟨(some 30), .move (.const (.int .i64 (0))), none, 4, none⟩] []) (.block 0 (.loopU [2, 4, 5, 28, 29, 30] 9 (.seq (.region 0 [
    ⟨(some 31), .bin .lss (.tmp 30) (.tmp 29), none, 0, none⟩] []) (.seq (.cond (.tmp 31) (.skip) (.exit 0)) (.seq (.block 1 (.seq (.region 0 [
    ⟨(some 32), .indexSl 1 (.tmp 28) (.tmp 30), none, 0, none⟩,
    ⟨(some 33), .load false 1 (.tmp 32), none, 0, none⟩,
    ⟨(some 7), .move (.tmp 33), none, 0, none⟩] []) (.region 4 [
    ⟨(some 34), .move (.tmp 7), none, 0, none⟩,
    ⟨(some 35), .move (.tmp 4), none, 0, none⟩,
    ⟨(some 36), .call (.func 72) [(true, (.tmp 35))] false 4, none, 0, none⟩,
    ⟨(some 37), .nilCheck (.tmp 34), none, 4, none⟩,
    ⟨none, .store 1 (.tmp 37) (.tmp 36), none, 4, none⟩] []))) (.region 0 [
    ⟨(some 38), .bin .add (.tmp 30) (.const (.int .i64 (1))), none, 0, none⟩,
    ⟨(some 30), .move (.tmp 38), none, 0, none⟩] [])))))))) (.seq (.seq (.region 0 [
    ⟨(some 39), .fieldAddr 0 (.tmp 5), none, 0, none⟩,
    ⟨(some 40), .load false 1 (.tmp 39), none, 0, none⟩,
    ⟨(some 41), .bin .eql (.tmp 40) (.const (.int .i64 (1))), none, 0, none⟩] []) (.cond (.tmp 41) (.seq (.region 4 [
    ⟨(some 42), .move (.tmp 4), none, 0, none⟩,
    ⟨(some 43), .call (.func 71) [(true, (.tmp 42)), (false, (.const (.int .i64 (0)))), (false, (.const (.int .i64 (4))))] false 4, none, 0, none⟩,
    ⟨(some 44), .move (.const (.int .i64 (0))), none, 4, none⟩] []) (.block 2 (.pre [2, 4, 5, 43, 44] [.matC 5 12 2 true] (.loop [2, 4, 5, 43, 44] ⟨[(2, (.ptr 0 0 0)), (4, (.ptr 1 0 0)), (5, (.ptr 2 0 0)), (44, (.v (.int .i64)))], [43], [.cell false (.cons (.v (.int .i64)) (.cons (.v (.int .i64)) (.cons (.v (.int .i64)) (.cons (.v (.int .i64)) (.cons (.v (.int .i64)) (.cons (.v (.int .i64)) (.cons (.v (.int .i64)) (.cons (.v (.int .i64)) (.cons (.v (.int .i64)) (.cons (.v (.int .i64)) (.cons (.v (.int .i64)) (.cons (.v (.int .i64)) (.cons .zsl (.cons (.v (.int .i64)) (.cons (.v (.int .i64)) (.cons (.v (.int .i64)) (.cons (.v (.int .i64)) .nil))))))))))))))))), .one false (.pair (.list (.int .u8)) (.int .i64)), .cell false (.cons (.v (.int .i64)) (.cons (.v (.int .i64)) (.cons (.v (.int .i64)) (.cons (.v (.int .i64)) (.cons (.v (.int .i64)) (.cons (.v (.int .i64)) (.cons (.v (.int .i64)) (.cons (.v (.int .i64)) (.cons (.v (.int .i64)) (.cons (.v (.int .i64)) (.cons (.v (.int .i64)) (.cons (.v (.int .i64)) (.cons (.slw 3 2) (.cons (.v (.int .i64)) (.cons (.v (.int .i64)) (.cons (.v (.int .i64)) (.cons (.v (.int .i64)) .nil))))))))))))))))), .typed .dep]⟩ (.seq (.region 0 [
    ⟨(some 45), .bin .lss (.tmp 44) (.tmp 43), none, 0, none⟩] []) (.seq (.cond (.tmp 45) (.skip) (.exit 2)) (.seq (.block 3 (.seq (.region 4 [
    ⟨(some 46), .move (.tmp 4), none, 0, none⟩,
    ⟨(some 47), .call (.func 72) [(true, (.tmp 46))] false 4, none, 0, none⟩,
    ⟨(some 8), .move (.tmp 47), none, 4, none⟩] []) (.region 6 [
    ⟨(some 48), .fieldAddr 12 (.tmp 5), none, 0, (some ([], none))⟩,
    ⟨(some 49), .load false 1 (.tmp 48), none, 0, (some ([], some [2]))⟩,
    ⟨(some 50), .move (.tmp 8), none, 0, (some ([], none))⟩,
    ⟨(some 51), .move (.tmp 4), none, 0, (some ([], none))⟩,
    ⟨(some 52), .call (.func 71) [(true, (.tmp 51)), (false, (.const (.int .i64 (0)))), (false, (.const (.int .i64 (1))))] false 4, none, 0, (some ([], some [1]))⟩,
    ⟨(some 53), .bin .eql (.tmp 52) (.const (.int .i64 (1))), none, 4, (some ([0, 1, 2, 3], none))⟩,
    ⟨(some 54), .build [.int .i64 (0), .bool false] [(0, 1, (.tmp 50)), (1, 1, (.tmp 53))], none, 4, (some ([0, 1, 2, 3], none))⟩,
    ⟨(some 55), .buildSlice 2 1 true [.int .i64 (0), .bool false] [(0, (.tmp 54))], none, 4, (some ([], some []))⟩,
    ⟨(some 56), .append 2 16 true (.tmp 49) (.tmp 55), none, 5, (some ([4], some [3]))⟩,
    ⟨(some 57), .fieldAddr 12 (.tmp 5), none, 6, (some ([0, 1, 2, 3, 4, 5], none))⟩,
    ⟨none, .store 1 (.tmp 57) (.tmp 56), none, 6, (some ([5], some [2]))⟩] []))) (.region 0 [
    ⟨(some 58), .bin .add (.tmp 44) (.const (.int .i64 (1))), none, 0, none⟩,
    ⟨(some 44), .move (.tmp 58), none, 0, none⟩] [])))))))) (.skip))) (.seq (.seq (.region 4 [
    ⟨(some 59), .move (.tmp 4), none, 0, none⟩,
    ⟨(some 60), .call (.func 73) [(true, (.tmp 59))] false 4, none, 0, none⟩,
    ⟨(some 9), .move (.tmp 60), none, 4, none⟩] []) (.seq (.region 0 [
    ⟨(some 61), .move (.tmp 9), none, 0, none⟩,
    ⟨(some 62), .bin .neq (.tmp 61) (.const (.int .i64 (0))), none, 0, none⟩] []) (.cond (.tmp 62) (.seq (.region 0 [
    ⟨(some 63), .build [.int .i64 (0), .int .i64 (0), .int .i64 (0), .int .i64 (0), .int .i64 (0), .int .i64 (0), .int .i64 (0), .int .i64 (0), .int .i64 (0), .int .i64 (0), .int .i64 (0), .int .i64 (0), .zsl, .int .i64 (0), .int .i64 (0), .int .i64 (0), .int .i64 (0)] [], none, 0, none⟩,
    ⟨(some 64), .move (.tmp 9), none, 0, none⟩,
    ⟨none, .store 17 (.tmp 2) (.tmp 63), none, 0, none⟩,
    ⟨(some 3), .move (.tmp 64), none, 0, none⟩] []) (.ret)) (.skip)))) (.seq (.region 0 [
    ⟨(some 65), .load true 17 (.tmp 5), none, 0, none⟩,
    ⟨none, .store 17 (.tmp 2) (.tmp 65), none, 0, none⟩,
    ⟨(some 3), .move (.const (.int .i64 (0))), none, 0, none⟩] []) (.ret))))))))), [.cell true 17 2, .tmp 3], true⟩
def s27 : Sig := ⟨(.cons (.v (.list (.int .u8))) .nil), [], ((.tup (.cons (.v .request) (.cons (.v (.int .i64)) .nil))), []), []⟩
def l27_0 (g72 : ((List Int) × Int) → Option (Int × (((List Int) × Int) × Unit))) (g71 : Int → Int → ((List Int) × Int) → Option (Int × (((List Int) × Int) × Unit))) (g73 : ((List Int) × Int) → Option (Int × (((List Int) × Int) × Unit))) (r44 : (Int × (((List Int) × Int) × Unit))) (nx46 : ((Unit × (Unit × (Unit × (Int × Unit)))) × ((Int × (Int × (Int × (Int × (Int × (Int × (Int × (Int × (Int × (Int × (Int × (Int × (Unit × (Int × (Int × (Int × (Int × Unit))))))))))))))))) × (((List Int) × Int) × ((Int × (Int × (Int × (Int × (Int × (Int × (Int × (Int × (Int × (Int × (Int × (Int × (Unit × (Int × (Int × (Int × (Int × Unit))))))))))))))))) × ((List Dep) × Unit))))) → Option (Request × (Int × Unit))) (z47 : Int) (z48 : Int) (z49 : Int) (z50 : Int) (z51 : Int) (z52 : Int) (z53 : Int) (z54 : Int) (z55 : Int) (z56 : Int) (z57 : Int) (z58 : Int) (z59 : Int) (z60 : Int) (z61 : Int) (z62 : Int) (z63 : Int) (z64 : ((List Int) × Int)) (z65 : Int) (z66 : Int) (z67 : Int) (z68 : Int) (z69 : Int) (z70 : Int) (z71 : Int) (z72 : Int) (z73 : Int) (z74 : Int) (z75 : Int) (z76 : Int) (z77 : Int) (z78 : Int) (z79 : Int) (z80 : Int) (z81 : (List Dep)) : Option (Request × (Int × Unit)) :=
  cond (decide (z47 < r44.1))
    (Option.bind (g72 z64) fun r82 =>
    Option.bind (g71 0 1 r82.2.1) fun r83 =>
    cond (smallB ((List.length z81) + 1) 16)
      (nx46 (((), (), (), IntKind.wrap .i64 (z47 + 1), ()), ((z48, z49, z50, z51, z52, z53, z54, z55, z56, z57, z58, z59, (), z60, z61, z62, z63, ()), r83.2.1, (z65, z66, z67, z68, z69, z70, z71, z72, z73, z74, z75, z76, (), z77, z78, z79, z80, ()), z81 ++ [Dep.mk r82.1 (decide (r83.1 = 1))], ())))
      (none))
    (Option.bind (g73 z64) fun r84 =>
    cond (!decide (r84.1 = 0))
      (some (Request.mk 0 0 0 0 0 0 (Res.mk 0 0 0 0) 0 0 [] 0 0 0 0, r84.1, ()))
      (some (Request.mk z65 z66 z67 z68 z69 z70 (Res.mk z71 z72 z73 z74) z75 z76 z81 z77 z78 z79 z80, 0, ())))
def F27 (L : Lp) (g69 : (List Int) → Option (Unit × (((List Int) × Int) × Unit))) (g72 : ((List Int) × Int) → Option (Int × (((List Int) × Int) × Unit))) (g82 : ((List Int) × Int) → Option (Int × (((List Int) × Int) × Unit))) (g79 : Int → Option Bool) (g71 : Int → Int → ((List Int) × Int) → Option (Int × (((List Int) × Int) × Unit))) (g66_1 : Int → Int → Int → Int → Int → Int → Int → Int → Int → Int → Int → Int → Int → Int → Int → Int → Option y66_1) (g73 : ((List Int) × Int) → Option (Int × (((List Int) × Int) × Unit))) (b0 : (List Int)) : Option (Request × (Int × Unit)) :=
  Option.bind (g69 b0) fun r1 =>
  Option.bind (g72 r1.2.1) fun r2 =>
  Option.bind (α := (((Unit × (Unit × (Unit × Unit))) × ((Int × (Int × (Int × (Int × (Int × (Int × (Int × (Int × (Int × (Int × (Int × (Int × (Unit × (Int × (Int × (Int × (Int × Unit))))))))))))))))) × (((List Int) × Int) × ((Int × (Int × (Int × (Int × (Int × (Int × (Int × (Int × (Int × (Int × (Int × (Int × (Unit × (Int × (Int × (Int × (Int × Unit))))))))))))))))) × Unit)))) ⊕ (Request × (Int × Unit))))
    (Option.bind (g82 r2.2.1) fun r3 =>
    cond (decide (r3.1 = 0))
      (Option.bind (g79 r2.1) fun r4 =>
      cond (!r4)
        (some (.inr (Request.mk 0 0 0 0 0 0 (Res.mk 0 0 0 0) 0 0 [] 0 0 0 0, 13, ())))
        (some (.inl (((), (), (), ()), ((0, 0, 0, 0, 0, 0, 0, 0, 0, 0, 0, 0, (), 0, 0, 0, 0, ()), r3.2.1, (r2.1, 0, 0, 0, 0, 0, 0, 0, 0, 0, 0, 0, (), 0, 0, 0, 0, ()), ())))))
      (some (.inl (((), (), (), ()), ((0, 0, 0, 0, 0, 0, 0, 0, 0, 0, 0, 0, (), 0, 0, 0, 0, ()), r3.2.1, (r2.1, 0, 0, 0, 0, 0, 0, 0, 0, 0, 0, 0, (), 0, 0, 0, 0, ()), ()))))) (Sum.elim (fun x5 =>
    Option.bind (g71 1 1073741824 x5.2.2.1) fun r6 =>
    Option.bind (α := ((Unit × (Unit × (Unit × Unit))) × ((Int × (Int × (Int × (Int × (Int × (Int × (Int × (Int × (Int × (Int × (Int × (Int × (Unit × (Int × (Int × (Int × (Int × Unit))))))))))))))))) × (((List Int) × Int) × ((Int × (Int × (Int × (Int × (Int × (Int × (Int × (Int × (Int × (Int × (Int × (Int × (Unit × (Int × (Int × (Int × (Int × Unit))))))))))))))))) × Unit)))))
      (Option.bind (g66_1 x5.2.2.2.1.1 r6.1 x5.2.2.2.1.2.2.1 x5.2.2.2.1.2.2.2.1 x5.2.2.2.1.2.2.2.2.1 x5.2.2.2.1.2.2.2.2.2.1 x5.2.2.2.1.2.2.2.2.2.2.1 x5.2.2.2.1.2.2.2.2.2.2.2.1 x5.2.2.2.1.2.2.2.2.2.2.2.2.1 x5.2.2.2.1.2.2.2.2.2.2.2.2.2.1 x5.2.2.2.1.2.2.2.2.2.2.2.2.2.2.1 x5.2.2.2.1.2.2.2.2.2.2.2.2.2.2.2.1 x5.2.2.2.1.2.2.2.2.2.2.2.2.2.2.2.2.2.1 x5.2.2.2.1.2.2.2.2.2.2.2.2.2.2.2.2.2.2.1 x5.2.2.2.1.2.2.2.2.2.2.2.2.2.2.2.2.2.2.2.1 x5.2.2.2.1.2.2.2.2.2.2.2.2.2.2.2.2.2.2.2.2.1) (Sum.elim (fun r7 =>
        Option.bind (g72 r6.2.1) fun r8 =>
        Option.bind (g72 r8.2.1) fun r9 =>
        Option.bind (g72 r9.2.1) fun r10 =>
        some (((), (), (), ()), ((x5.2.1.1, x5.2.1.2.1, x5.2.1.2.2.1, x5.2.1.2.2.2.1, x5.2.1.2.2.2.2.1, x5.2.1.2.2.2.2.2.1, x5.2.1.2.2.2.2.2.2.1, x5.2.1.2.2.2.2.2.2.2.1, x5.2.1.2.2.2.2.2.2.2.2.1, x5.2.1.2.2.2.2.2.2.2.2.2.1, x5.2.1.2.2.2.2.2.2.2.2.2.2.1, x5.2.1.2.2.2.2.2.2.2.2.2.2.2.1, (), x5.2.1.2.2.2.2.2.2.2.2.2.2.2.2.2.1, x5.2.1.2.2.2.2.2.2.2.2.2.2.2.2.2.2.1, x5.2.1.2.2.2.2.2.2.2.2.2.2.2.2.2.2.2.1, x5.2.1.2.2.2.2.2.2.2.2.2.2.2.2.2.2.2.2.1, ()), r10.2.1, (r7.2.1.1, r7.2.1.2.1, r7.2.1.2.2.1, r7.2.1.2.2.2.1, r7.2.1.2.2.2.2.1, r7.2.1.2.2.2.2.2.1, r7.2.1.2.2.2.2.2.2.1, r7.2.1.2.2.2.2.2.2.2.1, r7.2.1.2.2.2.2.2.2.2.2.1, r7.2.1.2.2.2.2.2.2.2.2.2.1, r7.2.1.2.2.2.2.2.2.2.2.2.2.1, r7.2.1.2.2.2.2.2.2.2.2.2.2.2.1, (), r8.1, r9.1, r10.1, r7.2.1.2.2.2.2.2.2.2.2.2.2.2.2.2.2.2.2.1, ()), ()))) (Sum.elim (fun r11 =>
        some (((), (), (), ()), ((x5.2.1.1, x5.2.1.2.1, x5.2.1.2.2.1, x5.2.1.2.2.2.1, x5.2.1.2.2.2.2.1, x5.2.1.2.2.2.2.2.1, x5.2.1.2.2.2.2.2.2.1, x5.2.1.2.2.2.2.2.2.2.1, x5.2.1.2.2.2.2.2.2.2.2.1, x5.2.1.2.2.2.2.2.2.2.2.2.1, x5.2.1.2.2.2.2.2.2.2.2.2.2.1, x5.2.1.2.2.2.2.2.2.2.2.2.2.2.1, (), x5.2.1.2.2.2.2.2.2.2.2.2.2.2.2.2.1, x5.2.1.2.2.2.2.2.2.2.2.2.2.2.2.2.2.1, x5.2.1.2.2.2.2.2.2.2.2.2.2.2.2.2.2.2.1, x5.2.1.2.2.2.2.2.2.2.2.2.2.2.2.2.2.2.2.1, ()), r6.2.1, (r11.2.1.1, r11.2.1.2.1, r11.2.1.2.2.1, r11.2.1.2.2.2.1, r11.2.1.2.2.2.2.1, r11.2.1.2.2.2.2.2.1, r11.2.1.2.2.2.2.2.2.1, r11.2.1.2.2.2.2.2.2.2.1, r11.2.1.2.2.2.2.2.2.2.2.1, r11.2.1.2.2.2.2.2.2.2.2.2.1, r11.2.1.2.2.2.2.2.2.2.2.2.2.1, r11.2.1.2.2.2.2.2.2.2.2.2.2.2.1, (), r11.2.1.2.2.2.2.2.2.2.2.2.2.2.2.2.1, r11.2.1.2.2.2.2.2.2.2.2.2.2.2.2.2.2.1, r11.2.1.2.2.2.2.2.2.2.2.2.2.2.2.2.2.2.1, r11.2.1.2.2.2.2.2.2.2.2.2.2.2.2.2.2.2.2.1, ()), ()))) (Sum.elim (fun r12 =>
        Option.bind (g72 r6.2.1) fun r13 =>
        some (((), (), (), ()), ((x5.2.1.1, x5.2.1.2.1, x5.2.1.2.2.1, x5.2.1.2.2.2.1, x5.2.1.2.2.2.2.1, x5.2.1.2.2.2.2.2.1, x5.2.1.2.2.2.2.2.2.1, x5.2.1.2.2.2.2.2.2.2.1, x5.2.1.2.2.2.2.2.2.2.2.1, x5.2.1.2.2.2.2.2.2.2.2.2.1, x5.2.1.2.2.2.2.2.2.2.2.2.2.1, x5.2.1.2.2.2.2.2.2.2.2.2.2.2.1, (), x5.2.1.2.2.2.2.2.2.2.2.2.2.2.2.2.1, x5.2.1.2.2.2.2.2.2.2.2.2.2.2.2.2.2.1, x5.2.1.2.2.2.2.2.2.2.2.2.2.2.2.2.2.2.1, x5.2.1.2.2.2.2.2.2.2.2.2.2.2.2.2.2.2.2.1, ()), r13.2.1, (r12.2.1.1, r12.2.1.2.1, r12.2.1.2.2.1, r12.2.1.2.2.2.1, r13.1, r12.2.1.2.2.2.2.2.1, r12.2.1.2.2.2.2.2.2.1, r12.2.1.2.2.2.2.2.2.2.1, r12.2.1.2.2.2.2.2.2.2.2.1, r12.2.1.2.2.2.2.2.2.2.2.2.1, r12.2.1.2.2.2.2.2.2.2.2.2.2.1, r12.2.1.2.2.2.2.2.2.2.2.2.2.2.1, (), r12.2.1.2.2.2.2.2.2.2.2.2.2.2.2.2.1, r12.2.1.2.2.2.2.2.2.2.2.2.2.2.2.2.2.1, r12.2.1.2.2.2.2.2.2.2.2.2.2.2.2.2.2.2.1, r12.2.1.2.2.2.2.2.2.2.2.2.2.2.2.2.2.2.2.1, ()), ()))) (Sum.elim (fun r14 =>
        Option.bind (g72 r6.2.1) fun r15 =>
        some (((), (), (), ()), ((x5.2.1.1, x5.2.1.2.1, x5.2.1.2.2.1, x5.2.1.2.2.2.1, x5.2.1.2.2.2.2.1, x5.2.1.2.2.2.2.2.1, x5.2.1.2.2.2.2.2.2.1, x5.2.1.2.2.2.2.2.2.2.1, x5.2.1.2.2.2.2.2.2.2.2.1, x5.2.1.2.2.2.2.2.2.2.2.2.1, x5.2.1.2.2.2.2.2.2.2.2.2.2.1, x5.2.1.2.2.2.2.2.2.2.2.2.2.2.1, (), x5.2.1.2.2.2.2.2.2.2.2.2.2.2.2.2.1, x5.2.1.2.2.2.2.2.2.2.2.2.2.2.2.2.2.1, x5.2.1.2.2.2.2.2.2.2.2.2.2.2.2.2.2.2.1, x5.2.1.2.2.2.2.2.2.2.2.2.2.2.2.2.2.2.2.1, ()), r15.2.1, (r14.2.1.1, r14.2.1.2.1, r15.1, r14.2.1.2.2.2.1, r14.2.1.2.2.2.2.1, r14.2.1.2.2.2.2.2.1, r14.2.1.2.2.2.2.2.2.1, r14.2.1.2.2.2.2.2.2.2.1, r14.2.1.2.2.2.2.2.2.2.2.1, r14.2.1.2.2.2.2.2.2.2.2.2.1, r14.2.1.2.2.2.2.2.2.2.2.2.2.1, r14.2.1.2.2.2.2.2.2.2.2.2.2.2.1, (), r14.2.1.2.2.2.2.2.2.2.2.2.2.2.2.2.1, r14.2.1.2.2.2.2.2.2.2.2.2.2.2.2.2.2.1, r14.2.1.2.2.2.2.2.2.2.2.2.2.2.2.2.2.2.1, r14.2.1.2.2.2.2.2.2.2.2.2.2.2.2.2.2.2.2.1, ()), ()))) (Sum.elim (fun r16 =>
        Option.bind (g72 r6.2.1) fun r17 =>
        Option.bind (g72 r17.2.1) fun r18 =>
        Option.bind (g72 r18.2.1) fun r19 =>
        some (((), (), (), ()), ((x5.2.1.1, x5.2.1.2.1, x5.2.1.2.2.1, x5.2.1.2.2.2.1, x5.2.1.2.2.2.2.1, x5.2.1.2.2.2.2.2.1, x5.2.1.2.2.2.2.2.2.1, x5.2.1.2.2.2.2.2.2.2.1, x5.2.1.2.2.2.2.2.2.2.2.1, x5.2.1.2.2.2.2.2.2.2.2.2.1, x5.2.1.2.2.2.2.2.2.2.2.2.2.1, x5.2.1.2.2.2.2.2.2.2.2.2.2.2.1, (), x5.2.1.2.2.2.2.2.2.2.2.2.2.2.2.2.1, x5.2.1.2.2.2.2.2.2.2.2.2.2.2.2.2.2.1, x5.2.1.2.2.2.2.2.2.2.2.2.2.2.2.2.2.2.1, x5.2.1.2.2.2.2.2.2.2.2.2.2.2.2.2.2.2.2.1, ()), r19.2.1, (r16.2.1.1, r16.2.1.2.1, r17.1, r18.1, r19.1, r16.2.1.2.2.2.2.2.1, r16.2.1.2.2.2.2.2.2.1, r16.2.1.2.2.2.2.2.2.2.1, r16.2.1.2.2.2.2.2.2.2.2.1, r16.2.1.2.2.2.2.2.2.2.2.2.1, r16.2.1.2.2.2.2.2.2.2.2.2.2.1, r16.2.1.2.2.2.2.2.2.2.2.2.2.2.1, (), r16.2.1.2.2.2.2.2.2.2.2.2.2.2.2.2.1, r16.2.1.2.2.2.2.2.2.2.2.2.2.2.2.2.2.1, r16.2.1.2.2.2.2.2.2.2.2.2.2.2.2.2.2.2.1, r16.2.1.2.2.2.2.2.2.2.2.2.2.2.2.2.2.2.2.1, ()), ()))) (Sum.elim (fun r20 =>
        Option.bind (g72 r6.2.1) fun r21 =>
        Option.bind (g72 r21.2.1) fun r22 =>
        some (((), (), (), ()), ((x5.2.1.1, x5.2.1.2.1, x5.2.1.2.2.1, x5.2.1.2.2.2.1, x5.2.1.2.2.2.2.1, x5.2.1.2.2.2.2.2.1, x5.2.1.2.2.2.2.2.2.1, x5.2.1.2.2.2.2.2.2.2.1, x5.2.1.2.2.2.2.2.2.2.2.1, x5.2.1.2.2.2.2.2.2.2.2.2.1, x5.2.1.2.2.2.2.2.2.2.2.2.2.1, x5.2.1.2.2.2.2.2.2.2.2.2.2.2.1, (), x5.2.1.2.2.2.2.2.2.2.2.2.2.2.2.2.1, x5.2.1.2.2.2.2.2.2.2.2.2.2.2.2.2.2.1, x5.2.1.2.2.2.2.2.2.2.2.2.2.2.2.2.2.2.1, x5.2.1.2.2.2.2.2.2.2.2.2.2.2.2.2.2.2.2.1, ()), r22.2.1, (r20.2.1.1, r20.2.1.2.1, r21.1, r22.1, r20.2.1.2.2.2.2.1, r20.2.1.2.2.2.2.2.1, r20.2.1.2.2.2.2.2.2.1, r20.2.1.2.2.2.2.2.2.2.1, r20.2.1.2.2.2.2.2.2.2.2.1, r20.2.1.2.2.2.2.2.2.2.2.2.1, r20.2.1.2.2.2.2.2.2.2.2.2.2.1, r20.2.1.2.2.2.2.2.2.2.2.2.2.2.1, (), r20.2.1.2.2.2.2.2.2.2.2.2.2.2.2.2.1, r20.2.1.2.2.2.2.2.2.2.2.2.2.2.2.2.2.1, r20.2.1.2.2.2.2.2.2.2.2.2.2.2.2.2.2.2.1, r20.2.1.2.2.2.2.2.2.2.2.2.2.2.2.2.2.2.2.1, ()), ()))) (Sum.elim (fun r23 =>
        Option.bind (g72 r6.2.1) fun r24 =>
        Option.bind (g72 r24.2.1) fun r25 =>
        Option.bind (g72 r25.2.1) fun r26 =>
        Option.bind (g72 r26.2.1) fun r27 =>
        Option.bind (g72 r27.2.1) fun r28 =>
        Option.bind (g72 r28.2.1) fun r29 =>
        Option.bind (g72 r29.2.1) fun r30 =>
        Option.bind (g72 r30.2.1) fun r31 =>
        some (((), (), (), ()), ((x5.2.1.1, x5.2.1.2.1, x5.2.1.2.2.1, x5.2.1.2.2.2.1, x5.2.1.2.2.2.2.1, x5.2.1.2.2.2.2.2.1, x5.2.1.2.2.2.2.2.2.1, x5.2.1.2.2.2.2.2.2.2.1, x5.2.1.2.2.2.2.2.2.2.2.1, x5.2.1.2.2.2.2.2.2.2.2.2.1, x5.2.1.2.2.2.2.2.2.2.2.2.2.1, x5.2.1.2.2.2.2.2.2.2.2.2.2.2.1, (), x5.2.1.2.2.2.2.2.2.2.2.2.2.2.2.2.1, x5.2.1.2.2.2.2.2.2.2.2.2.2.2.2.2.2.1, x5.2.1.2.2.2.2.2.2.2.2.2.2.2.2.2.2.2.1, x5.2.1.2.2.2.2.2.2.2.2.2.2.2.2.2.2.2.2.1, ()), r31.2.1, (r23.2.1.1, r23.2.1.2.1, r24.1, r25.1, r23.2.1.2.2.2.2.1, r26.1, r27.1, r28.1, r29.1, r30.1, r31.1, r23.2.1.2.2.2.2.2.2.2.2.2.2.2.1, (), r23.2.1.2.2.2.2.2.2.2.2.2.2.2.2.2.1, r23.2.1.2.2.2.2.2.2.2.2.2.2.2.2.2.2.1, r23.2.1.2.2.2.2.2.2.2.2.2.2.2.2.2.2.2.1, r23.2.1.2.2.2.2.2.2.2.2.2.2.2.2.2.2.2.2.1, ()), ()))) (Sum.elim (fun r32 =>
        Option.bind (g72 r6.2.1) fun r33 =>
        Option.bind (g72 r33.2.1) fun r34 =>
        Option.bind (g72 r34.2.1) fun r35 =>
        Option.bind (g72 r35.2.1) fun r36 =>
        Option.bind (g72 r36.2.1) fun r37 =>
        Option.bind (g72 r37.2.1) fun r38 =>
        Option.bind (g72 r38.2.1) fun r39 =>
        Option.bind (g72 r39.2.1) fun r40 =>
        some (((), (), (), ()), ((x5.2.1.1, x5.2.1.2.1, x5.2.1.2.2.1, x5.2.1.2.2.2.1, x5.2.1.2.2.2.2.1, x5.2.1.2.2.2.2.2.1, x5.2.1.2.2.2.2.2.2.1, x5.2.1.2.2.2.2.2.2.2.1, x5.2.1.2.2.2.2.2.2.2.2.1, x5.2.1.2.2.2.2.2.2.2.2.2.1, x5.2.1.2.2.2.2.2.2.2.2.2.2.1, x5.2.1.2.2.2.2.2.2.2.2.2.2.2.1, (), x5.2.1.2.2.2.2.2.2.2.2.2.2.2.2.2.1, x5.2.1.2.2.2.2.2.2.2.2.2.2.2.2.2.2.1, x5.2.1.2.2.2.2.2.2.2.2.2.2.2.2.2.2.2.1, x5.2.1.2.2.2.2.2.2.2.2.2.2.2.2.2.2.2.2.1, ()), r40.2.1, (r32.2.1.1, r32.2.1.2.1, r32.2.1.2.2.1, r32.2.1.2.2.2.1, r33.1, r34.1, r35.1, r36.1, r37.1, r38.1, r39.1, r40.1, (), r32.2.1.2.2.2.2.2.2.2.2.2.2.2.2.2.1, r32.2.1.2.2.2.2.2.2.2.2.2.2.2.2.2.2.1, r32.2.1.2.2.2.2.2.2.2.2.2.2.2.2.2.2.2.1, r32.2.1.2.2.2.2.2.2.2.2.2.2.2.2.2.2.2.2.1, ()), ()))) (fun r41 =>
        Option.bind (g72 r6.2.1) fun r42 =>
        some (((), (), (), ()), ((x5.2.1.1, x5.2.1.2.1, x5.2.1.2.2.1, x5.2.1.2.2.2.1, x5.2.1.2.2.2.2.1, x5.2.1.2.2.2.2.2.1, x5.2.1.2.2.2.2.2.2.1, x5.2.1.2.2.2.2.2.2.2.1, x5.2.1.2.2.2.2.2.2.2.2.1, x5.2.1.2.2.2.2.2.2.2.2.2.1, x5.2.1.2.2.2.2.2.2.2.2.2.2.1, x5.2.1.2.2.2.2.2.2.2.2.2.2.2.1, (), x5.2.1.2.2.2.2.2.2.2.2.2.2.2.2.2.1, x5.2.1.2.2.2.2.2.2.2.2.2.2.2.2.2.2.1, x5.2.1.2.2.2.2.2.2.2.2.2.2.2.2.2.2.2.1, x5.2.1.2.2.2.2.2.2.2.2.2.2.2.2.2.2.2.2.1, ()), r42.2.1, (r41.2.1.1, r41.2.1.2.1, r41.2.1.2.2.1, r41.2.1.2.2.2.1, r41.2.1.2.2.2.2.1, r41.2.1.2.2.2.2.2.1, r41.2.1.2.2.2.2.2.2.1, r41.2.1.2.2.2.2.2.2.2.1, r41.2.1.2.2.2.2.2.2.2.2.1, r41.2.1.2.2.2.2.2.2.2.2.2.1, r41.2.1.2.2.2.2.2.2.2.2.2.2.1, r41.2.1.2.2.2.2.2.2.2.2.2.2.2.1, (), r41.2.1.2.2.2.2.2.2.2.2.2.2.2.2.2.1, r41.2.1.2.2.2.2.2.2.2.2.2.2.2.2.2.2.1, r41.2.1.2.2.2.2.2.2.2.2.2.2.2.2.2.2.2.1, r42.1, ()), ())))))))))))) fun x43 =>
    cond (decide (x43.2.2.2.1.1 = 1))
      (Option.bind (g71 0 4 x43.2.2.1) fun r44 =>
      L (fun (s45 : ((Unit × (Unit × (Unit × (Int × Unit)))) × ((Int × (Int × (Int × (Int × (Int × (Int × (Int × (Int × (Int × (Int × (Int × (Int × (Unit × (Int × (Int × (Int × (Int × Unit))))))))))))))))) × (((List Int) × Int) × ((Int × (Int × (Int × (Int × (Int × (Int × (Int × (Int × (Int × (Int × (Int × (Int × (Unit × (Int × (Int × (Int × (Int × Unit))))))))))))))))) × ((List Dep) × Unit)))))) nx46 => l27_0 g72 g71 g73 r44 nx46 s45.1.2.2.2.1 s45.2.1.1 s45.2.1.2.1 s45.2.1.2.2.1 s45.2.1.2.2.2.1 s45.2.1.2.2.2.2.1 s45.2.1.2.2.2.2.2.1 s45.2.1.2.2.2.2.2.2.1 s45.2.1.2.2.2.2.2.2.2.1 s45.2.1.2.2.2.2.2.2.2.2.1 s45.2.1.2.2.2.2.2.2.2.2.2.1 s45.2.1.2.2.2.2.2.2.2.2.2.2.1 s45.2.1.2.2.2.2.2.2.2.2.2.2.2.1 s45.2.1.2.2.2.2.2.2.2.2.2.2.2.2.2.1 s45.2.1.2.2.2.2.2.2.2.2.2.2.2.2.2.2.1 s45.2.1.2.2.2.2.2.2.2.2.2.2.2.2.2.2.2.1 s45.2.1.2.2.2.2.2.2.2.2.2.2.2.2.2.2.2.2.1 s45.2.2.1 s45.2.2.2.1.1 s45.2.2.2.1.2.1 s45.2.2.2.1.2.2.1 s45.2.2.2.1.2.2.2.1 s45.2.2.2.1.2.2.2.2.1 s45.2.2.2.1.2.2.2.2.2.1 s45.2.2.2.1.2.2.2.2.2.2.1 s45.2.2.2.1.2.2.2.2.2.2.2.1 s45.2.2.2.1.2.2.2.2.2.2.2.2.1 s45.2.2.2.1.2.2.2.2.2.2.2.2.2.1 s45.2.2.2.1.2.2.2.2.2.2.2.2.2.2.1 s45.2.2.2.1.2.2.2.2.2.2.2.2.2.2.2.1 s45.2.2.2.1.2.2.2.2.2.2.2.2.2.2.2.2.2.1 s45.2.2.2.1.2.2.2.2.2.2.2.2.2.2.2.2.2.2.1 s45.2.2.2.1.2.2.2.2.2.2.2.2.2.2.2.2.2.2.2.1 s45.2.2.2.1.2.2.2.2.2.2.2.2.2.2.2.2.2.2.2.2.1 s45.2.2.2.2.1) (((), (), (), 0, ()), ((x43.2.1.1, x43.2.1.2.1, x43.2.1.2.2.1, x43.2.1.2.2.2.1, x43.2.1.2.2.2.2.1, x43.2.1.2.2.2.2.2.1, x43.2.1.2.2.2.2.2.2.1, x43.2.1.2.2.2.2.2.2.2.1, x43.2.1.2.2.2.2.2.2.2.2.1, x43.2.1.2.2.2.2.2.2.2.2.2.1, x43.2.1.2.2.2.2.2.2.2.2.2.2.1, x43.2.1.2.2.2.2.2.2.2.2.2.2.2.1, (), x43.2.1.2.2.2.2.2.2.2.2.2.2.2.2.2.1, x43.2.1.2.2.2.2.2.2.2.2.2.2.2.2.2.2.1, x43.2.1.2.2.2.2.2.2.2.2.2.2.2.2.2.2.2.1, x43.2.1.2.2.2.2.2.2.2.2.2.2.2.2.2.2.2.2.1, ()), r44.2.1, (x43.2.2.2.1.1, x43.2.2.2.1.2.1, x43.2.2.2.1.2.2.1, x43.2.2.2.1.2.2.2.1, x43.2.2.2.1.2.2.2.2.1, x43.2.2.2.1.2.2.2.2.2.1, x43.2.2.2.1.2.2.2.2.2.2.1, x43.2.2.2.1.2.2.2.2.2.2.2.1, x43.2.2.2.1.2.2.2.2.2.2.2.2.1, x43.2.2.2.1.2.2.2.2.2.2.2.2.2.1, x43.2.2.2.1.2.2.2.2.2.2.2.2.2.2.1, x43.2.2.2.1.2.2.2.2.2.2.2.2.2.2.2.1, (), x43.2.2.2.1.2.2.2.2.2.2.2.2.2.2.2.2.2.1, x43.2.2.2.1.2.2.2.2.2.2.2.2.2.2.2.2.2.2.1, x43.2.2.2.1.2.2.2.2.2.2.2.2.2.2.2.2.2.2.2.1, x43.2.2.2.1.2.2.2.2.2.2.2.2.2.2.2.2.2.2.2.2.1, ()), [], ())))
      (Option.bind (g73 x43.2.2.1) fun r85 =>
      cond (!decide (r85.1 = 0))
        (some (Request.mk 0 0 0 0 0 0 (Res.mk 0 0 0 0) 0 0 [] 0 0 0 0, r85.1, ()))
        (some (Request.mk x43.2.2.2.1.1 x43.2.2.2.1.2.1 x43.2.2.2.1.2.2.1 x43.2.2.2.1.2.2.2.1 x43.2.2.2.1.2.2.2.2.1 x43.2.2.2.1.2.2.2.2.2.1 (Res.mk x43.2.2.2.1.2.2.2.2.2.2.1 x43.2.2.2.1.2.2.2.2.2.2.2.1 x43.2.2.2.1.2.2.2.2.2.2.2.2.1 x43.2.2.2.1.2.2.2.2.2.2.2.2.2.1) x43.2.2.2.1.2.2.2.2.2.2.2.2.2.2.1 x43.2.2.2.1.2.2.2.2.2.2.2.2.2.2.2.1 [] x43.2.2.2.1.2.2.2.2.2.2.2.2.2.2.2.2.2.1 x43.2.2.2.1.2.2.2.2.2.2.2.2.2.2.2.2.2.2.1 x43.2.2.2.1.2.2.2.2.2.2.2.2.2.2.2.2.2.2.2.1 x43.2.2.2.1.2.2.2.2.2.2.2.2.2.2.2.2.2.2.2.2.1, 0, ())))) some)
theorem e27 (L : Lp) (g69 : (List Int) → Option (Unit × (((List Int) × Int) × Unit))) (g72 : ((List Int) × Int) → Option (Int × (((List Int) × Int) × Unit))) (g82 : ((List Int) × Int) → Option (Int × (((List Int) × Int) × Unit))) (g79 : Int → Option Bool) (g71 : Int → Int → ((List Int) × Int) → Option (Int × (((List Int) × Int) × Unit))) (g66_1 : Int → Int → Int → Int → Int → Int → Int → Int → Int → Int → Int → Int → Int → Int → Int → Int → Option y66_1) (g73 : ((List Int) × Int) → Option (Int × (((List Int) × Int) × Unit))) (x : s27.args.den) (h : denH s27.heap) : nrun [⟨69, s69, fun x h => g69 x.1⟩, ⟨72, s72, fun x h => g72 h.1⟩, ⟨82, s82, fun x h => g82 h.1⟩, ⟨79, s79, fun x h => g79 x.1⟩, ⟨71, s71, fun x h => g71 x.2.1 x.2.2.1 h.1⟩, ⟨66, s66_1, fun x h => g66_1 h.1.1 h.1.2.1 h.1.2.2.1 h.1.2.2.2.1 h.1.2.2.2.2.1 h.1.2.2.2.2.2.1 h.1.2.2.2.2.2.2.1 h.1.2.2.2.2.2.2.2.1 h.1.2.2.2.2.2.2.2.2.1 h.1.2.2.2.2.2.2.2.2.2.1 h.1.2.2.2.2.2.2.2.2.2.2.1 h.1.2.2.2.2.2.2.2.2.2.2.2.1 h.1.2.2.2.2.2.2.2.2.2.2.2.2.2.1 h.1.2.2.2.2.2.2.2.2.2.2.2.2.2.2.1 h.1.2.2.2.2.2.2.2.2.2.2.2.2.2.2.2.1 h.1.2.2.2.2.2.2.2.2.2.2.2.2.2.2.2.2.1⟩, ⟨73, s73, fun x h => g73 h.1⟩] L n27 s27 x h = F27 L g69 g72 g82 g79 g71 g66_1 g73 x.1 := by kernel_rfl
def f27 : (List Int) → Option (Request × (Int × Unit)) := F27 (@LN LOOPS) f69 f72 f82 f79 f71 f66_1 f73
@[reducible] def t27 : Ent := ⟨27, s27, fun x h => f27 x.1⟩
theorem k27 : chkNF Try.prog Try.f27 n27 = true := by kernel_rfl
theorem ok27 : NOk Try.prog t27 := NOk.body (T := [t69, t72, t82, t79, t71, t66_1, t73]) mixed (nall_cons ok69 (nall_cons ok72 (nall_cons ok82 (nall_cons ok79 (nall_cons ok71 (nall_cons ok66_1 (nall_cons ok73 nall_nil))))))) (oneEach_of (by kernel_rfl)) Try.func27 k27 (by kernel_rfl) (fun x h => e27 _ _ _ _ _ _ _ _ x h)
/- drayage/drayageref05.Bytes -/
def n113 : NFunc := ⟨17, .seq (.region 0 [
    ⟨(some 2), .move (.const (.zsl)), none, 0, none⟩] []) (.seq (.seq (.region 0 [
    ⟨(some 3), .move (.tmp 0), none, 0, none⟩,
    ⟨(some 4), .bin .lss (.tmp 3) (.const (.int .i64 (128))), none, 0, none⟩] []) (.cond (.tmp 4) (.seq (.region 1 [
    ⟨(some 5), .move (.tmp 0), none, 0, none⟩,
    ⟨(some 6), .conv .u8 (.tmp 5), none, 0, none⟩,
    ⟨(some 7), .buildSlice 1 1 true [.int .u8 (0)] [(0, (.tmp 6))], none, 0, none⟩,
    ⟨(some 2), .move (.tmp 7), none, 1, none⟩] []) (.ret)) (.skip))) (.seq (.region 6 [
    ⟨(some 8), .move (.tmp 0), none, 0, none⟩,
    ⟨(some 9), .bin .rem (.tmp 8) (.const (.int .i64 (128))), none, 0, none⟩,
    ⟨(some 10), .bin .add (.const (.int .i64 (128))) (.tmp 9), none, 0, none⟩,
    ⟨(some 11), .conv .u8 (.tmp 10), none, 0, none⟩,
    ⟨(some 12), .buildSlice 1 1 true [.int .u8 (0)] [(0, (.tmp 11))], none, 0, none⟩,
    ⟨(some 13), .move (.tmp 0), none, 1, none⟩,
    ⟨(some 14), .bin .quo (.tmp 13) (.const (.int .i64 (128))), none, 1, none⟩,
    ⟨(some 15), .call (.func 113) [(false, (.tmp 14))] false 4, none, 1, none⟩,
    ⟨(some 16), .append 1 1 true (.tmp 12) (.tmp 15), none, 5, none⟩,
    ⟨(some 2), .move (.tmp 16), none, 6, none⟩] []) (.ret))), [.tmp 2], true⟩
def s113 : Sig := ⟨(.cons (.v (.int .i64)) .nil), [], ((.v (.list (.int .u8))), []), []⟩
def F113 (L : Lp) (g113 : Int → Option (List Int)) (an0 : Int) : Option (List Int) :=
  cond (decide (an0 < 128))
    (some [IntKind.wrap .u8 (an0)])
    (Option.bind (g113 (IntKind.wrap .i64 (Int.tdiv an0 128))) fun r1 =>
    cond (smallB (1 + (List.length r1)) 1)
      (some ([IntKind.wrap .u8 (IntKind.wrap .i64 (128 + (Int.tmod an0 128)))] ++ r1))
      (none))
theorem e113 (L : Lp) (g113 : Int → Option (List Int)) (x : s113.args.den) (h : denH s113.heap) : nrun [⟨113, s113, fun x h => g113 x.1⟩] L n113 s113 x h = F113 L g113 x.1 := by kernel_rfl
def r113 (n : Nat) : Int → Option (List Int) := fixN (fun g113 => F113 (@LN LOOPS) g113) (fun _ => none) n
def f113 : Int → Option (List Int) := r113 RDEEP
@[reducible] def t113 : Ent := ⟨113, s113, fun x h => f113 x.1⟩
theorem k113 : chkNF Try.prog Try.f113 n113 = true := by kernel_rfl
theorem ok113 : NOk Try.prog t113 := NOk.fix (s := s113) (fun n x h => r113 n x.1) (enters_of Try.func113 k113) (by kernel_rfl) (fun _ _ => rfl) (fun n hn => NOk.body (T := [⟨113, s113, fun x h => r113 n x.1⟩]) mixed (nall_cons hn nall_nil) (oneEach_of (by kernel_rfl)) Try.func113 k113 (by kernel_rfl) (fun x h => e113 _ _ x h)) RDEEP
/- drayage/drayageref05.Put -/
def n83 : NFunc := ⟨19, .seq (.region 0 [
    ⟨(some 2), .move (.const (.zsl)), none, 0, none⟩] []) (.seq (.region 0 [
    ⟨(some 3), .move (.const (.zsl)), none, 0, none⟩] []) (.seq (.seq (.region 0 [
    ⟨(some 4), .move (.const (.int .i64 (0))), none, 0, none⟩] []) (.block 0 (.pre [0, 3, 4] [.mat 3 1 true] (.loop [0, 3, 4] ⟨[(3, (.slw 0 1)), (4, (.v (.int .i64)))], [0], [.typed (.int .u8)]⟩ (.seq (.seq (.region 0 [
    ⟨(some 5), .move (.tmp 4), none, 0, none⟩,
    ⟨(some 6), .move (.tmp 0), none, 0, none⟩,
    ⟨(some 7), .len (.tmp 6), none, 0, none⟩,
    ⟨(some 8), .bin .lss (.tmp 5) (.tmp 7), none, 0, none⟩] []) (.cond (.tmp 8) (.skip) (.exit 0))) (.seq (.block 1 (.region 5 [
    ⟨(some 11), .move (.tmp 3), none, 0, none⟩,
    ⟨(some 12), .move (.tmp 0), none, 0, none⟩,
    ⟨(some 13), .move (.tmp 4), none, 0, none⟩,
    ⟨(some 14), .indexSl 1 (.tmp 12) (.tmp 13), none, 0, none⟩,
    ⟨(some 15), .load false 1 (.tmp 14), none, 0, none⟩,
    ⟨(some 16), .call (.func 113) [(false, (.tmp 15))] false 4, none, 0, none⟩,
    ⟨(some 17), .append 1 1 true (.tmp 11) (.tmp 16), none, 4, none⟩,
    ⟨(some 3), .move (.tmp 17), none, 5, none⟩] [])) (.region 0 [
    ⟨(some 9), .move (.tmp 4), none, 0, none⟩,
    ⟨(some 10), .bin .add (.tmp 9) (.const (.int .i64 (1))), none, 0, none⟩,
    ⟨(some 4), .move (.tmp 10), none, 0, none⟩] []))))))) (.seq (.region 0 [
    ⟨(some 18), .move (.tmp 3), none, 0, none⟩,
    ⟨(some 2), .move (.tmp 18), none, 0, none⟩] []) (.ret)))), [.tmp 2], true⟩
def s83 : Sig := ⟨(.cons (.v (.list (.int .i64))) .nil), [], ((.v (.list (.int .u8))), []), []⟩
def l83_0 (g113 : Int → Option (List Int)) (al0 : (List Int)) (nx2 : ((Unit × (Int × Unit)) × ((List Int) × Unit)) → Option (List Int)) (i3 : Int) (z4 : (List Int)) : Option (List Int) :=
  cond (decide (i3 < (List.length al0 : Int)))
    (cond (decide (0 ≤ i3))
      (Option.bind (al0[Int.toNat i3]?) fun y5 =>
      Option.bind (g113 y5) fun r6 =>
      cond (smallB ((List.length z4) + (List.length r6)) 1)
        (nx2 (((), IntKind.wrap .i64 (i3 + 1), ()), (z4 ++ r6, ())))
        (none))
      (none))
    (some z4)
def F83 (L : Lp) (g113 : Int → Option (List Int)) (al0 : (List Int)) : Option (List Int) :=
  L (fun (s1 : ((Unit × (Int × Unit)) × ((List Int) × Unit))) nx2 => l83_0 g113 al0 nx2 s1.1.2.1 s1.2.1) (((), 0, ()), ([], ()))
theorem e83 (L : Lp) (g113 : Int → Option (List Int)) (x : s83.args.den) (h : denH s83.heap) : nrun [⟨113, s113, fun x h => g113 x.1⟩] L n83 s83 x h = F83 L g113 x.1 := by kernel_rfl
def f83 : (List Int) → Option (List Int) := F83 (@LN LOOPS) f113
@[reducible] def t83 : Ent := ⟨83, s83, fun x h => f83 x.1⟩
theorem k83 : chkNF Try.prog Try.f83 n83 = true := by kernel_rfl
theorem ok83 : NOk Try.prog t83 := NOk.body (T := [t113]) mixed (nall_cons ok113 nall_nil) (oneEach_of (by kernel_rfl)) Try.func83 k83 (by kernel_rfl) (fun x h => e83 _ _ x h)
/- drayage/drayageref08.Write -/
def n28 : NFunc := ⟨73, .seq (.region 1 [
    ⟨(some 1), .box 17 (.tmp 0), none, 0, none⟩,
    ⟨(some 2), .move (.const (.zsl)), none, 1, none⟩] []) (.seq (.region 4 [
    ⟨(some 8), .load true 17 (.tmp 1), none, 0, none⟩,
    ⟨(some 9), .call (.func 65) [(false, (.tmp 8))] false 4, none, 0, none⟩,
    ⟨(some 3), .move (.tmp 9), none, 4, none⟩] []) (.seq (.region 4 [
    ⟨(some 10), .fieldAddr 0 (.tmp 1), none, 0, none⟩,
    ⟨(some 11), .load false 1 (.tmp 10), none, 0, none⟩,
    ⟨(some 12), .call (.func 81) [(false, (.tmp 11))] false 4, none, 0, none⟩,
    ⟨(some 4), .move (.tmp 12), none, 4, none⟩] []) (.seq (.region 1 [
    ⟨(some 13), .fieldAddr 0 (.tmp 1), none, 0, none⟩,
    ⟨(some 14), .load false 1 (.tmp 13), none, 0, none⟩,
    ⟨(some 15), .fieldAddr 1 (.tmp 1), none, 0, none⟩,
    ⟨(some 16), .load false 1 (.tmp 15), none, 0, none⟩,
    ⟨(some 17), .buildSlice 1 2 true [.int .i64 (0)] [(0, (.tmp 14)), (1, (.tmp 16))], none, 0, none⟩,
    ⟨(some 5), .move (.tmp 17), none, 1, none⟩] []) (.seq (.seq (.region 0 [
    ⟨(some 6), .move (.const (.int .i64 (0))), none, 0, none⟩] []) (.block 0 (.loop [1, 3, 4, 5, 6] ⟨[(1, (.ptr 0 0 0)), (5, (.slw 1 1)), (6, (.v (.int .i64)))], [3, 4], [.one false .request, .typed (.int .i64)]⟩ (.seq (.seq (.region 0 [
    ⟨(some 18), .move (.tmp 6), none, 0, none⟩,
    ⟨(some 19), .move (.tmp 4), none, 0, none⟩,
    ⟨(some 20), .len (.tmp 19), none, 0, none⟩,
    ⟨(some 21), .bin .lss (.tmp 18) (.tmp 20), none, 0, none⟩] []) (.cond (.tmp 21) (.skip) (.exit 0))) (.seq (.block 1 (.region 2 [
    ⟨(some 24), .move (.tmp 5), none, 0, none⟩,
    ⟨(some 25), .move (.tmp 3), none, 0, none⟩,
    ⟨(some 26), .move (.tmp 4), none, 0, none⟩,
    ⟨(some 27), .move (.tmp 6), none, 0, none⟩,
    ⟨(some 28), .indexSl 1 (.tmp 26) (.tmp 27), none, 0, none⟩,
    ⟨(some 29), .load false 1 (.tmp 28), none, 0, none⟩,
    ⟨(some 30), .indexSl 1 (.tmp 25) (.tmp 29), none, 0, none⟩,
    ⟨(some 31), .load false 1 (.tmp 30), none, 0, none⟩,
    ⟨(some 32), .buildSlice 1 1 true [.int .i64 (0)] [(0, (.tmp 31))], none, 0, none⟩,
    ⟨(some 33), .append 1 8 true (.tmp 24) (.tmp 32), none, 1, none⟩,
    ⟨(some 5), .move (.tmp 33), none, 2, none⟩] [])) (.region 0 [
    ⟨(some 22), .move (.tmp 6), none, 0, none⟩,
    ⟨(some 23), .bin .add (.tmp 22) (.const (.int .i64 (1))), none, 0, none⟩,
    ⟨(some 6), .move (.tmp 23), none, 0, none⟩] [])))))) (.seq (.meet [5] [] ⟨[(5, (.slw 0 1))], [], [.typed (.int .i64)]⟩ (.seq (.region 0 [
    ⟨(some 34), .fieldAddr 0 (.tmp 1), none, 0, none⟩,
    ⟨(some 35), .load false 1 (.tmp 34), none, 0, none⟩,
    ⟨(some 36), .bin .eql (.tmp 35) (.const (.int .i64 (1))), none, 0, none⟩] []) (.cond (.tmp 36) (.seq (.region 2 [
    ⟨(some 37), .move (.tmp 5), none, 0, none⟩,
    ⟨(some 38), .fieldAddr 12 (.tmp 1), none, 0, none⟩,
    ⟨(some 39), .load false 1 (.tmp 38), none, 0, none⟩,
    ⟨(some 40), .len (.tmp 39), none, 0, none⟩,
    ⟨(some 41), .buildSlice 1 1 true [.int .i64 (0)] [(0, (.tmp 40))], none, 0, none⟩,
    ⟨(some 42), .append 1 8 true (.tmp 37) (.tmp 41), none, 1, none⟩,
    ⟨(some 5), .move (.tmp 42), none, 2, none⟩] []) (.seq (.region 0 [
    ⟨(some 7), .move (.const (.int .i64 (0))), none, 0, none⟩] []) (.block 2 (.loop [1, 5, 7] ⟨[(1, (.ptr 0 0 0)), (5, (.slw 1 1)), (7, (.v (.int .i64)))], [], [.one false .request, .typed (.int .i64)]⟩ (.seq (.seq (.region 0 [
    ⟨(some 43), .move (.tmp 7), none, 0, none⟩,
    ⟨(some 44), .fieldAddr 12 (.tmp 1), none, 0, none⟩,
    ⟨(some 45), .load false 1 (.tmp 44), none, 0, none⟩,
    ⟨(some 46), .len (.tmp 45), none, 0, none⟩,
    ⟨(some 47), .bin .lss (.tmp 43) (.tmp 46), none, 0, none⟩] []) (.cond (.tmp 47) (.skip) (.exit 2))) (.seq (.block 3 (.seq (.region 2 [
    ⟨(some 50), .move (.tmp 5), none, 0, none⟩,
    ⟨(some 51), .fieldAddr 12 (.tmp 1), none, 0, none⟩,
    ⟨(some 52), .load false 1 (.tmp 51), none, 0, none⟩,
    ⟨(some 53), .move (.tmp 7), none, 0, none⟩,
    ⟨(some 54), .indexSl 2 (.tmp 52) (.tmp 53), none, 0, none⟩,
    ⟨(some 55), .fieldAddr 0 (.tmp 54), none, 0, none⟩,
    ⟨(some 56), .load false 1 (.tmp 55), none, 0, none⟩,
    ⟨(some 57), .buildSlice 1 1 true [.int .i64 (0)] [(0, (.tmp 56))], none, 0, none⟩,
    ⟨(some 58), .append 1 8 true (.tmp 50) (.tmp 57), none, 1, none⟩,
    ⟨(some 5), .move (.tmp 58), none, 2, none⟩] []) (.seq (.region 0 [
    ⟨(some 59), .fieldAddr 12 (.tmp 1), none, 0, none⟩,
    ⟨(some 60), .load false 1 (.tmp 59), none, 0, none⟩,
    ⟨(some 61), .move (.tmp 7), none, 0, none⟩,
    ⟨(some 62), .indexSl 2 (.tmp 60) (.tmp 61), none, 0, none⟩,
    ⟨(some 63), .fieldAddr 1 (.tmp 62), none, 0, none⟩,
    ⟨(some 64), .load false 1 (.tmp 63), none, 0, none⟩] []) (.cond (.tmp 64) (.region 2 [
    ⟨(some 65), .move (.tmp 5), none, 0, none⟩,
    ⟨(some 66), .buildSlice 1 1 true [.int .i64 (0)] [(0, (.const (.int .i64 (1))))], none, 0, none⟩,
    ⟨(some 67), .append 1 8 true (.tmp 65) (.tmp 66), none, 1, none⟩,
    ⟨(some 5), .move (.tmp 67), none, 2, none⟩] []) (.region 2 [
    ⟨(some 68), .move (.tmp 5), none, 0, none⟩,
    ⟨(some 69), .buildSlice 1 1 true [.int .i64 (0)] [(0, (.const (.int .i64 (0))))], none, 0, none⟩,
    ⟨(some 70), .append 1 8 true (.tmp 68) (.tmp 69), none, 1, none⟩,
    ⟨(some 5), .move (.tmp 70), none, 2, none⟩] []))))) (.region 0 [
    ⟨(some 48), .move (.tmp 7), none, 0, none⟩,
    ⟨(some 49), .bin .add (.tmp 48) (.const (.int .i64 (1))), none, 0, none⟩,
    ⟨(some 7), .move (.tmp 49), none, 0, none⟩] []))))))) (.skip)))) (.seq (.region 4 [
    ⟨(some 71), .move (.tmp 5), none, 0, none⟩,
    ⟨(some 72), .call (.func 83) [(false, (.tmp 71))] false 4, none, 0, none⟩,
    ⟨(some 2), .move (.tmp 72), none, 4, none⟩] []) (.ret))))))), [.tmp 2], true⟩
def s28 : Sig := ⟨(.cons (.v .request) .nil), [], ((.v (.list (.int .u8))), []), []⟩
def l28_0  (nx11 : ((Unit × (Unit × (Int × Unit))) × (Request × ((List Int) × Unit))) → Option ((Unit × Unit) × ((List Int) × Unit))) (i12 : Int) (z13 : Request) (z14 : (List Int)) : Option ((Unit × Unit) × ((List Int) × Unit)) :=
  cond (decide (i12 < (List.length z13.after : Int)))
    (cond (decide (0 ≤ i12))
      (Option.bind (z13.after[Int.toNat i12]?) fun y15 =>
      cond (smallB ((List.length z14) + 1) 8)
        (cond (decide (0 ≤ i12))
          (Option.bind (z13.after[Int.toNat i12]?) fun y16 =>
          cond y16.ok
            (cond (smallB ((List.length (z14 ++ [y15.job])) + 1) 8)
              (nx11 (((), (), IntKind.wrap .i64 (i12 + 1), ()), (z13, (z14 ++ [y15.job]) ++ [1], ())))
              (none))
            (cond (smallB ((List.length (z14 ++ [y15.job])) + 1) 8)
              (nx11 (((), (), IntKind.wrap .i64 (i12 + 1), ()), (z13, (z14 ++ [y15.job]) ++ [0], ())))
              (none)))
          (none))
        (none))
      (none))
    (some (((), ()), (z14, ())))
def l28_1 (L : Lp) (g83 : (List Int) → Option (List Int)) (r1 : (List Int)) (r2 : (List Int)) (nx4 : ((Unit × (Unit × (Int × Unit))) × (Request × ((List Int) × Unit))) → Option (List Int)) (i5 : Int) (z6 : Request) (z7 : (List Int)) : Option (List Int) :=
  cond (decide (i5 < (List.length r2 : Int)))
    (cond (decide (0 ≤ i5))
      (Option.bind (r2[Int.toNat i5]?) fun y8 =>
      cond (decide (0 ≤ y8))
        (Option.bind (r1[Int.toNat y8]?) fun y9 =>
        cond (smallB ((List.length z7) + 1) 8)
          (nx4 (((), (), IntKind.wrap .i64 (i5 + 1), ()), (z6, z7 ++ [y9], ())))
          (none))
        (none))
      (none))
    (Option.bind (α := ((Unit × Unit) × ((List Int) × Unit)))
      (cond (decide (z6.kind = 1))
        (cond (smallB ((List.length z7) + 1) 8)
          (L (fun (s10 : ((Unit × (Unit × (Int × Unit))) × (Request × ((List Int) × Unit)))) nx11 => l28_0 nx11 s10.1.2.2.1 s10.2.1 s10.2.2.1) (((), (), 0, ()), (z6, z7 ++ [(List.length z6.after : Int)], ())))
          (none))
        (some (((), ()), (z7, ())))) fun x17 =>
    Option.bind (g83 x17.2.1) fun r18 =>
    some r18)
def F28 (L : Lp) (g65 : Request → Option (List Int)) (g81 : Int → Option (List Int)) (g83 : (List Int) → Option (List Int)) (ar0 : Request) : Option (List Int) :=
  Option.bind (g65 ar0) fun r1 =>
  Option.bind (g81 ar0.kind) fun r2 =>
  L (fun (s3 : ((Unit × (Unit × (Int × Unit))) × (Request × ((List Int) × Unit)))) nx4 => l28_1 L g83 r1 r2 nx4 s3.1.2.2.1 s3.2.1 s3.2.2.1) (((), (), 0, ()), (ar0, [ar0.kind, ar0.key], ()))
theorem e28 (L : Lp) (g65 : Request → Option (List Int)) (g81 : Int → Option (List Int)) (g83 : (List Int) → Option (List Int)) (x : s28.args.den) (h : denH s28.heap) : nrun [⟨65, s65, fun x h => g65 x.1⟩, ⟨81, s81, fun x h => g81 x.1⟩, ⟨83, s83, fun x h => g83 x.1⟩] L n28 s28 x h = F28 L g65 g81 g83 x.1 := by kernel_rfl
def f28 : Request → Option (List Int) := F28 (@LN LOOPS) f65 f81 f83
@[reducible] def t28 : Ent := ⟨28, s28, fun x h => f28 x.1⟩
theorem k28 : chkNF Try.prog Try.f28 n28 = true := by kernel_rfl
theorem ok28 : NOk Try.prog t28 := NOk.body (T := [t65, t81, t83]) mixed (nall_cons ok65 (nall_cons ok81 (nall_cons ok83 nall_nil))) (oneEach_of (by kernel_rfl)) Try.func28 k28 (by kernel_rfl) (fun x h => e28 _ _ _ _ x h)
/- drayage/drayageref08.Same -/
def n15 : NFunc := ⟨65, .seq (.region 2 [
    ⟨(some 2), .box 17 (.tmp 0), none, 0, none⟩,
    ⟨(some 3), .box 17 (.tmp 1), none, 1, none⟩,
    ⟨(some 4), .move (.const (.bool false)), none, 2, none⟩] []) (.seq (.seq (.region 0 [
    ⟨(some 9), .fieldAddr 0 (.tmp 2), none, 0, none⟩,
    ⟨(some 10), .load false 1 (.tmp 9), none, 0, none⟩,
    ⟨(some 11), .fieldAddr 0 (.tmp 3), none, 0, none⟩,
    ⟨(some 12), .load false 1 (.tmp 11), none, 0, none⟩,
    ⟨(some 13), .bin .neq (.tmp 10) (.tmp 12), none, 0, none⟩,
    ⟨(some 14), .move (.tmp 13), none, 0, none⟩,
    ⟨(some 15), .fieldAddr 1 (.tmp 2), (some (14, false)), 0, none⟩,
    ⟨(some 16), .load false 1 (.tmp 15), (some (14, false)), 0, none⟩,
    ⟨(some 17), .fieldAddr 1 (.tmp 3), (some (14, false)), 0, none⟩,
    ⟨(some 18), .load false 1 (.tmp 17), (some (14, false)), 0, none⟩,
    ⟨(some 19), .bin .neq (.tmp 16) (.tmp 18), (some (14, false)), 0, none⟩,
    ⟨(some 20), .pick (.tmp 14) (.const (.bool true)) (.tmp 19), none, 0, none⟩,
    ⟨(some 21), .move (.tmp 20), none, 0, none⟩,
    ⟨(some 22), .fieldAddr 12 (.tmp 2), (some (21, false)), 0, none⟩,
    ⟨(some 23), .load false 1 (.tmp 22), (some (21, false)), 0, none⟩,
    ⟨(some 24), .len (.tmp 23), (some (21, false)), 0, none⟩,
    ⟨(some 25), .fieldAddr 12 (.tmp 3), (some (21, false)), 0, none⟩,
    ⟨(some 26), .load false 1 (.tmp 25), (some (21, false)), 0, none⟩,
    ⟨(some 27), .len (.tmp 26), (some (21, false)), 0, none⟩,
    ⟨(some 28), .bin .neq (.tmp 24) (.tmp 27), (some (21, false)), 0, none⟩,
    ⟨(some 29), .pick (.tmp 21) (.const (.bool true)) (.tmp 28), none, 0, none⟩] []) (.cond (.tmp 29) (.seq (.region 0 [
    ⟨(some 4), .move (.const (.bool false)), none, 0, none⟩] []) (.ret)) (.skip))) (.seq (.seq (.region 0 [
    ⟨(some 5), .move (.const (.int .i64 (0))), none, 0, none⟩] []) (.block 0 (.loop [2, 3, 5] ⟨[(2, (.ptr 0 0 0)), (3, (.ptr 1 0 0)), (5, (.v (.int .i64)))], [], [.one false .request, .one false .request]⟩ (.seq (.seq (.region 0 [
    ⟨(some 30), .move (.tmp 5), none, 0, none⟩,
    ⟨(some 31), .fieldAddr 12 (.tmp 2), none, 0, none⟩,
    ⟨(some 32), .load false 1 (.tmp 31), none, 0, none⟩,
    ⟨(some 33), .len (.tmp 32), none, 0, none⟩,
    ⟨(some 34), .bin .lss (.tmp 30) (.tmp 33), none, 0, none⟩] []) (.cond (.tmp 34) (.skip) (.exit 0))) (.seq (.block 1 (.seq (.region 0 [
    ⟨(some 37), .fieldAddr 12 (.tmp 2), none, 0, (some ([], none))⟩,
    ⟨(some 38), .load false 1 (.tmp 37), none, 0, (some ([], none))⟩,
    ⟨(some 39), .move (.tmp 5), none, 0, (some ([], none))⟩,
    ⟨(some 40), .indexSl 2 (.tmp 38) (.tmp 39), none, 0, (some ([], none))⟩,
    ⟨(some 41), .load true 2 (.tmp 40), none, 0, (some ([], none))⟩,
    ⟨(some 42), .fieldAddr 12 (.tmp 3), none, 0, (some ([], none))⟩,
    ⟨(some 43), .load false 1 (.tmp 42), none, 0, (some ([], none))⟩,
    ⟨(some 44), .move (.tmp 5), none, 0, (some ([], none))⟩,
    ⟨(some 45), .indexSl 2 (.tmp 43) (.tmp 44), none, 0, (some ([], none))⟩,
    ⟨(some 46), .load true 2 (.tmp 45), none, 0, (some ([], none))⟩,
    ⟨(some 47), .eqAgg (true, [.int .i64, .bool]) (.tmp 41) (.tmp 46), none, 0, (some ([], none))⟩] []) (.cond (.tmp 47) (.seq (.region 0 [
    ⟨(some 4), .move (.const (.bool false)), none, 0, none⟩] []) (.ret)) (.skip)))) (.region 0 [
    ⟨(some 35), .move (.tmp 5), none, 0, none⟩,
    ⟨(some 36), .bin .add (.tmp 35) (.const (.int .i64 (1))), none, 0, none⟩,
    ⟨(some 5), .move (.tmp 36), none, 0, none⟩] [])))))) (.seq (.region 4 [
    ⟨(some 48), .load true 17 (.tmp 2), none, 0, none⟩,
    ⟨(some 49), .call (.func 65) [(false, (.tmp 48))] false 4, none, 0, none⟩,
    ⟨(some 6), .move (.tmp 49), none, 4, none⟩] []) (.seq (.region 4 [
    ⟨(some 50), .load true 17 (.tmp 3), none, 0, none⟩,
    ⟨(some 51), .call (.func 65) [(false, (.tmp 50))] false 4, none, 0, none⟩,
    ⟨(some 7), .move (.tmp 51), none, 4, none⟩] []) (.seq (.seq (.region 0 [
    ⟨(some 8), .move (.const (.int .i64 (0))), none, 0, none⟩] []) (.block 2 (.loopU [6, 7, 8] 16 (.seq (.seq (.region 0 [
    ⟨(some 52), .move (.tmp 8), none, 0, none⟩,
    ⟨(some 53), .bin .lss (.tmp 52) (.const (.int .i64 (15))), none, 0, none⟩] []) (.cond (.tmp 53) (.skip) (.exit 2))) (.seq (.block 3 (.seq (.region 0 [
    ⟨(some 56), .move (.tmp 6), none, 0, (some ([], none))⟩,
    ⟨(some 57), .move (.tmp 8), none, 0, (some ([], none))⟩,
    ⟨(some 58), .indexSl 1 (.tmp 56) (.tmp 57), none, 0, (some ([], none))⟩,
    ⟨(some 59), .load false 1 (.tmp 58), none, 0, (some ([], none))⟩,
    ⟨(some 60), .move (.tmp 7), none, 0, (some ([], none))⟩,
    ⟨(some 61), .move (.tmp 8), none, 0, (some ([], none))⟩,
    ⟨(some 62), .indexSl 1 (.tmp 60) (.tmp 61), none, 0, (some ([], none))⟩,
    ⟨(some 63), .load false 1 (.tmp 62), none, 0, (some ([], none))⟩,
    ⟨(some 64), .bin .neq (.tmp 59) (.tmp 63), none, 0, (some ([], none))⟩] []) (.cond (.tmp 64) (.seq (.region 0 [
    ⟨(some 4), .move (.const (.bool false)), none, 0, none⟩] []) (.ret)) (.skip)))) (.region 0 [
    ⟨(some 54), .move (.tmp 8), none, 0, none⟩,
    ⟨(some 55), .bin .add (.tmp 54) (.const (.int .i64 (1))), none, 0, none⟩,
    ⟨(some 8), .move (.tmp 55), none, 0, none⟩] [])))))) (.seq (.region 0 [
    ⟨(some 4), .move (.const (.bool true)), none, 0, none⟩] []) (.ret))))))), [.tmp 4], true⟩
def s15 : Sig := ⟨(.cons (.v .request) (.cons (.v .request) .nil)), [], ((.v .bool), []), []⟩
def l15_0 (g65 : Request → Option (List Int)) (nx3 : ((Unit × (Unit × (Int × Unit))) × (Request × (Request × Unit))) → Option Bool) (i4 : Int) (z5 : Request) (z6 : Request) : Option Bool :=
  cond (decide (i4 < (List.length z5.after : Int)))
    (cond (decide (0 ≤ i4))
      (Option.bind (z5.after[Int.toNat i4]?) fun y7 =>
      cond (decide (0 ≤ i4))
        (Option.bind (z6.after[Int.toNat i4]?) fun y8 =>
        cond (!((decide (y7.job = y8.job)) && ((y7.ok == y8.ok) && true)))
          (some false)
          (nx3 (((), (), IntKind.wrap .i64 (i4 + 1), ()), (z5, z6, ()))))
        (none))
      (none))
    (Option.bind (g65 z5) fun r9 =>
    Option.bind (g65 z6) fun r10 =>
    Option.bind (r9[0]?) fun y11 =>
    Option.bind (r10[0]?) fun y12 =>
    cond (!decide (y11 = y12))
      (some false)
      (Option.bind (r9[1]?) fun y13 =>
      Option.bind (r10[1]?) fun y14 =>
      cond (!decide (y13 = y14))
        (some false)
        (Option.bind (r9[2]?) fun y15 =>
        Option.bind (r10[2]?) fun y16 =>
        cond (!decide (y15 = y16))
          (some false)
          (Option.bind (r9[3]?) fun y17 =>
          Option.bind (r10[3]?) fun y18 =>
          cond (!decide (y17 = y18))
            (some false)
            (Option.bind (r9[4]?) fun y19 =>
            Option.bind (r10[4]?) fun y20 =>
            cond (!decide (y19 = y20))
              (some false)
              (Option.bind (r9[5]?) fun y21 =>
              Option.bind (r10[5]?) fun y22 =>
              cond (!decide (y21 = y22))
                (some false)
                (Option.bind (r9[6]?) fun y23 =>
                Option.bind (r10[6]?) fun y24 =>
                cond (!decide (y23 = y24))
                  (some false)
                  (Option.bind (r9[7]?) fun y25 =>
                  Option.bind (r10[7]?) fun y26 =>
                  cond (!decide (y25 = y26))
                    (some false)
                    (Option.bind (r9[8]?) fun y27 =>
                    Option.bind (r10[8]?) fun y28 =>
                    cond (!decide (y27 = y28))
                      (some false)
                      (Option.bind (r9[9]?) fun y29 =>
                      Option.bind (r10[9]?) fun y30 =>
                      cond (!decide (y29 = y30))
                        (some false)
                        (Option.bind (r9[10]?) fun y31 =>
                        Option.bind (r10[10]?) fun y32 =>
                        cond (!decide (y31 = y32))
                          (some false)
                          (Option.bind (r9[11]?) fun y33 =>
                          Option.bind (r10[11]?) fun y34 =>
                          cond (!decide (y33 = y34))
                            (some false)
                            (Option.bind (r9[12]?) fun y35 =>
                            Option.bind (r10[12]?) fun y36 =>
                            cond (!decide (y35 = y36))
                              (some false)
                              (Option.bind (r9[13]?) fun y37 =>
                              Option.bind (r10[13]?) fun y38 =>
                              cond (!decide (y37 = y38))
                                (some false)
                                (Option.bind (r9[14]?) fun y39 =>
                                Option.bind (r10[14]?) fun y40 =>
                                cond (!decide (y39 = y40))
                                  (some false)
                                  (some true))))))))))))))))
def F15 (L : Lp) (g65 : Request → Option (List Int)) (a0 : Request) (b1 : Request) : Option Bool :=
  cond (!decide (a0.kind = b1.kind))
    (some false)
    (cond (!decide (a0.key = b1.key))
      (some false)
      (cond (!decide ((List.length a0.after : Int) = (List.length b1.after : Int)))
        (some false)
        (L (fun (s2 : ((Unit × (Unit × (Int × Unit))) × (Request × (Request × Unit)))) nx3 => l15_0 g65 nx3 s2.1.2.2.1 s2.2.1 s2.2.2.1) (((), (), 0, ()), (a0, b1, ())))))
theorem e15 (L : Lp) (g65 : Request → Option (List Int)) (x : s15.args.den) (h : denH s15.heap) : nrun [⟨65, s65, fun x h => g65 x.1⟩] L n15 s15 x h = F15 L g65 x.1 x.2.1 := by kernel_rfl
def f15 : Request → Request → Option Bool := F15 (@LN LOOPS) f65
@[reducible] def t15 : Ent := ⟨15, s15, fun x h => f15 x.1 x.2.1⟩
theorem k15 : chkNF Try.prog Try.f15 n15 = true := by kernel_rfl
theorem ok15 : NOk Try.prog t15 := NOk.body (T := [t65]) mixed (nall_cons ok65 nall_nil) (oneEach_of (by kernel_rfl)) Try.func15 k15 (by kernel_rfl) (fun x h => e15 _ _ x h)
/- drayage/drayagelaw08.AskWrites -/
def n5 : NFunc := ⟨79, .seq (.region 1 [
    ⟨(some 1), .box 17 (.tmp 0), none, 0, none⟩,
    ⟨(some 2), .move (.const (.bool false)), none, 1, none⟩] []) (.seq (.seq (.region 4 [
    ⟨(some 7), .call (.func 13) [] false 4, none, 0, none⟩,
    ⟨(some 8), .un .not (.tmp 7), none, 4, none⟩] []) (.cond (.tmp 8) (.seq (.region 0 [
    ⟨(some 2), .move (.const (.bool false)), none, 0, none⟩] []) (.ret)) (.skip))) (.seq (.seq (.region 0 [
    ⟨(some 9), .fieldAddr 12 (.tmp 1), none, 0, none⟩,
    ⟨(some 10), .load false 1 (.tmp 9), none, 0, none⟩,
    ⟨(some 11), .len (.tmp 10), none, 0, none⟩,
    ⟨(some 12), .bin .gtr (.tmp 11) (.const (.int .i64 (50))), none, 0, none⟩] []) (.cond (.tmp 12) (.seq (.region 0 [
    ⟨(some 2), .move (.const (.bool true)), none, 0, none⟩] []) (.ret)) (.skip))) (.seq (.region 4 [
    ⟨(some 14), .load true 17 (.tmp 1), none, 0, none⟩,
    ⟨(some 15), .call (.func 16) [(false, (.tmp 14))] false 4, none, 0, none⟩,
    ⟨(some 13), .move (.tmp 15), none, 4, none⟩,
    ⟨(some 16), .extract (.tmp 13) 0, none, 4, none⟩,
    ⟨(some 17), .extract (.tmp 13) 1, none, 4, none⟩,
    ⟨(some 3), .move (.tmp 16), none, 4, none⟩,
    ⟨(some 4), .move (.tmp 17), none, 4, none⟩] []) (.seq (.join [3, 4, 1] [] ⟨[(1, (.ptr 0 0 0))], [3, 4], [.one false .request]⟩ (.seq (.region 12 [
    ⟨(some 18), .load true 17 (.tmp 1), none, 0, (some ([], none))⟩,
    ⟨(some 19), .call (.func 24) [(false, (.tmp 18))] true 4, none, 0, (some ([], none))⟩,
    ⟨(some 20), .load true 17 (.tmp 1), none, 4, (some ([], none))⟩,
    ⟨(some 21), .call (.func 25) [(false, (.tmp 20))] false 4, none, 4, (some ([0, 1, 2, 3], none))⟩,
    ⟨(some 22), .eqB true (.tmp 19) (.tmp 21), none, 8, (some ([0, 1, 2, 3, 4, 5, 6, 7], none))⟩,
    ⟨(some 23), .move (.tmp 22), none, 8, (some ([0, 1, 2, 3, 4, 5, 6, 7], none))⟩,
    ⟨(some 24), .fieldAddr 0 (.tmp 1), (some (23, false)), 8, (some ([0, 1, 2, 3, 4, 5, 6, 7], none))⟩,
    ⟨(some 25), .load false 1 (.tmp 24), (some (23, false)), 8, (some ([0, 1, 2, 3, 4, 5, 6, 7], none))⟩,
    ⟨(some 26), .call (.func 26) [(false, (.tmp 25))] true 4, (some (23, false)), 8, (some ([0, 1, 2, 3, 4, 5, 6, 7], none))⟩,
    ⟨(some 27), .fieldAddr 0 (.tmp 1), (some (23, false)), 12, (some ([0, 1, 2, 3, 4, 5, 6, 7], none))⟩,
    ⟨(some 28), .load false 1 (.tmp 27), (some (23, false)), 12, (some ([0, 1, 2, 3, 4, 5, 6, 7], none))⟩,
    ⟨(some 29), .bin .geq (.tmp 28) (.const (.int .i64 (8))), (some (23, false)), 12, (some ([0, 1, 2, 3, 4, 5, 6, 7], none))⟩,
    ⟨(some 30), .move (.tmp 29), (some (23, false)), 12, (some ([0, 1, 2, 3, 4, 5, 6, 7, 8, 9, 10, 11], none))⟩,
    ⟨(some 31), .fieldAddr 0 (.tmp 1), (some (30, true)), 12, (some ([0, 1, 2, 3, 4, 5, 6, 7, 8, 9, 10, 11], none))⟩,
    ⟨(some 32), .load false 1 (.tmp 31), (some (30, true)), 12, (some ([0, 1, 2, 3, 4, 5, 6, 7, 8, 9, 10, 11], none))⟩,
    ⟨(some 33), .bin .leq (.tmp 32) (.const (.int .i64 (10))), (some (30, true)), 12, (some ([0, 1, 2, 3, 4, 5, 6, 7, 8, 9, 10, 11], none))⟩,
    ⟨(some 34), .pick (.tmp 30) (.tmp 33) (.const (.bool false)), (some (23, false)), 12, (some ([0, 1, 2, 3, 4, 5, 6, 7, 8, 9, 10, 11], none))⟩,
    ⟨(some 35), .eqB true (.tmp 26) (.tmp 34), (some (23, false)), 12, (some ([0, 1, 2, 3, 4, 5, 6, 7, 8, 9, 10, 11], none))⟩,
    ⟨(some 36), .pick (.tmp 23) (.const (.bool true)) (.tmp 35), none, 12, (some ([0, 1, 2, 3, 4, 5, 6, 7, 8, 9, 10, 11], none))⟩] []) (.cond (.tmp 36) (.seq (.region 0 [
    ⟨(some 2), .move (.const (.bool false)), none, 0, none⟩] []) (.ret)) (.skip)))) (.seq (.seq (.region 4 [
    ⟨(some 37), .load true 17 (.tmp 1), none, 0, none⟩,
    ⟨(some 38), .call (.func 25) [(false, (.tmp 37))] false 4, none, 0, none⟩,
    ⟨(some 39), .un .not (.tmp 38), none, 4, none⟩] []) (.cond (.tmp 39) (.seq (.region 0 [
    ⟨(some 40), .move (.tmp 4), none, 0, none⟩,
    ⟨(some 41), .bin .eql (.tmp 40) (.const (.int .i64 (2))), none, 0, none⟩,
    ⟨(some 42), .move (.tmp 41), none, 0, none⟩,
    ⟨(some 43), .move (.tmp 3), (some (42, true)), 0, none⟩,
    ⟨(some 44), .len (.tmp 43), (some (42, true)), 0, none⟩,
    ⟨(some 45), .bin .eql (.tmp 44) (.const (.int .i64 (0))), (some (42, true)), 0, none⟩,
    ⟨(some 46), .pick (.tmp 42) (.tmp 45) (.const (.bool false)), none, 0, none⟩,
    ⟨(some 2), .move (.tmp 46), none, 0, none⟩] []) (.ret)) (.skip))) (.seq (.region 5 [
    ⟨(some 48), .move (.tmp 3), none, 0, none⟩,
    ⟨(some 49), .call (.func 27) [(false, (.tmp 48))] false 4, none, 0, none⟩,
    ⟨(some 47), .move (.tmp 49), none, 4, none⟩,
    ⟨(some 50), .extract (.tmp 47) 0, none, 4, none⟩,
    ⟨(some 51), .extract (.tmp 47) 1, none, 4, none⟩,
    ⟨(some 5), .alloc [.int .i64 (0), .int .i64 (0), .int .i64 (0), .int .i64 (0), .int .i64 (0), .int .i64 (0), .int .i64 (0), .int .i64 (0), .int .i64 (0), .int .i64 (0), .int .i64 (0), .int .i64 (0), .zsl, .int .i64 (0), .int .i64 (0), .int .i64 (0), .int .i64 (0)], none, 4, none⟩,
    ⟨none, .store 17 (.tmp 5) (.tmp 50), none, 5, none⟩,
    ⟨(some 6), .move (.tmp 51), none, 5, none⟩] []) (.seq (.region 12 [
    ⟨(some 52), .move (.tmp 4), none, 0, none⟩,
    ⟨(some 53), .bin .eql (.tmp 52) (.const (.int .i64 (0))), none, 0, none⟩,
    ⟨(some 54), .move (.tmp 53), none, 0, none⟩,
    ⟨(some 55), .move (.tmp 3), (some (54, true)), 0, none⟩,
    ⟨(some 56), .load true 17 (.tmp 1), (some (54, true)), 0, none⟩,
    ⟨(some 57), .call (.func 28) [(false, (.tmp 56))] false 4, (some (54, true)), 0, none⟩,
    ⟨(some 58), .call (.func 17) [(false, (.tmp 55)), (false, (.tmp 57))] false 4, (some (54, true)), 4, none⟩,
    ⟨(some 59), .pick (.tmp 54) (.tmp 58) (.const (.bool false)), none, 8, none⟩,
    ⟨(some 60), .move (.tmp 59), none, 8, none⟩,
    ⟨(some 61), .move (.tmp 6), (some (60, true)), 8, none⟩,
    ⟨(some 62), .bin .eql (.tmp 61) (.const (.int .i64 (0))), (some (60, true)), 8, none⟩,
    ⟨(some 63), .pick (.tmp 60) (.tmp 62) (.const (.bool false)), none, 8, none⟩,
    ⟨(some 64), .move (.tmp 63), none, 8, none⟩,
    ⟨(some 65), .load true 17 (.tmp 5), (some (64, true)), 8, none⟩,
    ⟨(some 66), .load true 17 (.tmp 1), (some (64, true)), 8, none⟩,
    ⟨(some 67), .call (.func 15) [(false, (.tmp 65)), (false, (.tmp 66))] false 4, (some (64, true)), 8, none⟩,
    ⟨(some 68), .pick (.tmp 64) (.tmp 67) (.const (.bool false)), none, 12, none⟩,
    ⟨(some 69), .move (.tmp 68), none, 12, none⟩,
    ⟨(some 70), .move (.tmp 3), (some (69, true)), 12, none⟩,
    ⟨(some 71), .len (.tmp 70), (some (69, true)), 12, none⟩,
    ⟨(some 72), .bin .geq (.tmp 71) (.const (.int .i64 (1))), (some (69, true)), 12, none⟩,
    ⟨(some 73), .pick (.tmp 69) (.tmp 72) (.const (.bool false)), none, 12, none⟩,
    ⟨(some 74), .move (.tmp 73), none, 12, none⟩,
    ⟨(some 75), .move (.tmp 3), (some (74, true)), 12, none⟩,
    ⟨(some 76), .len (.tmp 75), (some (74, true)), 12, none⟩,
    ⟨(some 77), .bin .leq (.tmp 76) (.const (.int .i64 (240))), (some (74, true)), 12, none⟩,
    ⟨(some 78), .pick (.tmp 74) (.tmp 77) (.const (.bool false)), none, 12, none⟩,
    ⟨(some 2), .move (.tmp 78), none, 12, none⟩] []) (.ret)))))))), [.tmp 2], true⟩
def s5 : Sig := ⟨(.cons (.v .request) .nil), [], ((.v .bool), []), []⟩
def F5 (L : Lp) (g13 : Option Bool) (g16 : Request → Option ((List Int) × (Int × Unit))) (g24 : Request → Option Bool) (g25 : Request → Option Bool) (g26 : Int → Option Bool) (g27 : (List Int) → Option (Request × (Int × Unit))) (g28 : Request → Option (List Int)) (g17 : (List Int) → (List Int) → Option Bool) (g15 : Request → Request → Option Bool) (ar0 : Request) : Option Bool :=
  Option.bind (g13) fun r1 =>
  cond (!r1)
    (some false)
    (cond (decide (50 < (List.length ar0.after : Int)))
      (some true)
      (Option.bind (g16 ar0) fun r2 =>
      Option.bind (α := (((Unit × Unit) × (Request × Unit)) ⊕ Bool))
        (Option.bind (g24 ar0) fun r3 =>
        Option.bind (g25 ar0) fun r4 =>
        cond (!(r3 == r4))
          (some (.inr false))
          (Option.bind (g26 ar0.kind) fun r5 =>
          cond (decide (8 ≤ ar0.kind))
            (cond (!(r5 == (decide (ar0.kind ≤ 10))))
              (some (.inr false))
              (some (.inl (((), ()), (ar0, ())))))
            (cond (!(r5 == false))
              (some (.inr false))
              (some (.inl (((), ()), (ar0, ()))))))) (Sum.elim (fun x6 =>
        Option.bind (g25 x6.2.1) fun r7 =>
        cond (!r7)
          (cond (decide (r2.2.1 = 2))
            (some (decide ((List.length r2.1 : Int) = 0)))
            (some false))
          (Option.bind (g27 r2.1) fun r8 =>
          cond (decide (r2.2.1 = 0))
            (Option.bind (g28 x6.2.1) fun r9 =>
            Option.bind (g17 r2.1 r9) fun r10 =>
            cond r10
              (cond (decide (r8.2.1 = 0))
                (Option.bind (g15 r8.1 x6.2.1) fun r11 =>
                cond r11
                  (cond (decide (1 ≤ (List.length r2.1 : Int)))
                    (some (decide ((List.length r2.1 : Int) ≤ 240)))
                    (some false))
                  (some false))
                (some false))
              (some false))
            (some false))) some)))
theorem e5 (L : Lp) (g13 : Option Bool) (g16 : Request → Option ((List Int) × (Int × Unit))) (g24 : Request → Option Bool) (g25 : Request → Option Bool) (g26 : Int → Option Bool) (g27 : (List Int) → Option (Request × (Int × Unit))) (g28 : Request → Option (List Int)) (g17 : (List Int) → (List Int) → Option Bool) (g15 : Request → Request → Option Bool) (x : s5.args.den) (h : denH s5.heap) : nrun [⟨13, s13, fun x h => g13 ⟩, ⟨16, s16, fun x h => g16 x.1⟩, ⟨24, s24, fun x h => g24 x.1⟩, ⟨25, s25, fun x h => g25 x.1⟩, ⟨26, s26, fun x h => g26 x.1⟩, ⟨27, s27, fun x h => g27 x.1⟩, ⟨28, s28, fun x h => g28 x.1⟩, ⟨17, s17, fun x h => g17 x.1 x.2.1⟩, ⟨15, s15, fun x h => g15 x.1 x.2.1⟩] L n5 s5 x h = F5 L g13 g16 g24 g25 g26 g27 g28 g17 g15 x.1 := by kernel_rfl
def f5 : Request → Option Bool := F5 (@LN LOOPS) f13 f16 f24 f25 f26 f27 f28 f17 f15
@[reducible] def t5 : Ent := ⟨5, s5, fun x h => f5 x.1⟩
theorem k5 : chkNF Try.prog Try.f5 n5 = true := by kernel_rfl
theorem ok5 : NOk Try.prog t5 := NOk.body (T := [t13, t16, t24, t25, t26, t27, t28, t17, t15]) mixed (nall_cons ok13 (nall_cons ok16 (nall_cons ok24 (nall_cons ok25 (nall_cons ok26 (nall_cons ok27 (nall_cons ok28 (nall_cons ok17 (nall_cons ok15 nall_nil))))))))) (oneEach_of (by kernel_rfl)) Try.func5 k5 (by kernel_rfl) (fun x h => e5 _ _ _ _ _ _ _ _ _ _ x h)
end NM
end Go.Proofs.Ytgpejfddaelobaa
