/-
  The plain forms of the functions that the statement reaches, and that each is its function's body. (Written by program.)
-/
import Derived.Test.YtbhnojlcbgkcbaaDoorNmX
import Derived.Test.YtbhnojlcbgkcbaaDoorProg
import Derived.ProofKit
import Derived.Test.YtbhnojlcbgkcbaaDoorNText
set_option linter.unusedVariables false
set_option maxRecDepth 100000
set_option maxHeartbeats 4000000
namespace Go.Proofs.YtbhnojlcbgkcbaaDoor
namespace NM
open AM Go.RowKit
theorem mixed : Tryd.prog.follows .mixedOrders = true := by kernel_rfl
/- drayage/vec.numbers -/
def n36 : NFunc := ⟨12, .seq (.region 2 [
    ⟨(some 1), .box 4 (.tmp 0), none, 0, none⟩,
    ⟨(some 2), .alloc [.int .i64 (0), .int .i64 (0), .int .i64 (0), .int .i64 (0)], none, 1, none⟩] []) (.seq (.region 0 [
    ⟨(some 3), .fieldAddr 0 (.tmp 1), none, 0, none⟩,
    ⟨(some 4), .load false 1 (.tmp 3), none, 0, none⟩,
    ⟨(some 5), .fieldAddr 1 (.tmp 1), none, 0, none⟩,
    ⟨(some 6), .load false 1 (.tmp 5), none, 0, none⟩,
    ⟨(some 7), .fieldAddr 2 (.tmp 1), none, 0, none⟩,
    ⟨(some 8), .load false 1 (.tmp 7), none, 0, none⟩,
    ⟨(some 9), .fieldAddr 3 (.tmp 1), none, 0, none⟩,
    ⟨(some 10), .load false 1 (.tmp 9), none, 0, none⟩,
    ⟨(some 11), .build [.int .i64 (0), .int .i64 (0), .int .i64 (0), .int .i64 (0)] [(0, 1, (.tmp 4)), (1, 1, (.tmp 6)), (2, 1, (.tmp 8)), (3, 1, (.tmp 10))], none, 0, none⟩,
    ⟨none, .store 4 (.tmp 2) (.tmp 11), none, 0, none⟩] []) (.ret)), [.cell true 4 2], true⟩
def s36 : Sig := ⟨(.cons (.v .res) .nil), [], ((.v (.pair (.int .i64) (.pair (.int .i64) (.pair (.int .i64) (.int .i64))))), []), []⟩
def F36 (L : Lp)  (a0 : Res) : Option (Int × (Int × (Int × Int))) :=
  some (a0.cpu, (a0.mem, (a0.gpu, a0.lic)))
theorem e36 (L : Lp)  (x : s36.args.den) (h : denH s36.heap) : nrun [] L n36 s36 x h = F36 L  x.1 := by kernel_rfl
def f36 : Res → Option (Int × (Int × (Int × Int))) := F36 (@LN LOOPS) 
@[reducible] def t36 : Ent := ⟨36, s36, fun x h => f36 x.1⟩
theorem k36 : chkNF Tryd.prog Tryd.f36 n36 = true := by kernel_rfl
theorem ok36 : NOk Tryd.prog t36 := NOk.body (T := []) mixed nall_nil (oneEach_of (by kernel_rfl)) Tryd.func36 k36 (by kernel_rfl) (fun x h => e36 _  x h)
/- drayage/vec.Right -/
def n27 : NFunc := ⟨17, .seq (.region 1 [
    ⟨(some 1), .box 4 (.tmp 0), none, 0, none⟩,
    ⟨(some 2), .move (.const (.bool false)), none, 1, none⟩] []) (.seq (.seq (.region 4 [
    ⟨(some 5), .load true 4 (.tmp 1), none, 0, none⟩,
    ⟨(some 6), .call (.func 36) [(false, (.tmp 5))] false 4, none, 0, none⟩,
    ⟨(some 7), .move (.const (.int .i64 (0))), none, 4, none⟩] []) (.block 0 (.loopU [6, 7] 5 (.seq (.region 0 [
    ⟨(some 8), .bin .lss (.tmp 7) (.const (.int .i64 (4))), none, 0, none⟩] []) (.seq (.cond (.tmp 8) (.skip) (.exit 0)) (.seq (.block 1 (.seq (.region 0 [
    ⟨(some 9), .indexVal false 4 1 (.tmp 6) (.tmp 7), none, 0, none⟩,
    ⟨(some 4), .move (.tmp 9), none, 0, none⟩] []) (.seq (.region 0 [
    ⟨(some 10), .move (.tmp 4), none, 0, none⟩,
    ⟨(some 11), .bin .lss (.tmp 10) (.const (.int .i64 (0))), none, 0, none⟩,
    ⟨(some 12), .move (.tmp 11), none, 0, none⟩,
    ⟨(some 13), .move (.tmp 4), (some (12, false)), 0, none⟩,
    ⟨(some 14), .bin .gtr (.tmp 13) (.const (.int .i64 (1048576))), (some (12, false)), 0, none⟩,
    ⟨(some 15), .pick (.tmp 12) (.const (.bool true)) (.tmp 14), none, 0, none⟩] []) (.cond (.tmp 15) (.seq (.region 0 [
    ⟨(some 2), .move (.const (.bool false)), none, 0, none⟩] []) (.ret)) (.skip))))) (.region 0 [
    ⟨(some 16), .bin .add (.tmp 7) (.const (.int .i64 (1))), none, 0, none⟩,
    ⟨(some 7), .move (.tmp 16), none, 0, none⟩] []))))))) (.seq (.region 0 [
    ⟨(some 2), .move (.const (.bool true)), none, 0, none⟩] []) (.ret))), [.tmp 2], true⟩
def s27 : Sig := ⟨(.cons (.v .res) .nil), [], ((.v .bool), []), []⟩
def F27 (L : Lp) (g36 : Res → Option (Int × (Int × (Int × Int)))) (a0 : Res) : Option Bool :=
  Option.bind (g36 a0) fun r1 =>
  cond (decide (r1.1 < 0))
  (some false)
  (cond (decide (1048576 < r1.1))
  (some false)
  (cond (decide (r1.2.1 < 0))
  (some false)
  (cond (decide (1048576 < r1.2.1))
  (some false)
  (cond (decide (r1.2.2.1 < 0))
  (some false)
  (cond (decide (1048576 < r1.2.2.1))
  (some false)
  (cond (decide (r1.2.2.2 < 0))
  (some false)
  (cond (decide (1048576 < r1.2.2.2))
  (some false)
  (some true))))))))
theorem e27 (L : Lp) (g36 : Res → Option (Int × (Int × (Int × Int)))) (x : s27.args.den) (h : denH s27.heap) : nrun [⟨36, s36, fun x h => g36 x.1⟩] L n27 s27 x h = F27 L g36 x.1 := by kernel_rfl
def f27 : Res → Option Bool := F27 (@LN LOOPS) f36
@[reducible] def t27 : Ent := ⟨27, s27, fun x h => f27 x.1⟩
theorem k27 : chkNF Tryd.prog Tryd.f27 n27 = true := by kernel_rfl
theorem ok27 : NOk Tryd.prog t27 := NOk.body (T := [t36]) mixed (nall_cons ok36 nall_nil) (oneEach_of (by kernel_rfl)) Tryd.func27 k27 (by kernel_rfl) (fun x h => e27 _ _ x h)
/- drayage/units.Words -/
def n26 : NFunc := ⟨2, .seq (.region 0 [
    ⟨(some 0), .move (.const (.zsl)), none, 0, none⟩] []) (.seq (.region 1 [
    ⟨(some 1), .buildSlice 1 4 true [.str []] [(0, (.const (.str [99, 112, 117]))), (1, (.const (.str [109, 101, 109]))), (2, (.const (.str [103, 112, 117]))), (3, (.const (.str [108, 105, 99])))], none, 0, none⟩,
    ⟨(some 0), .move (.tmp 1), none, 1, none⟩] []) (.ret)), [.tmp 0], true⟩
def s26 : Sig := ⟨.nil, [], ((.v (.list .str)), []), []⟩
def F26 (L : Lp)   : Option (List (List UInt8)) :=
  some [([99, 112, 117] : List UInt8), ([109, 101, 109] : List UInt8), ([103, 112, 117] : List UInt8), ([108, 105, 99] : List UInt8)]
theorem e26 (L : Lp)  (x : s26.args.den) (h : denH s26.heap) : nrun [] L n26 s26 x h = F26 L   := by kernel_rfl
def f26 : Option (List (List UInt8)) := F26 (@LN LOOPS) 
@[reducible] def t26 : Ent := ⟨26, s26, fun x h => f26 ⟩
theorem k26 : chkNF Tryd.prog Tryd.f26 n26 = true := by kernel_rfl
theorem ok26 : NOk Tryd.prog t26 := NOk.body (T := []) mixed nall_nil (oneEach_of (by kernel_rfl)) Tryd.func26 k26 (by kernel_rfl) (fun x h => e26 _  x h)
/- strconv.Itoa -/
def s28 : Sig := ⟨(.cons (.v (.int .i64)) .nil), [], ((.v .str), []), []⟩
def f28 : Int → Option (List UInt8) := itoaF
@[reducible] def t28 : Ent := ⟨28, s28, fun x h => f28 x.1⟩
theorem ok28 : NOk Tryd.prog t28 := ext28
/- strings.Join -/
def s29 : Sig := ⟨(.cons (.v (.list .str)) (.cons (.v .str) .nil)), [], ((.v .str), []), []⟩
def f29 : (List (List UInt8)) → (List UInt8) → Option (List UInt8) := joinF
@[reducible] def t29 : Ent := ⟨29, s29, fun x h => f29 x.1 x.2.1⟩
theorem ok29 : NOk Tryd.prog t29 := ext29
/- drayage/units.Text -/
def n15 : NFunc := ⟨44, .seq (.region 1 [
    ⟨(some 1), .box 4 (.tmp 0), none, 0, none⟩,
    ⟨(some 2), .move (.const (.str [])), none, 1, none⟩,
    ⟨(some 3), .move (.const (.int .i64 (0))), none, 1, none⟩] []) (.seq (.seq (.region 4 [
    ⟨(some 8), .load true 4 (.tmp 1), none, 0, none⟩,
    ⟨(some 9), .call (.func 27) [(false, (.tmp 8))] false 4, none, 0, none⟩,
    ⟨(some 10), .un .not (.tmp 9), none, 4, none⟩] []) (.cond (.tmp 10) (.seq (.region 0 [
    ⟨(some 2), .move (.const (.str [])), none, 0, none⟩,
    ⟨(some 3), .move (.const (.int .i64 (2))), none, 0, none⟩] []) (.ret)) (.skip))) (.seq (.region 4 [
    ⟨(some 11), .call (.func 26) [] false 4, none, 0, none⟩,
    ⟨(some 4), .move (.tmp 11), none, 4, none⟩] []) (.seq (.region 0 [
    ⟨(some 5), .move (.const (.zsl)), none, 0, none⟩] []) (.seq (.seq (.region 0 [
    ⟨(some 12), .fieldAddr 0 (.tmp 1), none, 0, none⟩,
    ⟨(some 13), .load false 1 (.tmp 12), none, 0, none⟩,
    ⟨(some 14), .fieldAddr 1 (.tmp 1), none, 0, none⟩,
    ⟨(some 15), .load false 1 (.tmp 14), none, 0, none⟩,
    ⟨(some 16), .fieldAddr 2 (.tmp 1), none, 0, none⟩,
    ⟨(some 17), .load false 1 (.tmp 16), none, 0, none⟩,
    ⟨(some 18), .fieldAddr 3 (.tmp 1), none, 0, none⟩,
    ⟨(some 19), .load false 1 (.tmp 18), none, 0, none⟩,
    ⟨(some 20), .build [.int .i64 (0), .int .i64 (0), .int .i64 (0), .int .i64 (0)] [(0, 1, (.tmp 13)), (1, 1, (.tmp 15)), (2, 1, (.tmp 17)), (3, 1, (.tmp 19))], none, 0, none⟩,
    ⟨(some 21), .move (.const (.int .i64 (0))), none, 0, none⟩] []) (.block 0 (.pre [4, 5, 20, 21] [.mat 5 1 true] (.loop [4, 5, 20, 21] ⟨[(5, (.slw 0 1)), (21, (.v (.int .i64)))], [4, 20], [.typed .str]⟩ (.seq (.region 0 [
    ⟨(some 22), .bin .lss (.tmp 21) (.const (.int .i64 (4))), none, 0, none⟩] []) (.seq (.cond (.tmp 22) (.skip) (.exit 0)) (.seq (.block 1 (.seq (.meet [4, 20, 21, 7, 6, 5] [] ⟨[(5, (.slw 0 1)), (6, (.v (.int .i64))), (7, (.v (.int .i64)))], [4, 20, 21], [.typed .str]⟩ (.region 0 [
    ⟨(some 23), .move (.tmp 21), none, 0, none⟩,
    ⟨(some 24), .indexVal false 4 1 (.tmp 20) (.tmp 21), none, 0, none⟩,
    ⟨(some 6), .move (.tmp 23), none, 0, none⟩,
    ⟨(some 7), .move (.tmp 24), none, 0, none⟩] [⟨24, none, some (21, 4)⟩])) (.seq (.region 0 [
    ⟨(some 25), .move (.tmp 7), none, 0, none⟩,
    ⟨(some 26), .bin .neq (.tmp 25) (.const (.int .i64 (0))), none, 0, none⟩] []) (.cond (.tmp 26) (.region 6 [
    ⟨(some 27), .move (.tmp 5), none, 0, (some ([], none))⟩,
    ⟨(some 28), .move (.tmp 4), none, 0, (some ([], none))⟩,
    ⟨(some 29), .move (.tmp 6), none, 0, (some ([], none))⟩,
    ⟨(some 30), .indexSl 1 (.tmp 28) (.tmp 29), none, 0, (some ([], none))⟩,
    ⟨(some 31), .load false 1 (.tmp 30), none, 0, (some ([], none))⟩,
    ⟨(some 32), .bin .add (.tmp 31) (.const (.str [61])), none, 0, (some ([], none))⟩,
    ⟨(some 33), .move (.tmp 7), none, 0, (some ([], none))⟩,
    ⟨(some 34), .call (.func 28) [(false, (.tmp 33))] true 4, none, 0, (some ([], none))⟩,
    ⟨(some 35), .bin .add (.tmp 32) (.tmp 34), none, 4, (some ([0, 1, 2, 3], none))⟩,
    ⟨(some 36), .buildSlice 1 1 true [.str []] [(0, (.tmp 35))], none, 4, (some ([0, 1, 2, 3], none))⟩,
    ⟨(some 37), .append 1 16 true (.tmp 27) (.tmp 36), none, 5, (some ([0, 1, 2, 3, 4], none))⟩,
    ⟨(some 5), .move (.tmp 37), none, 6, (some ([0, 1, 2, 3, 4, 5], none))⟩] []) (.skip))))) (.region 0 [
    ⟨(some 38), .bin .add (.tmp 21) (.const (.int .i64 (1))), none, 0, none⟩,
    ⟨(some 21), .move (.tmp 38), none, 0, none⟩] [])))))))) (.seq (.seq (.region 0 [
    ⟨(some 39), .move (.tmp 5), none, 0, none⟩,
    ⟨(some 40), .len (.tmp 39), none, 0, none⟩,
    ⟨(some 41), .bin .eql (.tmp 40) (.const (.int .i64 (0))), none, 0, none⟩] []) (.cond (.tmp 41) (.seq (.region 0 [
    ⟨(some 2), .move (.const (.str [110, 111, 110, 101])), none, 0, none⟩,
    ⟨(some 3), .move (.const (.int .i64 (0))), none, 0, none⟩] []) (.ret)) (.skip))) (.seq (.region 4 [
    ⟨(some 42), .move (.tmp 5), none, 0, none⟩,
    ⟨(some 43), .call (.func 29) [(false, (.tmp 42)), (false, (.const (.str [44])))] false 4, none, 0, none⟩,
    ⟨(some 2), .move (.tmp 43), none, 4, none⟩,
    ⟨(some 3), .move (.const (.int .i64 (0))), none, 4, none⟩] []) (.ret))))))), [.tmp 2, .tmp 3], true⟩
def s15 : Sig := ⟨(.cons (.v .res) .nil), [], ((.tup (.cons (.v .str) (.cons (.v (.int .i64)) .nil))), []), []⟩
def l15_0 (g28 : Int → Option (List UInt8)) (g29 : (List (List UInt8)) → (List UInt8) → Option (List UInt8)) (a0 : Res) (r2 : (List (List UInt8))) (nx4 : ((Unit × (Int × Unit)) × ((List (List UInt8)) × Unit)) → Option ((List UInt8) × (Int × Unit))) (z5 : Int) (z6 : (List (List UInt8))) : Option ((List UInt8) × (Int × Unit)) :=
  cond (decide (z5 < 4))
  (Option.bind (α := ((Unit × (Int × (Int × Unit))) × ((List (List UInt8)) × Unit)))
  (cond (decide (z5 = 3))
  (some (((), z5, a0.lic, ()), (z6, ())))
  (cond (decide (z5 = 2))
  (some (((), z5, a0.gpu, ()), (z6, ())))
  (cond (decide (z5 = 1))
  (some (((), z5, a0.mem, ()), (z6, ())))
  (cond (decide (z5 = 0))
  (some (((), z5, a0.cpu, ()), (z6, ())))
  (none))))) fun x7 =>
  cond (!decide (x7.1.2.2.1 = 0))
  (cond (decide (0 ≤ x7.1.2.1))
  (Option.bind (r2[Int.toNat x7.1.2.1]?) fun y8 =>
  cond (decide (y8.length + ([61] : List UInt8).length ≤ 4294967296))
  (Option.bind (g28 x7.1.2.2.1) fun r9 =>
  cond (decide ((y8 ++ ([61] : List UInt8)).length + r9.length ≤ 4294967296))
  (cond (smallB ((List.length x7.2.1) + 1) 16)
  (nx4 (((), IntKind.wrap .i64 (z5 + 1), ()), (x7.2.1 ++ [(y8 ++ ([61] : List UInt8)) ++ r9], ())))
  (none))
  (none))
  (none))
  (none))
  (nx4 (((), IntKind.wrap .i64 (z5 + 1), ()), (x7.2.1, ()))))
  (cond (decide ((List.length z6 : Int) = 0))
  (some (([110, 111, 110, 101] : List UInt8), 0, ()))
  (Option.bind (g29 z6 ([44] : List UInt8)) fun r10 =>
  some (r10, 0, ())))
def F15 (L : Lp) (g27 : Res → Option Bool) (g26 : Option (List (List UInt8))) (g28 : Int → Option (List UInt8)) (g29 : (List (List UInt8)) → (List UInt8) → Option (List UInt8)) (a0 : Res) : Option ((List UInt8) × (Int × Unit)) :=
  Option.bind (g27 a0) fun r1 =>
  cond (!r1)
  (some (([] : List UInt8), 2, ()))
  (Option.bind (g26) fun r2 =>
  L (fun (s3 : ((Unit × (Int × Unit)) × ((List (List UInt8)) × Unit))) nx4 => l15_0 g28 g29 a0 r2 nx4 s3.1.2.1 s3.2.1) (((), 0, ()), ([], ())))
theorem e15 (L : Lp) (g27 : Res → Option Bool) (g26 : Option (List (List UInt8))) (g28 : Int → Option (List UInt8)) (g29 : (List (List UInt8)) → (List UInt8) → Option (List UInt8)) (x : s15.args.den) (h : denH s15.heap) : nrun [⟨27, s27, fun x h => g27 x.1⟩, ⟨26, s26, fun x h => g26 ⟩, ⟨28, s28, fun x h => g28 x.1⟩, ⟨29, s29, fun x h => g29 x.1 x.2.1⟩] L n15 s15 x h = F15 L g27 g26 g28 g29 x.1 := by kernel_rfl
def f15 : Res → Option ((List UInt8) × (Int × Unit)) := F15 (@LN LOOPS) f27 f26 f28 f29
@[reducible] def t15 : Ent := ⟨15, s15, fun x h => f15 x.1⟩
theorem k15 : chkNF Tryd.prog Tryd.f15 n15 = true := by kernel_rfl
theorem ok15 : NOk Tryd.prog t15 := NOk.body (T := [t27, t26, t28, t29]) mixed (nall_cons ok27 (nall_cons ok26 (nall_cons ok28 (nall_cons ok29 nall_nil)))) (oneEach_of (by kernel_rfl)) Tryd.func15 k15 (by kernel_rfl) (fun x h => e15 _ _ _ _ _ x h)
/- internal/stringslite.Index -/
def s43 : Sig := ⟨(.cons (.v .str) (.cons (.v .str) .nil)), [], ((.v (.int .i64)), []), []⟩
def f43 : (List UInt8) → (List UInt8) → Option Int := strIdx
@[reducible] def t43 : Ent := ⟨43, s43, fun x h => f43 x.1 x.2.1⟩
theorem ok43 : NOk Tryd.prog t43 := ext43
/- internal/stringslite.Cut -/
def n35 : NFunc := ⟨23, .seq (.region 0 [
    ⟨(some 4), .move (.const (.str [])), none, 0, none⟩,
    ⟨(some 5), .move (.const (.str [])), none, 0, none⟩,
    ⟨(some 6), .move (.const (.bool false)), none, 0, none⟩] []) (.seq (.seq (.region 4 [
    ⟨(some 8), .move (.tmp 0), none, 0, none⟩,
    ⟨(some 9), .move (.tmp 1), none, 0, none⟩,
    ⟨(some 10), .call (.func 43) [(false, (.tmp 8)), (false, (.tmp 9))] false 4, none, 0, none⟩,
    ⟨(some 7), .move (.tmp 10), none, 4, none⟩] []) (.seq (.region 0 [
    ⟨(some 11), .move (.tmp 7), none, 0, none⟩,
    ⟨(some 12), .bin .geq (.tmp 11) (.const (.int .i64 (0))), none, 0, none⟩] []) (.cond (.tmp 12) (.seq (.region 0 [
    ⟨(some 13), .move (.tmp 0), none, 0, (some ([], none))⟩,
    ⟨(some 14), .move (.tmp 7), none, 0, (some ([], none))⟩,
    ⟨(some 15), .sliceStr (.tmp 13) none (some (.tmp 14)), none, 0, (some ([], none))⟩,
    ⟨(some 16), .move (.tmp 0), none, 0, (some ([], none))⟩,
    ⟨(some 17), .move (.tmp 7), none, 0, (some ([], none))⟩,
    ⟨(some 18), .move (.tmp 1), none, 0, (some ([], none))⟩,
    ⟨(some 19), .lenStr (.tmp 18), none, 0, (some ([], none))⟩,
    ⟨(some 20), .bin .add (.tmp 17) (.tmp 19), none, 0, (some ([], none))⟩,
    ⟨(some 21), .sliceStr (.tmp 16) (some (.tmp 20)) none, none, 0, (some ([], none))⟩,
    ⟨(some 4), .move (.tmp 15), none, 0, (some ([], none))⟩,
    ⟨(some 5), .move (.tmp 21), none, 0, (some ([], none))⟩,
    ⟨(some 6), .move (.const (.bool true)), none, 0, (some ([], none))⟩] []) (.ret)) (.skip)))) (.seq (.region 0 [
    ⟨(some 22), .move (.tmp 0), none, 0, none⟩,
    ⟨(some 4), .move (.tmp 22), none, 0, none⟩,
    ⟨(some 5), .move (.const (.str [])), none, 0, none⟩,
    ⟨(some 6), .move (.const (.bool false)), none, 0, none⟩] []) (.ret))), [.tmp 4, .tmp 5, .tmp 6], true⟩
def s35 : Sig := ⟨(.cons (.v .str) (.cons (.v .str) .nil)), [], ((.tup (.cons (.v .str) (.cons (.v .str) (.cons (.v .bool) .nil)))), []), []⟩
def F35 (L : Lp) (g43 : (List UInt8) → (List UInt8) → Option Int) (as0 : (List UInt8)) (sep1 : (List UInt8)) : Option ((List UInt8) × ((List UInt8) × (Bool × Unit))) :=
  Option.bind (g43 as0 sep1) fun r2 =>
  cond (decide (0 ≤ r2))
  (cond (decide (0 ≤ r2))
  (cond (decide ((Int.toNat r2) ≤ (List.length as0)))
  (cond (decide (0 ≤ (IntKind.wrap .i64 (r2 + (List.length sep1 : Int)))))
  (cond (decide ((Int.toNat (IntKind.wrap .i64 (r2 + (List.length sep1 : Int)))) ≤ (List.length as0)))
  (some (List.take (Int.toNat r2) as0, List.drop (Int.toNat (IntKind.wrap .i64 (r2 + (List.length sep1 : Int)))) as0, true, ()))
  (none))
  (none))
  (none))
  (none))
  (some (as0, ([] : List UInt8), false, ()))
theorem e35 (L : Lp) (g43 : (List UInt8) → (List UInt8) → Option Int) (x : s35.args.den) (h : denH s35.heap) : nrun [⟨43, s43, fun x h => g43 x.1 x.2.1⟩] L n35 s35 x h = F35 L g43 x.1 x.2.1 := by kernel_rfl
def f35 : (List UInt8) → (List UInt8) → Option ((List UInt8) × ((List UInt8) × (Bool × Unit))) := F35 (@LN LOOPS) f43
@[reducible] def t35 : Ent := ⟨35, s35, fun x h => f35 x.1 x.2.1⟩
theorem k35 : chkNF Tryd.prog Tryd.f35 n35 = true := by kernel_rfl
theorem ok35 : NOk Tryd.prog t35 := NOk.body (T := [t43]) mixed (nall_cons ok43 nall_nil) (oneEach_of (by kernel_rfl)) Tryd.func35 k35 (by kernel_rfl) (fun x h => e35 _ _ x h)
/- strings.Cut -/
def n22 : NFunc := ⟨13, .seq (.region 0 [
    ⟨(some 4), .move (.const (.str [])), none, 0, none⟩,
    ⟨(some 5), .move (.const (.str [])), none, 0, none⟩,
    ⟨(some 6), .move (.const (.bool false)), none, 0, none⟩] []) (.seq (.region 4 [
    ⟨(some 7), .move (.tmp 0), none, 0, none⟩,
    ⟨(some 8), .move (.tmp 1), none, 0, none⟩,
    ⟨(some 9), .call (.func 35) [(false, (.tmp 7)), (false, (.tmp 8))] false 4, none, 0, none⟩,
    ⟨(some 10), .extract (.tmp 9) 0, none, 4, none⟩,
    ⟨(some 11), .extract (.tmp 9) 1, none, 4, none⟩,
    ⟨(some 12), .extract (.tmp 9) 2, none, 4, none⟩,
    ⟨(some 4), .move (.tmp 10), none, 4, none⟩,
    ⟨(some 5), .move (.tmp 11), none, 4, none⟩,
    ⟨(some 6), .move (.tmp 12), none, 4, none⟩] []) (.ret)), [.tmp 4, .tmp 5, .tmp 6], true⟩
def s22 : Sig := ⟨(.cons (.v .str) (.cons (.v .str) .nil)), [], ((.tup (.cons (.v .str) (.cons (.v .str) (.cons (.v .bool) .nil)))), []), []⟩
def F22 (L : Lp) (g35 : (List UInt8) → (List UInt8) → Option ((List UInt8) × ((List UInt8) × (Bool × Unit)))) (as0 : (List UInt8)) (sep1 : (List UInt8)) : Option ((List UInt8) × ((List UInt8) × (Bool × Unit))) :=
  Option.bind (g35 as0 sep1) fun r2 =>
  some (r2.1, r2.2.1, r2.2.2.1, ())
theorem e22 (L : Lp) (g35 : (List UInt8) → (List UInt8) → Option ((List UInt8) × ((List UInt8) × (Bool × Unit)))) (x : s22.args.den) (h : denH s22.heap) : nrun [⟨35, s35, fun x h => g35 x.1 x.2.1⟩] L n22 s22 x h = F22 L g35 x.1 x.2.1 := by kernel_rfl
def f22 : (List UInt8) → (List UInt8) → Option ((List UInt8) × ((List UInt8) × (Bool × Unit))) := F22 (@LN LOOPS) f35
@[reducible] def t22 : Ent := ⟨22, s22, fun x h => f22 x.1 x.2.1⟩
theorem k22 : chkNF Tryd.prog Tryd.f22 n22 = true := by kernel_rfl
theorem ok22 : NOk Tryd.prog t22 := NOk.body (T := [t35]) mixed (nall_cons ok35 nall_nil) (oneEach_of (by kernel_rfl)) Tryd.func22 k22 (by kernel_rfl) (fun x h => e22 _ _ x h)
/- drayage/units.find -/
def n31 : NFunc := ⟨22, .seq (.region 0 [
    ⟨(some 6), .move (.const (.int .i64 (0))), none, 0, none⟩] []) (.seq (.seq (.region 0 [
    ⟨(some 8), .move (.tmp 1), none, 0, none⟩,
    ⟨(some 7), .move (.tmp 8), none, 0, none⟩] []) (.block 0 (.loop [0, 2, 7] ⟨[(7, (.v (.int .i64)))], [0, 2], []⟩ (.seq (.seq (.region 0 [
    ⟨(some 9), .move (.tmp 7), none, 0, none⟩,
    ⟨(some 10), .move (.tmp 0), none, 0, none⟩,
    ⟨(some 11), .len (.tmp 10), none, 0, none⟩,
    ⟨(some 12), .bin .lss (.tmp 9) (.tmp 11), none, 0, none⟩] []) (.cond (.tmp 12) (.skip) (.exit 0))) (.seq (.block 1 (.seq (.region 0 [
    ⟨(some 15), .move (.tmp 0), none, 0, none⟩,
    ⟨(some 16), .move (.tmp 7), none, 0, none⟩,
    ⟨(some 17), .indexSl 1 (.tmp 15) (.tmp 16), none, 0, none⟩,
    ⟨(some 18), .load false 1 (.tmp 17), none, 0, none⟩,
    ⟨(some 19), .move (.tmp 2), none, 0, none⟩,
    ⟨(some 20), .bin .eql (.tmp 18) (.tmp 19), none, 0, none⟩] []) (.cond (.tmp 20) (.seq (.region 0 [
    ⟨(some 21), .move (.tmp 7), none, 0, none⟩,
    ⟨(some 6), .move (.tmp 21), none, 0, none⟩] []) (.ret)) (.skip)))) (.region 0 [
    ⟨(some 13), .move (.tmp 7), none, 0, none⟩,
    ⟨(some 14), .bin .add (.tmp 13) (.const (.int .i64 (1))), none, 0, none⟩,
    ⟨(some 7), .move (.tmp 14), none, 0, none⟩] [])))))) (.seq (.region 0 [
    ⟨(some 6), .move (.const (.int .i64 (-1))), none, 0, none⟩] []) (.ret))), [.tmp 6], true⟩
def s31 : Sig := ⟨(.cons (.v (.list .str)) (.cons (.v (.int .i64)) (.cons (.v .str) .nil))), [], ((.v (.int .i64)), []), []⟩
def l31_0 (words0 : (List (List UInt8))) (word2 : (List UInt8)) (nx4 : ((Int × Unit) × Unit) → Option Int) (i5 : Int) : Option Int :=
  cond (decide (i5 < (List.length words0 : Int)))
  (cond (decide (0 ≤ i5))
  (Option.bind (words0[Int.toNat i5]?) fun y6 =>
  cond (decide (y6 = word2))
  (some i5)
  (nx4 ((IntKind.wrap .i64 (i5 + 1), ()), ())))
  (none))
  (some (-1))
def F31 (L : Lp)  (words0 : (List (List UInt8))) (from1 : Int) (word2 : (List UInt8)) : Option Int :=
  L (fun (s3 : ((Int × Unit) × Unit)) nx4 => l31_0 words0 word2 nx4 s3.1.1) ((from1, ()), ())
theorem e31 (L : Lp)  (x : s31.args.den) (h : denH s31.heap) : nrun [] L n31 s31 x h = F31 L  x.1 x.2.1 x.2.2.1 := by kernel_rfl
def f31 : (List (List UInt8)) → Int → (List UInt8) → Option Int := F31 (@LN LOOPS) 
@[reducible] def t31 : Ent := ⟨31, s31, fun x h => f31 x.1 x.2.1 x.2.2.1⟩
theorem k31 : chkNF Tryd.prog Tryd.f31 n31 = true := by kernel_rfl
theorem ok31 : NOk Tryd.prog t31 := NOk.body (T := []) mixed nall_nil (oneEach_of (by kernel_rfl)) Tryd.func31 k31 (by kernel_rfl) (fun x h => e31 _  x h)
/- drayage/units.number -/
def s32 : Sig := ⟨(.cons (.v .str) .nil), [], ((.v (.int .i64)), []), []⟩
def f32 : (List UInt8) → Option Int := unitsNum
@[reducible] def t32 : Ent := ⟨32, s32, fun x h => f32 x.1⟩
theorem ok32 : NOk Tryd.prog t32 := ext32
/- drayage/units.Read -/
def n17 : NFunc := ⟨58, .seq (.region 1 [
    ⟨(some 2), .alloc [.int .i64 (0), .int .i64 (0), .int .i64 (0), .int .i64 (0)], none, 0, none⟩,
    ⟨(some 3), .move (.const (.int .i64 (0))), none, 1, none⟩] []) (.seq (.seq (.region 0 [
    ⟨(some 14), .move (.tmp 0), none, 0, none⟩,
    ⟨(some 15), .bin .eql (.tmp 14) (.const (.str [110, 111, 110, 101])), none, 0, none⟩] []) (.cond (.tmp 15) (.seq (.region 0 [
    ⟨(some 16), .build [.int .i64 (0), .int .i64 (0), .int .i64 (0), .int .i64 (0)] [], none, 0, none⟩,
    ⟨none, .store 4 (.tmp 2) (.tmp 16), none, 0, none⟩,
    ⟨(some 3), .move (.const (.int .i64 (0))), none, 0, none⟩] []) (.ret)) (.skip))) (.seq (.region 4 [
    ⟨(some 17), .call (.func 26) [] false 4, none, 0, none⟩,
    ⟨(some 4), .move (.tmp 17), none, 4, none⟩] []) (.seq (.region 1 [
    ⟨(some 5), .alloc [.int .i64 (0), .int .i64 (0), .int .i64 (0), .int .i64 (0)], none, 0, none⟩] []) (.seq (.region 0 [
    ⟨(some 6), .move (.const (.int .i64 (0))), none, 0, none⟩] []) (.seq (.seq (.region 0 [
    ⟨(some 7), .move (.const (.bool true)), none, 0, none⟩] []) (.block 0 (.loop [0, 2, 4, 5, 6, 7] ⟨[(0, (.v .str)), (2, (.ptr 0 0 0)), (5, (.ptr 1 0 0)), (6, (.v (.int .i64))), (7, (.v .bool))], [4], [.one false .res, .one false (.pair (.int .i64) (.pair (.int .i64) (.pair (.int .i64) (.int .i64))))]⟩ (.seq (.seq (.region 0 [
    ⟨(some 18), .move (.tmp 7), none, 0, none⟩] []) (.cond (.tmp 18) (.skip) (.exit 0))) (.block 1 (.seq (.region 0 [
    ⟨(some 8), .move (.const (.str [])), none, 0, none⟩] []) (.seq (.region 4 [
    ⟨(some 20), .move (.tmp 0), none, 0, none⟩,
    ⟨(some 21), .call (.func 22) [(false, (.tmp 20)), (false, (.const (.str [44])))] false 4, none, 0, none⟩,
    ⟨(some 19), .move (.tmp 21), none, 4, none⟩,
    ⟨(some 22), .extract (.tmp 19) 0, none, 4, none⟩,
    ⟨(some 23), .extract (.tmp 19) 1, none, 4, none⟩,
    ⟨(some 24), .extract (.tmp 19) 2, none, 4, none⟩,
    ⟨(some 8), .move (.tmp 22), none, 4, none⟩,
    ⟨(some 0), .move (.tmp 23), none, 4, none⟩,
    ⟨(some 7), .move (.tmp 24), none, 4, none⟩] []) (.seq (.region 4 [
    ⟨(some 26), .move (.tmp 8), none, 0, none⟩,
    ⟨(some 27), .call (.func 22) [(false, (.tmp 26)), (false, (.const (.str [61])))] false 4, none, 0, none⟩,
    ⟨(some 25), .move (.tmp 27), none, 4, none⟩,
    ⟨(some 28), .extract (.tmp 25) 0, none, 4, none⟩,
    ⟨(some 29), .extract (.tmp 25) 1, none, 4, none⟩,
    ⟨(some 30), .extract (.tmp 25) 2, none, 4, none⟩,
    ⟨(some 9), .move (.tmp 28), none, 4, none⟩,
    ⟨(some 10), .move (.tmp 29), none, 4, none⟩,
    ⟨(some 11), .move (.tmp 30), none, 4, none⟩] []) (.seq (.region 4 [
    ⟨(some 31), .move (.tmp 4), none, 0, none⟩,
    ⟨(some 32), .move (.tmp 6), none, 0, none⟩,
    ⟨(some 33), .move (.tmp 9), none, 0, none⟩,
    ⟨(some 34), .call (.func 31) [(false, (.tmp 31)), (false, (.tmp 32)), (false, (.tmp 33))] false 4, none, 0, none⟩,
    ⟨(some 12), .move (.tmp 34), none, 4, none⟩] []) (.seq (.region 4 [
    ⟨(some 35), .move (.tmp 10), none, 0, none⟩,
    ⟨(some 36), .call (.func 32) [(false, (.tmp 35))] false 4, none, 0, none⟩,
    ⟨(some 13), .move (.tmp 36), none, 4, none⟩] []) (.seq (.seq (.region 0 [
    ⟨(some 37), .move (.tmp 12), none, 0, none⟩,
    ⟨(some 38), .bin .lss (.tmp 37) (.const (.int .i64 (0))), none, 0, none⟩,
    ⟨(some 39), .move (.tmp 38), none, 0, none⟩,
    ⟨(some 40), .move (.tmp 13), (some (39, false)), 0, none⟩,
    ⟨(some 41), .bin .lss (.tmp 40) (.const (.int .i64 (1))), (some (39, false)), 0, none⟩,
    ⟨(some 42), .pick (.tmp 39) (.const (.bool true)) (.tmp 41), none, 0, none⟩] []) (.cond (.tmp 42) (.seq (.region 0 [
    ⟨(some 43), .build [.int .i64 (0), .int .i64 (0), .int .i64 (0), .int .i64 (0)] [], none, 0, none⟩,
    ⟨none, .store 4 (.tmp 2) (.tmp 43), none, 0, none⟩,
    ⟨(some 3), .move (.const (.int .i64 (11))), none, 0, none⟩] []) (.ret)) (.skip))) (.seq (.region 0 [
    ⟨(some 44), .move (.tmp 12), none, 0, none⟩,
    ⟨(some 45), .move (.tmp 13), none, 0, none⟩,
    ⟨(some 46), .indexArr 4 1 (.tmp 5) (.tmp 44), none, 0, none⟩,
    ⟨none, .store 1 (.tmp 46) (.tmp 45), none, 0, none⟩] [⟨46, none, some (44, 4)⟩]) (.region 0 [
    ⟨(some 47), .move (.tmp 12), none, 0, none⟩,
    ⟨(some 48), .bin .add (.tmp 47) (.const (.int .i64 (1))), none, 0, none⟩,
    ⟨(some 6), .move (.tmp 48), none, 0, none⟩] []))))))))))))) (.seq (.region 0 [
    ⟨(some 49), .indexArr 4 1 (.tmp 5) (.const (.int .i64 (0))), none, 0, none⟩,
    ⟨(some 50), .load false 1 (.tmp 49), none, 0, none⟩,
    ⟨(some 51), .indexArr 4 1 (.tmp 5) (.const (.int .i64 (1))), none, 0, none⟩,
    ⟨(some 52), .load false 1 (.tmp 51), none, 0, none⟩,
    ⟨(some 53), .indexArr 4 1 (.tmp 5) (.const (.int .i64 (2))), none, 0, none⟩,
    ⟨(some 54), .load false 1 (.tmp 53), none, 0, none⟩,
    ⟨(some 55), .indexArr 4 1 (.tmp 5) (.const (.int .i64 (3))), none, 0, none⟩,
    ⟨(some 56), .load false 1 (.tmp 55), none, 0, none⟩,
    ⟨(some 57), .build [.int .i64 (0), .int .i64 (0), .int .i64 (0), .int .i64 (0)] [(0, 1, (.tmp 50)), (1, 1, (.tmp 52)), (2, 1, (.tmp 54)), (3, 1, (.tmp 56))], none, 0, none⟩,
    ⟨none, .store 4 (.tmp 2) (.tmp 57), none, 0, none⟩,
    ⟨(some 3), .move (.const (.int .i64 (0))), none, 0, none⟩] []) (.ret))))))), [.cell true 4 2, .tmp 3], true⟩
def s17 : Sig := ⟨(.cons (.v .str) .nil), [], ((.tup (.cons (.v .res) (.cons (.v (.int .i64)) .nil))), []), []⟩
def l17_0 (g22 : (List UInt8) → (List UInt8) → Option ((List UInt8) × ((List UInt8) × (Bool × Unit)))) (g31 : (List (List UInt8)) → Int → (List UInt8) → Option Int) (g32 : (List UInt8) → Option Int) (r1 : (List (List UInt8))) (nx3 : (((List UInt8) × (Unit × (Unit × (Int × (Bool × Unit))))) × (Res × ((Int × (Int × (Int × Int))) × Unit))) → Option (Res × (Int × Unit))) (zs4 : (List UInt8)) (from5 : Int) (more6 : Bool) (z7 : Res) (z8 : (Int × (Int × (Int × Int)))) : Option (Res × (Int × Unit)) :=
  cond more6
  (Option.bind (g22 zs4 ([44] : List UInt8)) fun r9 =>
  Option.bind (g22 r9.1 ([61] : List UInt8)) fun r10 =>
  Option.bind (g31 r1 from5 r10.1) fun r11 =>
  Option.bind (g32 r10.2.1) fun r12 =>
  cond (decide (r11 < 0))
  (some (Res.mk 0 0 0 0, 11, ()))
  (cond (decide (r12 < 1))
  (some (Res.mk 0 0 0 0, 11, ()))
  (cond (decide (r11 = 3))
  (nx3 ((r9.2.1, (), (), IntKind.wrap .i64 (r11 + 1), r9.2.2.1, ()), (z7, (z8.1, (z8.2.1, (z8.2.2.1, r12))), ())))
  (cond (decide (r11 = 2))
  (nx3 ((r9.2.1, (), (), IntKind.wrap .i64 (r11 + 1), r9.2.2.1, ()), (z7, (z8.1, (z8.2.1, (r12, z8.2.2.2))), ())))
  (cond (decide (r11 = 1))
  (nx3 ((r9.2.1, (), (), IntKind.wrap .i64 (r11 + 1), r9.2.2.1, ()), (z7, (z8.1, (r12, z8.2.2)), ())))
  (cond (decide (r11 = 0))
  (nx3 ((r9.2.1, (), (), IntKind.wrap .i64 (r11 + 1), r9.2.2.1, ()), (z7, (r12, z8.2), ())))
  (none)))))))
  (some (Res.mk z8.1 z8.2.1 z8.2.2.1 z8.2.2.2, 0, ()))
def F17 (L : Lp) (g26 : Option (List (List UInt8))) (g22 : (List UInt8) → (List UInt8) → Option ((List UInt8) × ((List UInt8) × (Bool × Unit)))) (g31 : (List (List UInt8)) → Int → (List UInt8) → Option Int) (g32 : (List UInt8) → Option Int) (as0 : (List UInt8)) : Option (Res × (Int × Unit)) :=
  cond (decide (as0 = ([110, 111, 110, 101] : List UInt8)))
  (some (Res.mk 0 0 0 0, 0, ()))
  (Option.bind (g26) fun r1 =>
  L (fun (s2 : (((List UInt8) × (Unit × (Unit × (Int × (Bool × Unit))))) × (Res × ((Int × (Int × (Int × Int))) × Unit)))) nx3 => l17_0 g22 g31 g32 r1 nx3 s2.1.1 s2.1.2.2.2.1 s2.1.2.2.2.2.1 s2.2.1 s2.2.2.1) ((as0, (), (), 0, true, ()), (Res.mk 0 0 0 0, (0, (0, (0, 0))), ())))
theorem e17 (L : Lp) (g26 : Option (List (List UInt8))) (g22 : (List UInt8) → (List UInt8) → Option ((List UInt8) × ((List UInt8) × (Bool × Unit)))) (g31 : (List (List UInt8)) → Int → (List UInt8) → Option Int) (g32 : (List UInt8) → Option Int) (x : s17.args.den) (h : denH s17.heap) : nrun [⟨26, s26, fun x h => g26 ⟩, ⟨22, s22, fun x h => g22 x.1 x.2.1⟩, ⟨31, s31, fun x h => g31 x.1 x.2.1 x.2.2.1⟩, ⟨32, s32, fun x h => g32 x.1⟩] L n17 s17 x h = F17 L g26 g22 g31 g32 x.1 := by kernel_rfl
def f17 : (List UInt8) → Option (Res × (Int × Unit)) := F17 (@LN LOOPS) f26 f22 f31 f32
@[reducible] def t17 : Ent := ⟨17, s17, fun x h => f17 x.1⟩
theorem k17 : chkNF Tryd.prog Tryd.f17 n17 = true := by kernel_rfl
theorem ok17 : NOk Tryd.prog t17 := NOk.body (T := [t26, t22, t31, t32]) mixed (nall_cons ok26 (nall_cons ok22 (nall_cons ok31 (nall_cons ok32 nall_nil)))) (oneEach_of (by kernel_rfl)) Tryd.func17 k17 (by kernel_rfl) (fun x h => e17 _ _ _ _ _ x h)
/- drayage/drayagelaw03.awake -/
def n14 : NFunc := ⟨34, .seq (.region 0 [
    ⟨(some 0), .move (.const (.bool false)), none, 0, none⟩] []) (.seq (.region 4 [
    ⟨(some 6), .build [.int .i64 (0), .int .i64 (0), .int .i64 (0), .int .i64 (0)] [(0, 1, (.const (.int .i64 (4)))), (1, 1, (.const (.int .i64 (16)))), (3, 1, (.const (.int .i64 (1))))], none, 0, none⟩,
    ⟨(some 7), .call (.func 15) [(false, (.tmp 6))] false 4, none, 0, none⟩,
    ⟨(some 5), .move (.tmp 7), none, 4, none⟩,
    ⟨(some 8), .extract (.tmp 5) 0, none, 4, none⟩,
    ⟨(some 9), .extract (.tmp 5) 1, none, 4, none⟩,
    ⟨(some 1), .move (.tmp 8), none, 4, none⟩,
    ⟨(some 2), .move (.tmp 9), none, 4, none⟩] []) (.seq (.region 5 [
    ⟨(some 11), .call (.func 17) [(false, (.const (.str [103, 112, 117, 61, 50])))] false 4, none, 0, none⟩,
    ⟨(some 10), .move (.tmp 11), none, 4, none⟩,
    ⟨(some 12), .extract (.tmp 10) 0, none, 4, none⟩,
    ⟨(some 13), .extract (.tmp 10) 1, none, 4, none⟩,
    ⟨(some 3), .alloc [.int .i64 (0), .int .i64 (0), .int .i64 (0), .int .i64 (0)], none, 4, none⟩,
    ⟨none, .store 4 (.tmp 3) (.tmp 12), none, 5, none⟩,
    ⟨(some 4), .move (.tmp 13), none, 5, none⟩] []) (.seq (.region 4 [
    ⟨(some 14), .move (.tmp 1), none, 0, none⟩,
    ⟨(some 15), .bin .eql (.tmp 14) (.const (.str [99, 112, 117, 61, 52, 44, 109, 101, 109, 61, 49, 54, 44, 108, 105, 99, 61, 49])), none, 0, none⟩,
    ⟨(some 16), .move (.tmp 15), none, 0, none⟩,
    ⟨(some 17), .move (.tmp 2), (some (16, true)), 0, none⟩,
    ⟨(some 18), .bin .eql (.tmp 17) (.const (.int .i64 (0))), (some (16, true)), 0, none⟩,
    ⟨(some 19), .pick (.tmp 16) (.tmp 18) (.const (.bool false)), none, 0, none⟩,
    ⟨(some 20), .move (.tmp 19), none, 0, none⟩,
    ⟨(some 21), .move (.tmp 4), (some (20, true)), 0, none⟩,
    ⟨(some 22), .bin .eql (.tmp 21) (.const (.int .i64 (0))), (some (20, true)), 0, none⟩,
    ⟨(some 23), .pick (.tmp 20) (.tmp 22) (.const (.bool false)), none, 0, none⟩,
    ⟨(some 24), .move (.tmp 23), none, 0, none⟩,
    ⟨(some 25), .load true 4 (.tmp 3), (some (24, true)), 0, none⟩,
    ⟨(some 26), .build [.int .i64 (0), .int .i64 (0), .int .i64 (0), .int .i64 (0)] [(2, 1, (.const (.int .i64 (2))))], (some (24, true)), 0, none⟩,
    ⟨(some 27), .eqAgg (false, [.int .i64, .int .i64, .int .i64, .int .i64]) (.tmp 25) (.tmp 26), (some (24, true)), 0, none⟩,
    ⟨(some 28), .pick (.tmp 24) (.tmp 27) (.const (.bool false)), none, 0, none⟩,
    ⟨(some 29), .move (.tmp 28), none, 0, none⟩,
    ⟨(some 30), .call (.func 26) [] false 4, (some (29, true)), 0, none⟩,
    ⟨(some 31), .len (.tmp 30), (some (29, true)), 4, none⟩,
    ⟨(some 32), .bin .eql (.tmp 31) (.const (.int .i64 (4))), (some (29, true)), 4, none⟩,
    ⟨(some 33), .pick (.tmp 29) (.tmp 32) (.const (.bool false)), none, 4, none⟩,
    ⟨(some 0), .move (.tmp 33), none, 4, none⟩] []) (.ret)))), [.tmp 0], true⟩
def s14 : Sig := ⟨.nil, [], ((.v .bool), []), []⟩
def F14 (L : Lp) (g15 : Res → Option ((List UInt8) × (Int × Unit))) (g17 : (List UInt8) → Option (Res × (Int × Unit))) (g26 : Option (List (List UInt8)))  : Option Bool :=
  Option.bind (g15 (Res.mk 4 16 0 1)) fun r0 =>
  Option.bind (g17 ([103, 112, 117, 61, 50] : List UInt8)) fun r1 =>
  cond (decide (r0.1 = ([99, 112, 117, 61, 52, 44, 109, 101, 109, 61, 49, 54, 44, 108, 105, 99, 61, 49] : List UInt8)))
  (cond (decide (r0.2.1 = 0))
  (cond (decide (r1.2.1 = 0))
  (cond ((decide (r1.1.cpu = 0)) && ((decide (r1.1.mem = 0)) && ((decide (r1.1.gpu = 2)) && ((decide (r1.1.lic = 0)) && true))))
  (Option.bind (g26) fun r2 =>
  some (decide ((List.length r2 : Int) = 4)))
  (some false))
  (some false))
  (some false))
  (some false)
theorem e14 (L : Lp) (g15 : Res → Option ((List UInt8) × (Int × Unit))) (g17 : (List UInt8) → Option (Res × (Int × Unit))) (g26 : Option (List (List UInt8))) (x : s14.args.den) (h : denH s14.heap) : nrun [⟨15, s15, fun x h => g15 x.1⟩, ⟨17, s17, fun x h => g17 x.1⟩, ⟨26, s26, fun x h => g26 ⟩] L n14 s14 x h = F14 L g15 g17 g26  := by kernel_rfl
def f14 : Option Bool := F14 (@LN LOOPS) f15 f17 f26
@[reducible] def t14 : Ent := ⟨14, s14, fun x h => f14 ⟩
theorem k14 : chkNF Tryd.prog Tryd.f14 n14 = true := by kernel_rfl
theorem ok14 : NOk Tryd.prog t14 := NOk.body (T := [t15, t17, t26]) mixed (nall_cons ok15 (nall_cons ok17 (nall_cons ok26 nall_nil))) (oneEach_of (by kernel_rfl)) Tryd.func14 k14 (by kernel_rfl) (fun x h => e14 _ _ _ _ x h)
/- drayage/drayageref02.right -/
def n30 : NFunc := ⟨9, .seq (.region 0 [
    ⟨(some 2), .move (.const (.bool false)), none, 0, none⟩] []) (.seq (.region 0 [
    ⟨(some 3), .move (.tmp 0), none, 0, none⟩,
    ⟨(some 4), .bin .geq (.tmp 3) (.const (.int .i64 (0))), none, 0, none⟩,
    ⟨(some 5), .move (.tmp 4), none, 0, none⟩,
    ⟨(some 6), .move (.tmp 0), (some (5, true)), 0, none⟩,
    ⟨(some 7), .bin .leq (.tmp 6) (.const (.int .i64 (1048576))), (some (5, true)), 0, none⟩,
    ⟨(some 8), .pick (.tmp 5) (.tmp 7) (.const (.bool false)), none, 0, none⟩,
    ⟨(some 2), .move (.tmp 8), none, 0, none⟩] []) (.ret)), [.tmp 2], true⟩
def s30 : Sig := ⟨(.cons (.v (.int .i64)) .nil), [], ((.v .bool), []), []⟩
def F30 (L : Lp)  (an0 : Int) : Option Bool :=
  cond (decide (0 ≤ an0))
  (some (decide (an0 ≤ 1048576)))
  (some false)
theorem e30 (L : Lp)  (x : s30.args.den) (h : denH s30.heap) : nrun [] L n30 s30 x h = F30 L  x.1 := by kernel_rfl
def f30 : Int → Option Bool := F30 (@LN LOOPS) 
@[reducible] def t30 : Ent := ⟨30, s30, fun x h => f30 x.1⟩
theorem k30 : chkNF Tryd.prog Tryd.f30 n30 = true := by kernel_rfl
theorem ok30 : NOk Tryd.prog t30 := NOk.body (T := []) mixed nall_nil (oneEach_of (by kernel_rfl)) Tryd.func30 k30 (by kernel_rfl) (fun x h => e30 _  x h)
/- drayage/drayageref02.Right -/
def n16 : NFunc := ⟨21, .seq (.region 1 [
    ⟨(some 1), .box 4 (.tmp 0), none, 0, none⟩,
    ⟨(some 2), .move (.const (.bool false)), none, 1, none⟩] []) (.seq (.region 16 [
    ⟨(some 3), .fieldAddr 0 (.tmp 1), none, 0, none⟩,
    ⟨(some 4), .load false 1 (.tmp 3), none, 0, none⟩,
    ⟨(some 5), .call (.func 30) [(false, (.tmp 4))] false 4, none, 0, none⟩,
    ⟨(some 6), .move (.tmp 5), none, 4, none⟩,
    ⟨(some 7), .fieldAddr 1 (.tmp 1), (some (6, true)), 4, none⟩,
    ⟨(some 8), .load false 1 (.tmp 7), (some (6, true)), 4, none⟩,
    ⟨(some 9), .call (.func 30) [(false, (.tmp 8))] false 4, (some (6, true)), 4, none⟩,
    ⟨(some 10), .pick (.tmp 6) (.tmp 9) (.const (.bool false)), none, 8, none⟩,
    ⟨(some 11), .move (.tmp 10), none, 8, none⟩,
    ⟨(some 12), .fieldAddr 2 (.tmp 1), (some (11, true)), 8, none⟩,
    ⟨(some 13), .load false 1 (.tmp 12), (some (11, true)), 8, none⟩,
    ⟨(some 14), .call (.func 30) [(false, (.tmp 13))] false 4, (some (11, true)), 8, none⟩,
    ⟨(some 15), .pick (.tmp 11) (.tmp 14) (.const (.bool false)), none, 12, none⟩,
    ⟨(some 16), .move (.tmp 15), none, 12, none⟩,
    ⟨(some 17), .fieldAddr 3 (.tmp 1), (some (16, true)), 12, none⟩,
    ⟨(some 18), .load false 1 (.tmp 17), (some (16, true)), 12, none⟩,
    ⟨(some 19), .call (.func 30) [(false, (.tmp 18))] false 4, (some (16, true)), 12, none⟩,
    ⟨(some 20), .pick (.tmp 16) (.tmp 19) (.const (.bool false)), none, 16, none⟩,
    ⟨(some 2), .move (.tmp 20), none, 16, none⟩] []) (.ret)), [.tmp 2], true⟩
def s16 : Sig := ⟨(.cons (.v .res) .nil), [], ((.v .bool), []), []⟩
def F16 (L : Lp) (g30 : Int → Option Bool) (a0 : Res) : Option Bool :=
  Option.bind (g30 a0.cpu) fun r1 =>
  cond r1
  (Option.bind (g30 a0.mem) fun r2 =>
  cond r2
  (Option.bind (g30 a0.gpu) fun r3 =>
  cond r3
  (Option.bind (g30 a0.lic) fun r4 =>
  some r4)
  (some false))
  (some false))
  (some false)
theorem e16 (L : Lp) (g30 : Int → Option Bool) (x : s16.args.den) (h : denH s16.heap) : nrun [⟨30, s30, fun x h => g30 x.1⟩] L n16 s16 x h = F16 L g30 x.1 := by kernel_rfl
def f16 : Res → Option Bool := F16 (@LN LOOPS) f30
@[reducible] def t16 : Ent := ⟨16, s16, fun x h => f16 x.1⟩
theorem k16 : chkNF Tryd.prog Tryd.f16 n16 = true := by kernel_rfl
theorem ok16 : NOk Tryd.prog t16 := NOk.body (T := [t30]) mixed (nall_cons ok30 nall_nil) (oneEach_of (by kernel_rfl)) Tryd.func16 k16 (by kernel_rfl) (fun x h => e16 _ _ x h)
/- drayage/drayageref01.Digits -/
def n24 : NFunc := ⟨21, .seq (.region 0 [
    ⟨(some 2), .move (.const (.str [])), none, 0, none⟩] []) (.seq (.region 0 [
    ⟨(some 3), .move (.const (.str [])), none, 0, none⟩] []) (.seq (.block 0 (.loop [0, 3] ⟨[(0, (.v (.int .i64))), (3, (.v .str))], [], []⟩ (.seq (.seq (.region 0 [
    ⟨(some 4), .move (.tmp 3), none, 0, none⟩,
    ⟨(some 5), .bin .eql (.tmp 4) (.const (.str [])), none, 0, none⟩,
    ⟨(some 6), .move (.tmp 5), none, 0, none⟩,
    ⟨(some 7), .move (.tmp 0), (some (6, false)), 0, none⟩,
    ⟨(some 8), .bin .gtr (.tmp 7) (.const (.int .i64 (0))), (some (6, false)), 0, none⟩,
    ⟨(some 9), .pick (.tmp 6) (.const (.bool true)) (.tmp 8), none, 0, none⟩] []) (.cond (.tmp 9) (.skip) (.exit 0))) (.block 1 (.seq (.region 1 [
    ⟨(some 10), .move (.tmp 0), none, 0, none⟩,
    ⟨(some 11), .bin .rem (.tmp 10) (.const (.int .i64 (10))), none, 0, none⟩,
    ⟨(some 12), .bin .add (.const (.int .i64 (48))) (.tmp 11), none, 0, none⟩,
    ⟨(some 13), .conv .u8 (.tmp 12), none, 0, none⟩,
    ⟨(some 14), .buildSlice 1 1 true [.int .u8 (0)] [(0, (.tmp 13))], none, 0, none⟩,
    ⟨(some 15), .load false 0 (.tmp 14), none, 1, none⟩,
    ⟨(some 16), .move (.tmp 3), none, 1, none⟩,
    ⟨(some 17), .bin .add (.tmp 15) (.tmp 16), none, 1, none⟩,
    ⟨(some 3), .move (.tmp 17), none, 1, none⟩] []) (.region 0 [
    ⟨(some 18), .move (.tmp 0), none, 0, none⟩,
    ⟨(some 19), .bin .quo (.tmp 18) (.const (.int .i64 (10))), none, 0, none⟩,
    ⟨(some 0), .move (.tmp 19), none, 0, none⟩] [])))))) (.seq (.region 0 [
    ⟨(some 20), .move (.tmp 3), none, 0, none⟩,
    ⟨(some 2), .move (.tmp 20), none, 0, none⟩] []) (.ret)))), [.tmp 2], true⟩
def s24 : Sig := ⟨(.cons (.v (.int .i64)) .nil), [], ((.v .str), []), []⟩
def l24_0  (nx2 : ((Int × ((List UInt8) × Unit)) × Unit) → Option (List UInt8)) (zn3 : Int) (zs4 : (List UInt8)) : Option (List UInt8) :=
  cond (decide (zs4 = ([] : List UInt8)))
  (Option.bind (nbytes (([IntKind.wrap .u8 (IntKind.wrap .i64 (48 + (Int.tmod zn3 10)))] : List Int))) fun s5 =>
  cond (decide (s5.length + zs4.length ≤ 4294967296))
  (nx2 ((IntKind.wrap .i64 (Int.tdiv zn3 10), s5 ++ zs4, ()), ()))
  (none))
  (cond (decide (0 < zn3))
  (Option.bind (nbytes (([IntKind.wrap .u8 (IntKind.wrap .i64 (48 + (Int.tmod zn3 10)))] : List Int))) fun s6 =>
  cond (decide (s6.length + zs4.length ≤ 4294967296))
  (nx2 ((IntKind.wrap .i64 (Int.tdiv zn3 10), s6 ++ zs4, ()), ()))
  (none))
  (some zs4))
def F24 (L : Lp)  (an0 : Int) : Option (List UInt8) :=
  L (fun (s1 : ((Int × ((List UInt8) × Unit)) × Unit)) nx2 => l24_0 nx2 s1.1.1 s1.1.2.1) ((an0, ([] : List UInt8), ()), ())
theorem e24 (L : Lp)  (x : s24.args.den) (h : denH s24.heap) : nrun [] L n24 s24 x h = F24 L  x.1 := by kernel_rfl
def f24 : Int → Option (List UInt8) := F24 (@LN LOOPS) 
@[reducible] def t24 : Ent := ⟨24, s24, fun x h => f24 x.1⟩
theorem k24 : chkNF Tryd.prog Tryd.f24 n24 = true := by kernel_rfl
theorem ok24 : NOk Tryd.prog t24 := NOk.body (T := []) mixed nall_nil (oneEach_of (by kernel_rfl)) Tryd.func24 k24 (by kernel_rfl) (fun x h => e24 _  x h)
/- drayage/drayageref03.Text -/
def n18 : NFunc := ⟨46, .seq (.region 1 [
    ⟨(some 1), .box 4 (.tmp 0), none, 0, none⟩,
    ⟨(some 2), .move (.const (.str [])), none, 1, none⟩] []) (.seq (.region 1 [
    ⟨(some 7), .fieldAddr 0 (.tmp 1), none, 0, none⟩,
    ⟨(some 8), .load false 1 (.tmp 7), none, 0, none⟩,
    ⟨(some 9), .fieldAddr 1 (.tmp 1), none, 0, none⟩,
    ⟨(some 10), .load false 1 (.tmp 9), none, 0, none⟩,
    ⟨(some 11), .fieldAddr 2 (.tmp 1), none, 0, none⟩,
    ⟨(some 12), .load false 1 (.tmp 11), none, 0, none⟩,
    ⟨(some 13), .fieldAddr 3 (.tmp 1), none, 0, none⟩,
    ⟨(some 14), .load false 1 (.tmp 13), none, 0, none⟩,
    ⟨(some 15), .buildSlice 1 4 true [.int .i64 (0)] [(0, (.tmp 8)), (1, (.tmp 10)), (2, (.tmp 12)), (3, (.tmp 14))], none, 0, none⟩,
    ⟨(some 3), .move (.tmp 15), none, 1, none⟩] []) (.seq (.region 1 [
    ⟨(some 16), .buildSlice 1 4 true [.str []] [(0, (.const (.str [99, 112, 117]))), (1, (.const (.str [109, 101, 109]))), (2, (.const (.str [103, 112, 117]))), (3, (.const (.str [108, 105, 99])))], none, 0, none⟩,
    ⟨(some 4), .move (.tmp 16), none, 1, none⟩] []) (.seq (.region 0 [
    ⟨(some 5), .move (.const (.str [])), none, 0, none⟩] []) (.seq (.seq (.region 0 [
    ⟨(some 6), .move (.const (.int .i64 (0))), none, 0, none⟩] []) (.block 0 (.loop [3, 4, 5, 6] ⟨[(3, (.slw 0 1)), (4, (.slw 1 1)), (5, (.v .str)), (6, (.v (.int .i64)))], [], [.typed (.int .i64), .typed .str]⟩ (.seq (.seq (.region 0 [
    ⟨(some 17), .move (.tmp 6), none, 0, none⟩,
    ⟨(some 18), .bin .lss (.tmp 17) (.const (.int .i64 (4))), none, 0, none⟩] []) (.cond (.tmp 18) (.skip) (.exit 0))) (.seq (.block 1 (.seq (.seq (.region 0 [
    ⟨(some 21), .move (.tmp 3), none, 0, none⟩,
    ⟨(some 22), .move (.tmp 6), none, 0, none⟩,
    ⟨(some 23), .indexSl 1 (.tmp 21) (.tmp 22), none, 0, none⟩,
    ⟨(some 24), .load false 1 (.tmp 23), none, 0, none⟩,
    ⟨(some 25), .bin .eql (.tmp 24) (.const (.int .i64 (0))), none, 0, none⟩] []) (.cond (.tmp 25) (.exit 1) (.skip))) (.seq (.seq (.region 0 [
    ⟨(some 26), .move (.tmp 5), none, 0, none⟩,
    ⟨(some 27), .bin .neq (.tmp 26) (.const (.str [])), none, 0, none⟩] []) (.cond (.tmp 27) (.region 0 [
    ⟨(some 28), .move (.tmp 5), none, 0, none⟩,
    ⟨(some 29), .bin .add (.tmp 28) (.const (.str [44])), none, 0, none⟩,
    ⟨(some 5), .move (.tmp 29), none, 0, none⟩] []) (.skip))) (.region 4 [
    ⟨(some 30), .move (.tmp 5), none, 0, (some ([], none))⟩,
    ⟨(some 31), .move (.tmp 4), none, 0, (some ([], none))⟩,
    ⟨(some 32), .move (.tmp 6), none, 0, (some ([], none))⟩,
    ⟨(some 33), .indexSl 1 (.tmp 31) (.tmp 32), none, 0, (some ([], none))⟩,
    ⟨(some 34), .load false 1 (.tmp 33), none, 0, (some ([], none))⟩,
    ⟨(some 35), .bin .add (.tmp 30) (.tmp 34), none, 0, (some ([], none))⟩,
    ⟨(some 36), .bin .add (.tmp 35) (.const (.str [61])), none, 0, (some ([], none))⟩,
    ⟨(some 37), .move (.tmp 3), none, 0, (some ([], none))⟩,
    ⟨(some 38), .move (.tmp 6), none, 0, (some ([], none))⟩,
    ⟨(some 39), .indexSl 1 (.tmp 37) (.tmp 38), none, 0, (some ([], none))⟩,
    ⟨(some 40), .load false 1 (.tmp 39), none, 0, (some ([], none))⟩,
    ⟨(some 41), .call (.func 24) [(false, (.tmp 40))] true 4, none, 0, (some ([], none))⟩,
    ⟨(some 42), .bin .add (.tmp 36) (.tmp 41), none, 4, (some ([0, 1, 2, 3], none))⟩,
    ⟨(some 5), .move (.tmp 42), none, 4, (some ([0, 1, 2, 3], none))⟩] [])))) (.region 0 [
    ⟨(some 19), .move (.tmp 6), none, 0, none⟩,
    ⟨(some 20), .bin .add (.tmp 19) (.const (.int .i64 (1))), none, 0, none⟩,
    ⟨(some 6), .move (.tmp 20), none, 0, none⟩] [])))))) (.seq (.seq (.region 0 [
    ⟨(some 43), .move (.tmp 5), none, 0, none⟩,
    ⟨(some 44), .bin .eql (.tmp 43) (.const (.str [])), none, 0, none⟩] []) (.cond (.tmp 44) (.seq (.region 0 [
    ⟨(some 2), .move (.const (.str [110, 111, 110, 101])), none, 0, none⟩] []) (.ret)) (.skip))) (.seq (.region 0 [
    ⟨(some 45), .move (.tmp 5), none, 0, none⟩,
    ⟨(some 2), .move (.tmp 45), none, 0, none⟩] []) (.ret))))))), [.tmp 2], true⟩
def s18 : Sig := ⟨(.cons (.v .res) .nil), [], ((.v .str), []), []⟩
def l18_0 (g24 : Int → Option (List UInt8)) (nx2 : ((Unit × (Unit × ((List UInt8) × (Int × Unit)))) × ((List Int) × ((List (List UInt8)) × Unit))) → Option (List UInt8)) (zs3 : (List UInt8)) (i4 : Int) (z5 : (List Int)) (z6 : (List (List UInt8))) : Option (List UInt8) :=
  cond (decide (i4 < 4))
  (cond (decide (0 ≤ i4))
  (cond (decide ((Int.toNat i4) < (List.length z5)))
  (Option.bind (z5[Int.toNat i4]?) fun y7 =>
  cond (decide (y7 = 0))
  (nx2 (((), (), zs3, IntKind.wrap .i64 (i4 + 1), ()), (z5, z6, ())))
  (cond (!decide (zs3 = ([] : List UInt8)))
  (cond (decide (zs3.length + ([44] : List UInt8).length ≤ 4294967296))
  (cond (decide (0 ≤ i4))
  (cond (decide ((Int.toNat i4) < (List.length z6)))
  (Option.bind (z6[Int.toNat i4]?) fun y8 =>
  cond (decide ((zs3 ++ ([44] : List UInt8)).length + y8.length ≤ 4294967296))
  (cond (decide (((zs3 ++ ([44] : List UInt8)) ++ y8).length + ([61] : List UInt8).length ≤ 4294967296))
  (cond (decide (0 ≤ i4))
  (cond (decide ((Int.toNat i4) < (List.length z5)))
  (Option.bind (z5[Int.toNat i4]?) fun y9 =>
  Option.bind (g24 y9) fun r10 =>
  cond (decide ((((zs3 ++ ([44] : List UInt8)) ++ y8) ++ ([61] : List UInt8)).length + r10.length ≤ 4294967296))
  (nx2 (((), (), (((zs3 ++ ([44] : List UInt8)) ++ y8) ++ ([61] : List UInt8)) ++ r10, IntKind.wrap .i64 (i4 + 1), ()), (z5, z6, ())))
  (none))
  (none))
  (none))
  (none))
  (none))
  (none))
  (none))
  (none))
  (cond (decide (0 ≤ i4))
  (cond (decide ((Int.toNat i4) < (List.length z6)))
  (Option.bind (z6[Int.toNat i4]?) fun y11 =>
  cond (decide (zs3.length + y11.length ≤ 4294967296))
  (cond (decide ((zs3 ++ y11).length + ([61] : List UInt8).length ≤ 4294967296))
  (cond (decide (0 ≤ i4))
  (cond (decide ((Int.toNat i4) < (List.length z5)))
  (Option.bind (z5[Int.toNat i4]?) fun y12 =>
  Option.bind (g24 y12) fun r13 =>
  cond (decide (((zs3 ++ y11) ++ ([61] : List UInt8)).length + r13.length ≤ 4294967296))
  (nx2 (((), (), ((zs3 ++ y11) ++ ([61] : List UInt8)) ++ r13, IntKind.wrap .i64 (i4 + 1), ()), (z5, z6, ())))
  (none))
  (none))
  (none))
  (none))
  (none))
  (none))
  (none))))
  (none))
  (none))
  (cond (decide (zs3 = ([] : List UInt8)))
  (some ([110, 111, 110, 101] : List UInt8))
  (some zs3))
def F18 (L : Lp) (g24 : Int → Option (List UInt8)) (a0 : Res) : Option (List UInt8) :=
  L (fun (s1 : ((Unit × (Unit × ((List UInt8) × (Int × Unit)))) × ((List Int) × ((List (List UInt8)) × Unit)))) nx2 => l18_0 g24 nx2 s1.1.2.2.1 s1.1.2.2.2.1 s1.2.1 s1.2.2.1) (((), (), ([] : List UInt8), 0, ()), ([a0.cpu, a0.mem, a0.gpu, a0.lic], [([99, 112, 117] : List UInt8), ([109, 101, 109] : List UInt8), ([103, 112, 117] : List UInt8), ([108, 105, 99] : List UInt8)], ()))
theorem e18 (L : Lp) (g24 : Int → Option (List UInt8)) (x : s18.args.den) (h : denH s18.heap) : nrun [⟨24, s24, fun x h => g24 x.1⟩] L n18 s18 x h = F18 L g24 x.1 := by kernel_rfl
def f18 : Res → Option (List UInt8) := F18 (@LN LOOPS) f24
@[reducible] def t18 : Ent := ⟨18, s18, fun x h => f18 x.1⟩
theorem k18 : chkNF Tryd.prog Tryd.f18 n18 = true := by kernel_rfl
theorem ok18 : NOk Tryd.prog t18 := NOk.body (T := [t24]) mixed (nall_cons ok24 nall_nil) (oneEach_of (by kernel_rfl)) Tryd.func18 k18 (by kernel_rfl) (fun x h => e18 _ _ x h)
/- drayage/drayagelaw03.UnitsText -/
def n5 : NFunc := ⟨45, .seq (.region 1 [
    ⟨(some 1), .box 4 (.tmp 0), none, 0, none⟩,
    ⟨(some 2), .move (.const (.bool false)), none, 1, none⟩] []) (.seq (.seq (.region 4 [
    ⟨(some 7), .call (.func 14) [] false 4, none, 0, none⟩,
    ⟨(some 8), .un .not (.tmp 7), none, 4, none⟩] []) (.cond (.tmp 8) (.seq (.region 0 [
    ⟨(some 2), .move (.const (.bool false)), none, 0, none⟩] []) (.ret)) (.skip))) (.seq (.region 4 [
    ⟨(some 10), .load true 4 (.tmp 1), none, 0, none⟩,
    ⟨(some 11), .call (.func 15) [(false, (.tmp 10))] false 4, none, 0, none⟩,
    ⟨(some 9), .move (.tmp 11), none, 4, none⟩,
    ⟨(some 12), .extract (.tmp 9) 0, none, 4, none⟩,
    ⟨(some 13), .extract (.tmp 9) 1, none, 4, none⟩,
    ⟨(some 3), .move (.tmp 12), none, 4, none⟩,
    ⟨(some 4), .move (.tmp 13), none, 4, none⟩] []) (.seq (.seq (.region 4 [
    ⟨(some 14), .load true 4 (.tmp 1), none, 0, none⟩,
    ⟨(some 15), .call (.func 16) [(false, (.tmp 14))] false 4, none, 0, none⟩,
    ⟨(some 16), .un .not (.tmp 15), none, 4, none⟩] []) (.cond (.tmp 16) (.seq (.region 0 [
    ⟨(some 17), .move (.tmp 3), none, 0, none⟩,
    ⟨(some 18), .bin .eql (.tmp 17) (.const (.str [])), none, 0, none⟩,
    ⟨(some 19), .move (.tmp 18), none, 0, none⟩,
    ⟨(some 20), .move (.tmp 4), (some (19, true)), 0, none⟩,
    ⟨(some 21), .bin .eql (.tmp 20) (.const (.int .i64 (2))), (some (19, true)), 0, none⟩,
    ⟨(some 22), .pick (.tmp 19) (.tmp 21) (.const (.bool false)), none, 0, none⟩,
    ⟨(some 2), .move (.tmp 22), none, 0, none⟩] []) (.ret)) (.skip))) (.seq (.region 5 [
    ⟨(some 24), .move (.tmp 3), none, 0, none⟩,
    ⟨(some 25), .call (.func 17) [(false, (.tmp 24))] false 4, none, 0, none⟩,
    ⟨(some 23), .move (.tmp 25), none, 4, none⟩,
    ⟨(some 26), .extract (.tmp 23) 0, none, 4, none⟩,
    ⟨(some 27), .extract (.tmp 23) 1, none, 4, none⟩,
    ⟨(some 5), .alloc [.int .i64 (0), .int .i64 (0), .int .i64 (0), .int .i64 (0)], none, 4, none⟩,
    ⟨none, .store 4 (.tmp 5) (.tmp 26), none, 5, none⟩,
    ⟨(some 6), .move (.tmp 27), none, 5, none⟩] []) (.seq (.region 4 [
    ⟨(some 28), .move (.tmp 4), none, 0, none⟩,
    ⟨(some 29), .bin .eql (.tmp 28) (.const (.int .i64 (0))), none, 0, none⟩,
    ⟨(some 30), .move (.tmp 29), none, 0, none⟩,
    ⟨(some 31), .move (.tmp 3), (some (30, true)), 0, none⟩,
    ⟨(some 32), .load true 4 (.tmp 1), (some (30, true)), 0, none⟩,
    ⟨(some 33), .call (.func 18) [(false, (.tmp 32))] false 4, (some (30, true)), 0, none⟩,
    ⟨(some 34), .bin .eql (.tmp 31) (.tmp 33), (some (30, true)), 4, none⟩,
    ⟨(some 35), .pick (.tmp 30) (.tmp 34) (.const (.bool false)), none, 4, none⟩,
    ⟨(some 36), .move (.tmp 35), none, 4, none⟩,
    ⟨(some 37), .move (.tmp 6), (some (36, true)), 4, none⟩,
    ⟨(some 38), .bin .eql (.tmp 37) (.const (.int .i64 (0))), (some (36, true)), 4, none⟩,
    ⟨(some 39), .pick (.tmp 36) (.tmp 38) (.const (.bool false)), none, 4, none⟩,
    ⟨(some 40), .move (.tmp 39), none, 4, none⟩,
    ⟨(some 41), .load true 4 (.tmp 5), (some (40, true)), 4, none⟩,
    ⟨(some 42), .load true 4 (.tmp 1), (some (40, true)), 4, none⟩,
    ⟨(some 43), .eqAgg (false, [.int .i64, .int .i64, .int .i64, .int .i64]) (.tmp 41) (.tmp 42), (some (40, true)), 4, none⟩,
    ⟨(some 44), .pick (.tmp 40) (.tmp 43) (.const (.bool false)), none, 4, none⟩,
    ⟨(some 2), .move (.tmp 44), none, 4, none⟩] []) (.ret)))))), [.tmp 2], true⟩
def s5 : Sig := ⟨(.cons (.v .res) .nil), [], ((.v .bool), []), []⟩
def F5 (L : Lp) (g14 : Option Bool) (g15 : Res → Option ((List UInt8) × (Int × Unit))) (g16 : Res → Option Bool) (g17 : (List UInt8) → Option (Res × (Int × Unit))) (g18 : Res → Option (List UInt8)) (a0 : Res) : Option Bool :=
  Option.bind (g14) fun r1 =>
  cond (!r1)
  (some false)
  (Option.bind (g15 a0) fun r2 =>
  Option.bind (g16 a0) fun r3 =>
  cond (!r3)
  (cond (decide (r2.1 = ([] : List UInt8)))
  (some (decide (r2.2.1 = 2)))
  (some false))
  (Option.bind (g17 r2.1) fun r4 =>
  cond (decide (r2.2.1 = 0))
  (Option.bind (g18 a0) fun r5 =>
  cond (decide (r2.1 = r5))
  (cond (decide (r4.2.1 = 0))
  (some ((decide (r4.1.cpu = a0.cpu)) && ((decide (r4.1.mem = a0.mem)) && ((decide (r4.1.gpu = a0.gpu)) && ((decide (r4.1.lic = a0.lic)) && true)))))
  (some false))
  (some false))
  (some false)))
theorem e5 (L : Lp) (g14 : Option Bool) (g15 : Res → Option ((List UInt8) × (Int × Unit))) (g16 : Res → Option Bool) (g17 : (List UInt8) → Option (Res × (Int × Unit))) (g18 : Res → Option (List UInt8)) (x : s5.args.den) (h : denH s5.heap) : nrun [⟨14, s14, fun x h => g14 ⟩, ⟨15, s15, fun x h => g15 x.1⟩, ⟨16, s16, fun x h => g16 x.1⟩, ⟨17, s17, fun x h => g17 x.1⟩, ⟨18, s18, fun x h => g18 x.1⟩] L n5 s5 x h = F5 L g14 g15 g16 g17 g18 x.1 := by kernel_rfl
def f5 : Res → Option Bool := F5 (@LN LOOPS) f14 f15 f16 f17 f18
@[reducible] def t5 : Ent := ⟨5, s5, fun x h => f5 x.1⟩
theorem k5 : chkNF Tryd.prog Tryd.f5 n5 = true := by kernel_rfl
theorem ok5 : NOk Tryd.prog t5 := NOk.body (T := [t14, t15, t16, t17, t18]) mixed (nall_cons ok14 (nall_cons ok15 (nall_cons ok16 (nall_cons ok17 (nall_cons ok18 nall_nil))))) (oneEach_of (by kernel_rfl)) Tryd.func5 k5 (by kernel_rfl) (fun x h => e5 _ _ _ _ _ _ x h)
/- drayage/drayageref03.number -/
def n33 : NFunc := ⟨47, .seq (.region 0 [
    ⟨(some 4), .move (.const (.int .i64 (0))), none, 0, none⟩,
    ⟨(some 5), .move (.const (.int .i64 (0))), none, 0, none⟩] []) (.seq (.region 0 [
    ⟨(some 6), .move (.const (.int .i64 (0))), none, 0, none⟩] []) (.seq (.region 0 [
    ⟨(some 8), .move (.tmp 1), none, 0, none⟩,
    ⟨(some 7), .move (.tmp 8), none, 0, none⟩] []) (.seq (.block 0 (.loop [0, 1, 6, 7] ⟨[(6, (.v (.int .i64))), (7, (.v (.int .i64)))], [0, 1], []⟩ (.seq (.seq (.region 0 [
    ⟨(some 9), .move (.tmp 7), none, 0, none⟩,
    ⟨(some 10), .move (.tmp 0), none, 0, none⟩,
    ⟨(some 11), .lenStr (.tmp 10), none, 0, none⟩,
    ⟨(some 12), .bin .lss (.tmp 9) (.tmp 11), none, 0, none⟩,
    ⟨(some 13), .move (.tmp 12), none, 0, none⟩,
    ⟨(some 14), .move (.tmp 0), (some (13, true)), 0, none⟩,
    ⟨(some 15), .move (.tmp 7), (some (13, true)), 0, none⟩,
    ⟨(some 16), .indexStr (.tmp 14) (.tmp 15), (some (13, true)), 0, none⟩,
    ⟨(some 17), .bin .geq (.tmp 16) (.const (.int .u8 (48))), (some (13, true)), 0, none⟩,
    ⟨(some 18), .pick (.tmp 13) (.tmp 17) (.const (.bool false)), none, 0, none⟩,
    ⟨(some 19), .move (.tmp 18), none, 0, none⟩,
    ⟨(some 20), .move (.tmp 0), (some (19, true)), 0, none⟩,
    ⟨(some 21), .move (.tmp 7), (some (19, true)), 0, none⟩,
    ⟨(some 22), .indexStr (.tmp 20) (.tmp 21), (some (19, true)), 0, none⟩,
    ⟨(some 23), .bin .leq (.tmp 22) (.const (.int .u8 (57))), (some (19, true)), 0, none⟩,
    ⟨(some 24), .pick (.tmp 19) (.tmp 23) (.const (.bool false)), none, 0, none⟩,
    ⟨(some 25), .move (.tmp 24), none, 0, none⟩,
    ⟨(some 26), .move (.tmp 7), (some (25, true)), 0, none⟩,
    ⟨(some 27), .move (.tmp 1), (some (25, true)), 0, none⟩,
    ⟨(some 28), .bin .add (.tmp 27) (.const (.int .i64 (8))), (some (25, true)), 0, none⟩,
    ⟨(some 29), .bin .lss (.tmp 26) (.tmp 28), (some (25, true)), 0, none⟩,
    ⟨(some 30), .pick (.tmp 25) (.tmp 29) (.const (.bool false)), none, 0, none⟩] []) (.cond (.tmp 30) (.skip) (.exit 0))) (.block 1 (.seq (.region 0 [
    ⟨(some 31), .move (.tmp 6), none, 0, none⟩,
    ⟨(some 32), .bin .mul (.const (.int .i64 (10))) (.tmp 31), none, 0, none⟩,
    ⟨(some 33), .move (.tmp 0), none, 0, none⟩,
    ⟨(some 34), .move (.tmp 7), none, 0, none⟩,
    ⟨(some 35), .indexStr (.tmp 33) (.tmp 34), none, 0, none⟩,
    ⟨(some 36), .conv .i64 (.tmp 35), none, 0, none⟩,
    ⟨(some 37), .bin .add (.tmp 32) (.tmp 36), none, 0, none⟩,
    ⟨(some 38), .bin .sub (.tmp 37) (.const (.int .i64 (48))), none, 0, none⟩,
    ⟨(some 6), .move (.tmp 38), none, 0, none⟩] []) (.region 0 [
    ⟨(some 39), .move (.tmp 7), none, 0, none⟩,
    ⟨(some 40), .bin .add (.tmp 39) (.const (.int .i64 (1))), none, 0, none⟩,
    ⟨(some 7), .move (.tmp 40), none, 0, none⟩] [])))))) (.seq (.seq (.region 0 [
    ⟨(some 41), .move (.tmp 7), none, 0, none⟩,
    ⟨(some 42), .move (.tmp 1), none, 0, none⟩,
    ⟨(some 43), .bin .eql (.tmp 41) (.tmp 42), none, 0, none⟩] []) (.cond (.tmp 43) (.seq (.region 0 [
    ⟨(some 44), .move (.tmp 7), none, 0, none⟩,
    ⟨(some 4), .move (.const (.int .i64 (-1))), none, 0, none⟩,
    ⟨(some 5), .move (.tmp 44), none, 0, none⟩] []) (.ret)) (.skip))) (.seq (.region 0 [
    ⟨(some 45), .move (.tmp 6), none, 0, none⟩,
    ⟨(some 46), .move (.tmp 7), none, 0, none⟩,
    ⟨(some 4), .move (.tmp 45), none, 0, none⟩,
    ⟨(some 5), .move (.tmp 46), none, 0, none⟩] []) (.ret)))))), [.tmp 4, .tmp 5], true⟩
def s33 : Sig := ⟨(.cons (.v .str) (.cons (.v (.int .i64)) .nil)), [], ((.tup (.cons (.v (.int .i64)) (.cons (.v (.int .i64)) .nil))), []), []⟩
def l33_0 (as0 : (List UInt8)) (at1 : Int) (nx3 : ((Int × (Int × Unit)) × Unit) → Option (Int × (Int × Unit))) (zn4 : Int) (i5 : Int) : Option (Int × (Int × Unit)) :=
  cond (decide (i5 < (List.length as0 : Int)))
  (cond (decide (0 ≤ i5))
  (Option.bind (as0[Int.toNat i5]?) fun c6 =>
  cond (decide (48 ≤ (c6.toNat : Int)))
  (cond (decide (0 ≤ i5))
  (Option.bind (as0[Int.toNat i5]?) fun c7 =>
  cond (decide ((c7.toNat : Int) ≤ 57))
  (cond (decide (i5 < (IntKind.wrap .i64 (at1 + 8))))
  (cond (decide (0 ≤ i5))
  (Option.bind (as0[Int.toNat i5]?) fun c8 =>
  let v9 := IntKind.wrap .i64 ((IntKind.wrap .i64 (10 * zn4)) + (IntKind.wrap .i64 ((c8.toNat : Int))))
  nx3 ((IntKind.wrap .i64 (v9 - 48), IntKind.wrap .i64 (i5 + 1), ()), ()))
  (none))
  (cond (decide (i5 = at1))
  (some ((-1), i5, ()))
  (some (zn4, i5, ()))))
  (cond (decide (i5 = at1))
  (some ((-1), i5, ()))
  (some (zn4, i5, ()))))
  (none))
  (cond (decide (i5 = at1))
  (some ((-1), i5, ()))
  (some (zn4, i5, ()))))
  (none))
  (cond (decide (i5 = at1))
  (some ((-1), i5, ()))
  (some (zn4, i5, ())))
def F33 (L : Lp)  (as0 : (List UInt8)) (at1 : Int) : Option (Int × (Int × Unit)) :=
  L (fun (s2 : ((Int × (Int × Unit)) × Unit)) nx3 => l33_0 as0 at1 nx3 s2.1.1 s2.1.2.1) ((0, at1, ()), ())
theorem e33 (L : Lp)  (x : s33.args.den) (h : denH s33.heap) : nrun [] L n33 s33 x h = F33 L  x.1 x.2.1 := by kernel_rfl
def f33 : (List UInt8) → Int → Option (Int × (Int × Unit)) := F33 (@LN LOOPS) 
@[reducible] def t33 : Ent := ⟨33, s33, fun x h => f33 x.1 x.2.1⟩
theorem k33 : chkNF Tryd.prog Tryd.f33 n33 = true := by kernel_rfl
theorem ok33 : NOk Tryd.prog t33 := NOk.body (T := []) mixed nall_nil (oneEach_of (by kernel_rfl)) Tryd.func33 k33 (by kernel_rfl) (fun x h => e33 _  x h)
/- drayage/drayageref03.Read -/
def n19 : NFunc := ⟨69, .seq (.region 1 [
    ⟨(some 2), .alloc [.int .i64 (0), .int .i64 (0), .int .i64 (0), .int .i64 (0)], none, 0, none⟩,
    ⟨(some 3), .move (.const (.int .i64 (0))), none, 1, none⟩] []) (.seq (.region 1 [
    ⟨(some 11), .buildSlice 1 4 true [.str []] [(0, (.const (.str [99, 112, 117, 61]))), (1, (.const (.str [109, 101, 109, 61]))), (2, (.const (.str [103, 112, 117, 61]))), (3, (.const (.str [108, 105, 99, 61])))], none, 0, none⟩,
    ⟨(some 4), .move (.tmp 11), none, 1, none⟩] []) (.seq (.region 1 [
    ⟨(some 12), .buildSlice 1 4 true [.int .i64 (0)] [(0, (.const (.int .i64 (0)))), (1, (.const (.int .i64 (0)))), (2, (.const (.int .i64 (0)))), (3, (.const (.int .i64 (0))))], none, 0, none⟩,
    ⟨(some 5), .move (.tmp 12), none, 1, none⟩] []) (.seq (.seq (.region 0 [
    ⟨(some 6), .move (.const (.int .i64 (0))), none, 0, none⟩] []) (.block 0 (.loop [0, 2, 4, 5, 6] ⟨[(2, (.ptr 0 0 0)), (4, (.slw 1 1)), (5, (.slw 2 1)), (6, (.v (.int .i64)))], [0], [.one false .res, .typed .str, .typed (.int .i64)]⟩ (.seq (.seq (.region 0 [
    ⟨(some 13), .move (.tmp 6), none, 0, none⟩,
    ⟨(some 14), .bin .add (.tmp 13) (.const (.int .i64 (4))), none, 0, none⟩,
    ⟨(some 15), .move (.tmp 0), none, 0, none⟩,
    ⟨(some 16), .lenStr (.tmp 15), none, 0, none⟩,
    ⟨(some 17), .bin .leq (.tmp 14) (.tmp 16), none, 0, none⟩] []) (.cond (.tmp 17) (.skip) (.exit 0))) (.seq (.block 1 (.seq (.region 0 [
    ⟨(some 7), .move (.const (.int .i64 (0))), none, 0, none⟩] []) (.block 2 (.loop [0, 2, 4, 5, 6, 7] ⟨[(2, (.ptr 0 0 0)), (4, (.slw 1 1)), (5, (.slw 2 1)), (7, (.v (.int .i64)))], [0, 6], [.one false .res, .typed .str, .typed (.int .i64)]⟩ (.seq (.seq (.region 0 [
    ⟨(some 20), .move (.tmp 7), none, 0, none⟩,
    ⟨(some 21), .bin .lss (.tmp 20) (.const (.int .i64 (4))), none, 0, none⟩] []) (.cond (.tmp 21) (.skip) (.exit 2))) (.seq (.block 3 (.seq (.region 0 [
    ⟨(some 24), .move (.tmp 0), none, 0, (some ([], none))⟩,
    ⟨(some 25), .move (.tmp 6), none, 0, (some ([], none))⟩,
    ⟨(some 26), .move (.tmp 6), none, 0, (some ([], none))⟩,
    ⟨(some 27), .bin .add (.tmp 26) (.const (.int .i64 (4))), none, 0, (some ([], none))⟩,
    ⟨(some 28), .sliceStr (.tmp 24) (some (.tmp 25)) (some (.tmp 27)), none, 0, (some ([], none))⟩,
    ⟨(some 29), .move (.tmp 4), none, 0, (some ([], none))⟩,
    ⟨(some 30), .move (.tmp 7), none, 0, (some ([], none))⟩,
    ⟨(some 31), .indexSl 1 (.tmp 29) (.tmp 30), none, 0, (some ([], none))⟩,
    ⟨(some 32), .load false 1 (.tmp 31), none, 0, (some ([], none))⟩,
    ⟨(some 33), .bin .eql (.tmp 28) (.tmp 32), none, 0, (some ([], none))⟩] []) (.cond (.tmp 33) (.seq (.region 4 [
    ⟨(some 35), .move (.tmp 0), none, 0, none⟩,
    ⟨(some 36), .move (.tmp 6), none, 0, none⟩,
    ⟨(some 37), .bin .add (.tmp 36) (.const (.int .i64 (4))), none, 0, none⟩,
    ⟨(some 38), .call (.func 33) [(false, (.tmp 35)), (false, (.tmp 37))] false 4, none, 0, none⟩,
    ⟨(some 34), .move (.tmp 38), none, 4, none⟩,
    ⟨(some 39), .extract (.tmp 34) 0, none, 4, none⟩,
    ⟨(some 40), .extract (.tmp 34) 1, none, 4, none⟩,
    ⟨(some 8), .move (.tmp 39), none, 4, none⟩,
    ⟨(some 9), .move (.tmp 40), none, 4, none⟩] []) (.region 0 [
    ⟨(some 41), .move (.tmp 5), none, 0, none⟩,
    ⟨(some 42), .move (.tmp 7), none, 0, none⟩,
    ⟨(some 43), .move (.tmp 8), none, 0, none⟩,
    ⟨(some 44), .indexSl 1 (.tmp 41) (.tmp 42), none, 0, none⟩,
    ⟨none, .store 1 (.tmp 44) (.tmp 43), none, 0, none⟩] [])) (.skip)))) (.region 0 [
    ⟨(some 22), .move (.tmp 7), none, 0, none⟩,
    ⟨(some 23), .bin .add (.tmp 22) (.const (.int .i64 (1))), none, 0, none⟩,
    ⟨(some 7), .move (.tmp 23), none, 0, none⟩] []))))))) (.region 0 [
    ⟨(some 18), .move (.tmp 6), none, 0, none⟩,
    ⟨(some 19), .bin .add (.tmp 18) (.const (.int .i64 (1))), none, 0, none⟩,
    ⟨(some 6), .move (.tmp 19), none, 0, none⟩] [])))))) (.seq (.region 1 [
    ⟨(some 45), .move (.tmp 5), none, 0, (some ([], none))⟩,
    ⟨(some 46), .indexSl 1 (.tmp 45) (.const (.int .i64 (0))), none, 0, (some ([], none))⟩,
    ⟨(some 47), .load false 1 (.tmp 46), none, 0, (some ([], none))⟩,
    ⟨(some 48), .move (.tmp 5), none, 0, (some ([], none))⟩,
    ⟨(some 49), .indexSl 1 (.tmp 48) (.const (.int .i64 (1))), none, 0, (some ([], none))⟩,
    ⟨(some 50), .load false 1 (.tmp 49), none, 0, (some ([], none))⟩,
    ⟨(some 51), .move (.tmp 5), none, 0, (some ([], none))⟩,
    ⟨(some 52), .indexSl 1 (.tmp 51) (.const (.int .i64 (2))), none, 0, (some ([], none))⟩,
    ⟨(some 53), .load false 1 (.tmp 52), none, 0, (some ([], none))⟩,
    ⟨(some 54), .move (.tmp 5), none, 0, (some ([], none))⟩,
    ⟨(some 55), .indexSl 1 (.tmp 54) (.const (.int .i64 (3))), none, 0, (some ([], none))⟩,
    ⟨(some 56), .load false 1 (.tmp 55), none, 0, (some ([], none))⟩,
    ⟨(some 57), .build [.int .i64 (0), .int .i64 (0), .int .i64 (0), .int .i64 (0)] [(0, 1, (.tmp 47)), (1, 1, (.tmp 50)), (2, 1, (.tmp 53)), (3, 1, (.tmp 56))], none, 0, (some ([], none))⟩,
    ⟨(some 10), .alloc [.int .i64 (0), .int .i64 (0), .int .i64 (0), .int .i64 (0)], none, 0, (some ([], none))⟩,
    ⟨none, .store 4 (.tmp 10) (.tmp 57), none, 1, (some ([0], none))⟩] []) (.seq (.seq (.region 8 [
    ⟨(some 58), .load true 4 (.tmp 10), none, 0, none⟩,
    ⟨(some 59), .call (.func 16) [(false, (.tmp 58))] false 4, none, 0, none⟩,
    ⟨(some 60), .un .not (.tmp 59), none, 4, none⟩,
    ⟨(some 61), .move (.tmp 60), none, 4, none⟩,
    ⟨(some 62), .load true 4 (.tmp 10), (some (61, false)), 4, none⟩,
    ⟨(some 63), .call (.func 18) [(false, (.tmp 62))] false 4, (some (61, false)), 4, none⟩,
    ⟨(some 64), .move (.tmp 0), (some (61, false)), 8, none⟩,
    ⟨(some 65), .bin .neq (.tmp 63) (.tmp 64), (some (61, false)), 8, none⟩,
    ⟨(some 66), .pick (.tmp 61) (.const (.bool true)) (.tmp 65), none, 8, none⟩] []) (.cond (.tmp 66) (.seq (.region 0 [
    ⟨(some 67), .build [.int .i64 (0), .int .i64 (0), .int .i64 (0), .int .i64 (0)] [], none, 0, none⟩,
    ⟨none, .store 4 (.tmp 2) (.tmp 67), none, 0, none⟩,
    ⟨(some 3), .move (.const (.int .i64 (11))), none, 0, none⟩] []) (.ret)) (.skip))) (.seq (.region 0 [
    ⟨(some 68), .load true 4 (.tmp 10), none, 0, none⟩,
    ⟨none, .store 4 (.tmp 2) (.tmp 68), none, 0, none⟩,
    ⟨(some 3), .move (.const (.int .i64 (0))), none, 0, none⟩] []) (.ret))))))), [.cell true 4 2, .tmp 3], true⟩
def s19 : Sig := ⟨(.cons (.v .str) .nil), [], ((.tup (.cons (.v .res) (.cons (.v (.int .i64)) .nil))), []), []⟩
def l19_0 (g33 : (List UInt8) → Int → Option (Int × (Int × Unit))) (as0 : (List UInt8)) (nx2 : (((Unit × (Unit × (Unit × (Int × Unit)))) × (Res × ((List (List UInt8)) × ((List Int) × Unit)))) → Option (Res × (Int × Unit)))) (i3 : Int) (nx8 : ((Unit × (Unit × (Unit × (Int × Unit)))) × (Res × ((List (List UInt8)) × ((List Int) × Unit)))) → Option (Res × (Int × Unit))) (zk9 : Int) (z10 : Res) (z11 : (List (List UInt8))) (z12 : (List Int)) : Option (Res × (Int × Unit)) :=
  cond (decide (zk9 < 4))
  (cond (decide (0 ≤ i3))
  (cond (decide (0 ≤ (IntKind.wrap .i64 (i3 + 4))))
  (cond ((decide ((Int.toNat i3) ≤ (Int.toNat (IntKind.wrap .i64 (i3 + 4))))) && (decide ((Int.toNat (IntKind.wrap .i64 (i3 + 4))) ≤ (List.length as0))))
  (let v13 := List.drop (Int.toNat i3) (List.take (Int.toNat (IntKind.wrap .i64 (i3 + 4))) as0)
  cond (decide (0 ≤ zk9))
  (cond (decide ((Int.toNat zk9) < (List.length z11)))
  (Option.bind (z11[Int.toNat zk9]?) fun y14 =>
  cond (decide (v13 = y14))
  (Option.bind (g33 as0 (IntKind.wrap .i64 (i3 + 4))) fun r15 =>
  cond (decide (0 ≤ zk9))
  (cond (decide ((Int.toNat zk9) < (List.length z12)))
  (Option.bind (z12[Int.toNat zk9]?) fun y16 =>
  nx8 (((), (), (), IntKind.wrap .i64 (zk9 + 1), ()), (z10, z11, List.set z12 (Int.toNat zk9) r15.1, ())))
  (none))
  (none))
  (nx8 (((), (), (), IntKind.wrap .i64 (zk9 + 1), ()), (z10, z11, z12, ()))))
  (none))
  (none))
  (none))
  (none))
  (none))
  (nx2 (((), (), (), IntKind.wrap .i64 (i3 + 1), ()), (z10, z11, z12, ())))
def l19_1 (L : Lp) (g33 : (List UInt8) → Int → Option (Int × (Int × Unit))) (g16 : Res → Option Bool) (g18 : Res → Option (List UInt8)) (as0 : (List UInt8)) (nx2 : ((Unit × (Unit × (Unit × (Int × Unit)))) × (Res × ((List (List UInt8)) × ((List Int) × Unit)))) → Option (Res × (Int × Unit))) (i3 : Int) (z4 : Res) (z5 : (List (List UInt8))) (z6 : (List Int)) : Option (Res × (Int × Unit)) :=
  cond (decide ((IntKind.wrap .i64 (i3 + 4)) ≤ (List.length as0 : Int)))
  (L (fun (s7 : ((Unit × (Unit × (Unit × (Int × Unit)))) × (Res × ((List (List UInt8)) × ((List Int) × Unit))))) nx8 => l19_0 g33 as0 nx2 i3 nx8 s7.1.2.2.2.1 s7.2.1 s7.2.2.1 s7.2.2.2.1) (((), (), (), 0, ()), (z4, z5, z6, ())))
  (cond (decide (0 < (List.length z6)))
  (Option.bind (z6[0]?) fun y17 =>
  cond (decide (1 < (List.length z6)))
  (Option.bind (z6[1]?) fun y18 =>
  cond (decide (2 < (List.length z6)))
  (Option.bind (z6[2]?) fun y19 =>
  cond (decide (3 < (List.length z6)))
  (Option.bind (z6[3]?) fun y20 =>
  Option.bind (g16 (Res.mk y17 y18 y19 y20)) fun r21 =>
  cond (!r21)
  (some (Res.mk 0 0 0 0, 11, ()))
  (Option.bind (g18 (Res.mk y17 y18 y19 y20)) fun r22 =>
  cond (!decide (r22 = as0))
  (some (Res.mk 0 0 0 0, 11, ()))
  (some (Res.mk y17 y18 y19 y20, 0, ()))))
  (none))
  (none))
  (none))
  (none))
def F19 (L : Lp) (g33 : (List UInt8) → Int → Option (Int × (Int × Unit))) (g16 : Res → Option Bool) (g18 : Res → Option (List UInt8)) (as0 : (List UInt8)) : Option (Res × (Int × Unit)) :=
  L (fun (s1 : ((Unit × (Unit × (Unit × (Int × Unit)))) × (Res × ((List (List UInt8)) × ((List Int) × Unit))))) nx2 => l19_1 L g33 g16 g18 as0 nx2 s1.1.2.2.2.1 s1.2.1 s1.2.2.1 s1.2.2.2.1) (((), (), (), 0, ()), (Res.mk 0 0 0 0, [([99, 112, 117, 61] : List UInt8), ([109, 101, 109, 61] : List UInt8), ([103, 112, 117, 61] : List UInt8), ([108, 105, 99, 61] : List UInt8)], [0, 0, 0, 0], ()))
theorem e19 (L : Lp) (g33 : (List UInt8) → Int → Option (Int × (Int × Unit))) (g16 : Res → Option Bool) (g18 : Res → Option (List UInt8)) (x : s19.args.den) (h : denH s19.heap) : nrun [⟨33, s33, fun x h => g33 x.1 x.2.1⟩, ⟨16, s16, fun x h => g16 x.1⟩, ⟨18, s18, fun x h => g18 x.1⟩] L n19 s19 x h = F19 L g33 g16 g18 x.1 := by kernel_rfl
def f19 : (List UInt8) → Option (Res × (Int × Unit)) := F19 (@LN LOOPS) f33 f16 f18
@[reducible] def t19 : Ent := ⟨19, s19, fun x h => f19 x.1⟩
theorem k19 : chkNF Tryd.prog Tryd.f19 n19 = true := by kernel_rfl
theorem ok19 : NOk Tryd.prog t19 := NOk.body (T := [t33, t16, t18]) mixed (nall_cons ok33 (nall_cons ok16 (nall_cons ok18 nall_nil))) (oneEach_of (by kernel_rfl)) Tryd.func19 k19 (by kernel_rfl) (fun x h => e19 _ _ _ _ x h)
/- drayage/drayagelaw03.UnitsRead -/
def n6 : NFunc := ⟨46, .seq (.region 0 [
    ⟨(some 2), .move (.const (.bool false)), none, 0, none⟩] []) (.seq (.seq (.region 4 [
    ⟨(some 9), .call (.func 14) [] false 4, none, 0, none⟩,
    ⟨(some 10), .un .not (.tmp 9), none, 4, none⟩] []) (.cond (.tmp 10) (.seq (.region 0 [
    ⟨(some 2), .move (.const (.bool false)), none, 0, none⟩] []) (.ret)) (.skip))) (.seq (.seq (.region 0 [
    ⟨(some 11), .move (.tmp 0), none, 0, none⟩,
    ⟨(some 12), .lenStr (.tmp 11), none, 0, none⟩,
    ⟨(some 13), .bin .gtr (.tmp 12) (.const (.int .i64 (200))), none, 0, none⟩] []) (.cond (.tmp 13) (.seq (.region 0 [
    ⟨(some 2), .move (.const (.bool true)), none, 0, none⟩] []) (.ret)) (.skip))) (.seq (.region 5 [
    ⟨(some 15), .move (.tmp 0), none, 0, none⟩,
    ⟨(some 16), .call (.func 17) [(false, (.tmp 15))] false 4, none, 0, none⟩,
    ⟨(some 14), .move (.tmp 16), none, 4, none⟩,
    ⟨(some 17), .extract (.tmp 14) 0, none, 4, none⟩,
    ⟨(some 18), .extract (.tmp 14) 1, none, 4, none⟩,
    ⟨(some 3), .alloc [.int .i64 (0), .int .i64 (0), .int .i64 (0), .int .i64 (0)], none, 4, none⟩,
    ⟨none, .store 4 (.tmp 3) (.tmp 17), none, 5, none⟩,
    ⟨(some 4), .move (.tmp 18), none, 5, none⟩] []) (.seq (.region 5 [
    ⟨(some 20), .move (.tmp 0), none, 0, none⟩,
    ⟨(some 21), .call (.func 19) [(false, (.tmp 20))] false 4, none, 0, none⟩,
    ⟨(some 19), .move (.tmp 21), none, 4, none⟩,
    ⟨(some 22), .extract (.tmp 19) 0, none, 4, none⟩,
    ⟨(some 23), .extract (.tmp 19) 1, none, 4, none⟩,
    ⟨(some 5), .alloc [.int .i64 (0), .int .i64 (0), .int .i64 (0), .int .i64 (0)], none, 4, none⟩,
    ⟨none, .store 4 (.tmp 5) (.tmp 22), none, 5, none⟩,
    ⟨(some 6), .move (.tmp 23), none, 5, none⟩] []) (.seq (.seq (.region 0 [
    ⟨(some 24), .load true 4 (.tmp 3), none, 0, none⟩,
    ⟨(some 25), .load true 4 (.tmp 5), none, 0, none⟩,
    ⟨(some 26), .eqAgg (true, [.int .i64, .int .i64, .int .i64, .int .i64]) (.tmp 24) (.tmp 25), none, 0, none⟩,
    ⟨(some 27), .move (.tmp 26), none, 0, none⟩,
    ⟨(some 28), .move (.tmp 4), (some (27, false)), 0, none⟩,
    ⟨(some 29), .move (.tmp 6), (some (27, false)), 0, none⟩,
    ⟨(some 30), .bin .neq (.tmp 28) (.tmp 29), (some (27, false)), 0, none⟩,
    ⟨(some 31), .pick (.tmp 27) (.const (.bool true)) (.tmp 30), none, 0, none⟩] []) (.cond (.tmp 31) (.seq (.region 0 [
    ⟨(some 2), .move (.const (.bool false)), none, 0, none⟩] []) (.ret)) (.skip))) (.seq (.seq (.region 0 [
    ⟨(some 32), .move (.tmp 6), none, 0, none⟩,
    ⟨(some 33), .bin .neq (.tmp 32) (.const (.int .i64 (0))), none, 0, none⟩] []) (.cond (.tmp 33) (.seq (.region 0 [
    ⟨(some 2), .move (.const (.bool true)), none, 0, none⟩] []) (.ret)) (.skip))) (.seq (.region 4 [
    ⟨(some 35), .load true 4 (.tmp 3), none, 0, none⟩,
    ⟨(some 36), .call (.func 15) [(false, (.tmp 35))] false 4, none, 0, none⟩,
    ⟨(some 34), .move (.tmp 36), none, 4, none⟩,
    ⟨(some 37), .extract (.tmp 34) 0, none, 4, none⟩,
    ⟨(some 38), .extract (.tmp 34) 1, none, 4, none⟩,
    ⟨(some 7), .move (.tmp 37), none, 4, none⟩,
    ⟨(some 8), .move (.tmp 38), none, 4, none⟩] []) (.seq (.region 0 [
    ⟨(some 39), .move (.tmp 8), none, 0, none⟩,
    ⟨(some 40), .bin .eql (.tmp 39) (.const (.int .i64 (0))), none, 0, none⟩,
    ⟨(some 41), .move (.tmp 40), none, 0, none⟩,
    ⟨(some 42), .move (.tmp 7), (some (41, true)), 0, none⟩,
    ⟨(some 43), .move (.tmp 0), (some (41, true)), 0, none⟩,
    ⟨(some 44), .bin .eql (.tmp 42) (.tmp 43), (some (41, true)), 0, none⟩,
    ⟨(some 45), .pick (.tmp 41) (.tmp 44) (.const (.bool false)), none, 0, none⟩,
    ⟨(some 2), .move (.tmp 45), none, 0, none⟩] []) (.ret))))))))), [.tmp 2], true⟩
def s6 : Sig := ⟨(.cons (.v .str) .nil), [], ((.v .bool), []), []⟩
def F6 (L : Lp) (g14 : Option Bool) (g17 : (List UInt8) → Option (Res × (Int × Unit))) (g19 : (List UInt8) → Option (Res × (Int × Unit))) (g15 : Res → Option ((List UInt8) × (Int × Unit))) (as0 : (List UInt8)) : Option Bool :=
  Option.bind (g14) fun r1 =>
  cond (!r1)
  (some false)
  (cond (decide (200 < (List.length as0 : Int)))
  (some true)
  (Option.bind (g17 as0) fun r2 =>
  Option.bind (g19 as0) fun r3 =>
  cond (!((decide (r2.1.cpu = r3.1.cpu)) && ((decide (r2.1.mem = r3.1.mem)) && ((decide (r2.1.gpu = r3.1.gpu)) && ((decide (r2.1.lic = r3.1.lic)) && true)))))
  (some false)
  (cond (!decide (r2.2.1 = r3.2.1))
  (some false)
  (cond (!decide (r3.2.1 = 0))
  (some true)
  (Option.bind (g15 r2.1) fun r4 =>
  cond (decide (r4.2.1 = 0))
  (some (decide (r4.1 = as0)))
  (some false))))))
theorem e6 (L : Lp) (g14 : Option Bool) (g17 : (List UInt8) → Option (Res × (Int × Unit))) (g19 : (List UInt8) → Option (Res × (Int × Unit))) (g15 : Res → Option ((List UInt8) × (Int × Unit))) (x : s6.args.den) (h : denH s6.heap) : nrun [⟨14, s14, fun x h => g14 ⟩, ⟨17, s17, fun x h => g17 x.1⟩, ⟨19, s19, fun x h => g19 x.1⟩, ⟨15, s15, fun x h => g15 x.1⟩] L n6 s6 x h = F6 L g14 g17 g19 g15 x.1 := by kernel_rfl
def f6 : (List UInt8) → Option Bool := F6 (@LN LOOPS) f14 f17 f19 f15
@[reducible] def t6 : Ent := ⟨6, s6, fun x h => f6 x.1⟩
theorem k6 : chkNF Tryd.prog Tryd.f6 n6 = true := by kernel_rfl
theorem ok6 : NOk Tryd.prog t6 := NOk.body (T := [t14, t17, t19, t15]) mixed (nall_cons ok14 (nall_cons ok17 (nall_cons ok19 (nall_cons ok15 nall_nil)))) (oneEach_of (by kernel_rfl)) Tryd.func6 k6 (by kernel_rfl) (fun x h => e6 _ _ _ _ _ x h)
end NM
end Go.Proofs.YtbhnojlcbgkcbaaDoor
