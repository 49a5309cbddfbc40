/-
  The plain forms of the functions that the statement reaches, and that each is its function's body. (Written by program.)
-/
import Derived.Test.YtgpejfddaelobaaNmX
import Derived.Test.YtgpejfddaelobaaProg
import Derived.ProofKit
import Derived.Test.YtgpejfddaelobaaNVec
import Derived.Test.YtgpejfddaelobaaInsStep
set_option linter.unusedVariables false
set_option maxRecDepth 100000
set_option maxHeartbeats 4000000
namespace Go.Proofs.Ytgpejfddaelobaa
namespace NM
open AM Go.RowKit
theorem mixed : Try.prog.follows .mixedOrders = true := by kernel_rfl
/- drayage/vec.numbers -/
def n114 : NFunc := ⟨12, .seq (.region 2 [
    ⟨(some 1), .box 4 (.tmp 0), none, 0, none⟩,
    ⟨(some 2), .alloc [.int .i64 (0), .int .i64 (0), .int .i64 (0), .int .i64 (0)], none, 1, none⟩] []) (.seq (.region 0 [
    ⟨(some 3), .fieldAddr 0 (.tmp 1), none, 0, none⟩,
    ⟨(some 4), .load false 1 (.tmp 3), none, 0, none⟩,
    ⟨(some 5), .fieldAddr 1 (.tmp 1), none, 0, none⟩,
    ⟨(some 6), .load false 1 (.tmp 5), none, 0, none⟩,
    ⟨(some 7), .fieldAddr 2 (.tmp 1), none, 0, none⟩,
    ⟨(some 8), .load false 1 (.tmp 7), none, 0, none⟩,
    ⟨(some 9), .fieldAddr 3 (.tmp 1), none, 0, none⟩,
    ⟨(some 10), .load false 1 (.tmp 9), none, 0, none⟩,
    ⟨(some 11), .build [.int .i64 (0), .int .i64 (0), .int .i64 (0), .int .i64 (0)] [(0, 1, (.tmp 4)), (1, 1, (.tmp 6)), (2, 1, (.tmp 8)), (3, 1, (.tmp 10))], none, 0, none⟩,
    ⟨none, .store 4 (.tmp 2) (.tmp 11), none, 0, none⟩] []) (.ret)), [.cell true 4 2], true⟩
def s114 : Sig := ⟨(.cons (.v .res) .nil), [], ((.v (.pair (.int .i64) (.pair (.int .i64) (.pair (.int .i64) (.int .i64))))), []), []⟩
def F114 (L : Lp)  (a0 : Res) : Option (Int × (Int × (Int × Int))) :=
  some (a0.cpu, (a0.mem, (a0.gpu, a0.lic)))
theorem e114 (L : Lp)  (x : s114.args.den) (h : denH s114.heap) : nrun [] L n114 s114 x h = F114 L  x.1 := by kernel_rfl
def f114 : Res → Option (Int × (Int × (Int × Int))) := F114 (@LN LOOPS) 
@[reducible] def t114 : Ent := ⟨114, s114, fun x h => f114 x.1⟩
theorem k114 : chkNF Try.prog Try.f114 n114 = true := by kernel_rfl
theorem ok114 : NOk Try.prog t114 := NOk.body (T := []) mixed nall_nil (oneEach_of (by kernel_rfl)) Try.func114 k114 (by kernel_rfl) (fun x h => e114 _  x h)
/- drayage/vec.Right -/
def n86 : NFunc := ⟨17, .seq (.region 1 [
    ⟨(some 1), .box 4 (.tmp 0), none, 0, none⟩,
    ⟨(some 2), .move (.const (.bool false)), none, 1, none⟩] []) (.seq (.seq (.region 4 [
    ⟨(some 5), .load true 4 (.tmp 1), none, 0, none⟩,
    ⟨(some 6), .call (.func 114) [(false, (.tmp 5))] false 4, none, 0, none⟩,
    ⟨(some 7), .move (.const (.int .i64 (0))), none, 4, none⟩] []) (.block 0 (.loopU [6, 7] 5 (.seq (.region 0 [
    ⟨(some 8), .bin .lss (.tmp 7) (.const (.int .i64 (4))), none, 0, none⟩] []) (.seq (.cond (.tmp 8) (.skip) (.exit 0)) (.seq (.block 1 (.seq (.region 0 [
    ⟨(some 9), .indexVal false 4 1 (.tmp 6) (.tmp 7), none, 0, none⟩,
    ⟨(some 4), .move (.tmp 9), none, 0, none⟩] []) (.seq (.region 0 [
    ⟨(some 10), .move (.tmp 4), none, 0, none⟩,
    ⟨(some 11), .bin .lss (.tmp 10) (.const (.int .i64 (0))), none, 0, none⟩,
    ⟨(some 12), .move (.tmp 11), none, 0, none⟩,
    ⟨(some 13), .move (.tmp 4), (some (12, false)), 0, none⟩,
    ⟨(some 14), .bin .gtr (.tmp 13) (.const (.int .i64 (1048576))), (some (12, false)), 0, none⟩,
    ⟨(some 15), .pick (.tmp 12) (.const (.bool true)) (.tmp 14), none, 0, none⟩] []) (.cond (.tmp 15) (.seq (.region 0 [
    ⟨(some 2), .move (.const (.bool false)), none, 0, none⟩] []) (.ret)) (.skip))))) (.region 0 [
    ⟨(some 16), .bin .add (.tmp 7) (.const (.int .i64 (1))), none, 0, none⟩,
    ⟨(some 7), .move (.tmp 16), none, 0, none⟩] []))))))) (.seq (.region 0 [
    ⟨(some 2), .move (.const (.bool true)), none, 0, none⟩] []) (.ret))), [.tmp 2], true⟩
def s86 : Sig := ⟨(.cons (.v .res) .nil), [], ((.v .bool), []), []⟩
def F86 (L : Lp) (g114 : Res → Option (Int × (Int × (Int × Int)))) (a0 : Res) : Option Bool :=
  Option.bind (g114 a0) fun r1 =>
  cond (decide (r1.1 < 0))
    (some false)
    (cond (decide (1048576 < r1.1))
      (some false)
      (cond (decide (r1.2.1 < 0))
        (some false)
        (cond (decide (1048576 < r1.2.1))
          (some false)
          (cond (decide (r1.2.2.1 < 0))
            (some false)
            (cond (decide (1048576 < r1.2.2.1))
              (some false)
              (cond (decide (r1.2.2.2 < 0))
                (some false)
                (cond (decide (1048576 < r1.2.2.2))
                  (some false)
                  (some true))))))))
theorem e86 (L : Lp) (g114 : Res → Option (Int × (Int × (Int × Int)))) (x : s86.args.den) (h : denH s86.heap) : nrun [⟨114, s114, fun x h => g114 x.1⟩] L n86 s86 x h = F86 L g114 x.1 := by kernel_rfl
def f86 : Res → Option Bool := F86 (@LN LOOPS) f114
@[reducible] def t86 : Ent := ⟨86, s86, fun x h => f86 x.1⟩
theorem k86 : chkNF Try.prog Try.f86 n86 = true := by kernel_rfl
theorem ok86 : NOk Try.prog t86 := NOk.body (T := [t114]) mixed (nall_cons ok114 nall_nil) (oneEach_of (by kernel_rfl)) Try.func86 k86 (by kernel_rfl) (fun x h => e86 _ _ x h)
/- drayage/steps.Right -/
def n37 : NFunc := ⟨33, .seq (.region 0 [
    ⟨(some 2), .move (.const (.bool false)), none, 0, none⟩] []) (.seq (.region 0 [
    ⟨(some 3), .move (.const (.int .i64 (-1))), none, 0, none⟩] []) (.seq (.seq (.region 0 [
    ⟨(some 6), .move (.tmp 0), none, 0, none⟩,
    ⟨(some 7), .len (.tmp 6), none, 0, none⟩,
    ⟨(some 8), .move (.const (.int .i64 (0))), none, 0, none⟩] []) (.block 0 (.loop [0, 3, 6, 7, 8] ⟨[(3, (.v (.int .i64))), (8, (.v (.int .i64)))], [0, 6, 7], []⟩ (.seq (.region 0 [
    ⟨(some 9), .bin .lss (.tmp 8) (.tmp 7), none, 0, none⟩] []) (.seq (.cond (.tmp 9) (.skip) (.exit 0)) (.seq (.block 1 (.seq (.region 1 [
    ⟨(some 10), .indexSl 5 (.tmp 6) (.tmp 8), none, 0, none⟩,
    ⟨(some 11), .load true 5 (.tmp 10), none, 0, none⟩,
    ⟨(some 5), .alloc [.int .i64 (0), .int .i64 (0), .int .i64 (0), .int .i64 (0), .int .i64 (0)], none, 0, none⟩,
    ⟨none, .store 5 (.tmp 5) (.tmp 11), none, 1, none⟩] []) (.seq (.seq (.region 4 [
    ⟨(some 12), .fieldAddr 0 (.tmp 5), none, 0, none⟩,
    ⟨(some 13), .load false 1 (.tmp 12), none, 0, none⟩,
    ⟨(some 14), .move (.tmp 3), none, 0, none⟩,
    ⟨(some 15), .bin .leq (.tmp 13) (.tmp 14), none, 0, none⟩,
    ⟨(some 16), .move (.tmp 15), none, 0, none⟩,
    ⟨(some 17), .fieldAddr 0 (.tmp 5), (some (16, false)), 0, none⟩,
    ⟨(some 18), .load false 1 (.tmp 17), (some (16, false)), 0, none⟩,
    ⟨(some 19), .bin .gtr (.tmp 18) (.const (.int .i64 (281474976710656))), (some (16, false)), 0, none⟩,
    ⟨(some 20), .pick (.tmp 16) (.const (.bool true)) (.tmp 19), none, 0, none⟩,
    ⟨(some 21), .move (.tmp 20), none, 0, none⟩,
    ⟨(some 22), .fieldAddr 1 (.tmp 5), (some (21, false)), 0, none⟩,
    ⟨(some 23), .load true 4 (.tmp 22), (some (21, false)), 0, none⟩,
    ⟨(some 24), .call (.func 86) [(false, (.tmp 23))] false 4, (some (21, false)), 0, none⟩,
    ⟨(some 25), .un .not (.tmp 24), (some (21, false)), 4, none⟩,
    ⟨(some 26), .pick (.tmp 21) (.const (.bool true)) (.tmp 25), none, 4, none⟩] []) (.cond (.tmp 26) (.seq (.region 0 [
    ⟨(some 2), .move (.const (.bool false)), none, 0, none⟩] []) (.ret)) (.skip))) (.region 0 [
    ⟨(some 27), .fieldAddr 0 (.tmp 5), none, 0, none⟩,
    ⟨(some 28), .load false 1 (.tmp 27), none, 0, none⟩,
    ⟨(some 3), .move (.tmp 28), none, 0, none⟩] [])))) (.region 0 [
    ⟨(some 29), .bin .add (.tmp 8) (.const (.int .i64 (1))), none, 0, none⟩,
    ⟨(some 8), .move (.tmp 29), none, 0, none⟩] []))))))) (.seq (.region 0 [
    ⟨(some 30), .move (.tmp 0), none, 0, none⟩,
    ⟨(some 31), .len (.tmp 30), none, 0, none⟩,
    ⟨(some 32), .bin .gtr (.tmp 31) (.const (.int .i64 (0))), none, 0, none⟩,
    ⟨(some 2), .move (.tmp 32), none, 0, none⟩] []) (.ret)))), [.tmp 2], true⟩
def s37 : Sig := ⟨(.cons (.v (.list .step)) .nil), [], ((.v .bool), []), []⟩
def l37_0 (g86 : Res → Option Bool) (al0 : (List Step)) (nx2 : ((Int × (Int × Unit)) × Unit) → Option Bool) (last3 : Int) (z4 : Int) : Option Bool :=
  cond (decide (z4 < (List.length al0 : Int)))
    (cond (decide (0 ≤ z4))
      (Option.bind (al0[Int.toNat z4]?) fun y5 =>
      cond (decide (y5.at_ ≤ last3))
        (some false)
        (cond (decide (281474976710656 < y5.at_))
          (some false)
          (Option.bind (g86 y5.free) fun r6 =>
          cond (!r6)
            (some false)
            (nx2 ((y5.at_, IntKind.wrap .i64 (z4 + 1), ()), ())))))
      (none))
    (some (decide (0 < (List.length al0 : Int))))
def F37 (L : Lp) (g86 : Res → Option Bool) (al0 : (List Step)) : Option Bool :=
  L (fun (s1 : ((Int × (Int × Unit)) × Unit)) nx2 => l37_0 g86 al0 nx2 s1.1.1 s1.1.2.1) (((-1), 0, ()), ())
theorem e37 (L : Lp) (g86 : Res → Option Bool) (x : s37.args.den) (h : denH s37.heap) : nrun [⟨86, s86, fun x h => g86 x.1⟩] L n37 s37 x h = F37 L g86 x.1 := by kernel_rfl
def f37 : (List Step) → Option Bool := F37 (@LN LOOPS) f86
@[reducible] def t37 : Ent := ⟨37, s37, fun x h => f37 x.1⟩
theorem k37 : chkNF Try.prog Try.f37 n37 = true := by kernel_rfl
theorem ok37 : NOk Try.prog t37 := NOk.body (T := [t86]) mixed (nall_cons ok86 nall_nil) (oneEach_of (by kernel_rfl)) Try.func37 k37 (by kernel_rfl) (fun x h => e37 _ _ x h)
/- drayage/steps.New -/
def n33 : NFunc := ⟨15, .seq (.region 1 [
    ⟨(some 3), .box 4 (.tmp 1), none, 0, none⟩,
    ⟨(some 4), .move (.const (.zsl)), none, 1, none⟩,
    ⟨(some 5), .move (.const (.int .i64 (0))), none, 1, none⟩] []) (.seq (.region 1 [
    ⟨(some 7), .move (.tmp 0), none, 0, none⟩,
    ⟨(some 8), .load true 4 (.tmp 3), none, 0, none⟩,
    ⟨(some 9), .build [.int .i64 (0), .int .i64 (0), .int .i64 (0), .int .i64 (0), .int .i64 (0)] [(0, 1, (.tmp 7)), (1, 4, (.tmp 8))], none, 0, none⟩,
    ⟨(some 10), .buildSlice 5 1 true [.int .i64 (0), .int .i64 (0), .int .i64 (0), .int .i64 (0), .int .i64 (0)] [(0, (.tmp 9))], none, 0, none⟩,
    ⟨(some 6), .move (.tmp 10), none, 1, none⟩] []) (.seq (.seq (.region 4 [
    ⟨(some 11), .move (.tmp 6), none, 0, none⟩,
    ⟨(some 12), .call (.func 37) [(false, (.tmp 11))] false 4, none, 0, none⟩,
    ⟨(some 13), .un .not (.tmp 12), none, 4, none⟩] []) (.cond (.tmp 13) (.seq (.region 0 [
    ⟨(some 4), .move (.const (.zsl)), none, 0, none⟩,
    ⟨(some 5), .move (.const (.int .i64 (2))), none, 0, none⟩] []) (.ret)) (.skip))) (.seq (.region 0 [
    ⟨(some 14), .move (.tmp 6), none, 0, none⟩,
    ⟨(some 4), .move (.tmp 14), none, 0, none⟩,
    ⟨(some 5), .move (.const (.int .i64 (0))), none, 0, none⟩] []) (.ret)))), [.tmp 4, .tmp 5], true⟩
def s33 : Sig := ⟨(.cons (.v (.int .i64)) (.cons (.v .res) .nil)), [], ((.tup (.cons (.v (.list .step)) (.cons (.v (.int .i64)) .nil))), []), []⟩
def F33 (L : Lp) (g37 : (List Step) → Option Bool) (at0 : Int) (free1 : Res) : Option ((List Step) × (Int × Unit)) :=
  Option.bind (g37 [Step.mk at0 free1]) fun r2 =>
  cond (!r2)
    (some ([], 2, ()))
    (some ([Step.mk at0 free1], 0, ()))
theorem e33 (L : Lp) (g37 : (List Step) → Option Bool) (x : s33.args.den) (h : denH s33.heap) : nrun [⟨37, s37, fun x h => g37 x.1⟩] L n33 s33 x h = F33 L g37 x.1 x.2.1 := by kernel_rfl
def f33 : Int → Res → Option ((List Step) × (Int × Unit)) := F33 (@LN LOOPS) f37
@[reducible] def t33 : Ent := ⟨33, s33, fun x h => f33 x.1 x.2.1⟩
theorem k33 : chkNF Try.prog Try.f33 n33 = true := by kernel_rfl
theorem ok33 : NOk Try.prog t33 := NOk.body (T := [t37]) mixed (nall_cons ok37 nall_nil) (oneEach_of (by kernel_rfl)) Try.func33 k33 (by kernel_rfl) (fun x h => e33 _ _ x h)
/- drayage/steps.find$1 -/
def n116 : NFunc := ⟨12, .seq (.region 0 [
    ⟨(some 4), .move (.const (.bool false)), none, 0, none⟩] []) (.seq (.region 0 [
    ⟨(some 5), .load false 1 (.tmp 1), none, 0, (some ([], none))⟩,
    ⟨(some 6), .move (.tmp 0), none, 0, (some ([], none))⟩,
    ⟨(some 7), .indexSl 5 (.tmp 5) (.tmp 6), none, 0, (some ([], none))⟩,
    ⟨(some 8), .fieldAddr 0 (.tmp 7), none, 0, (some ([], none))⟩,
    ⟨(some 9), .load false 1 (.tmp 8), none, 0, (some ([], none))⟩,
    ⟨(some 10), .load false 1 (.tmp 2), none, 0, (some ([], none))⟩,
    ⟨(some 11), .bin .gtr (.tmp 9) (.tmp 10), none, 0, (some ([], none))⟩,
    ⟨(some 4), .move (.tmp 11), none, 0, (some ([], none))⟩] []) (.ret)), [.tmp 4], true⟩
def s116 : Sig := ⟨(.cons (.v (.int .i64)) (.cons (.iptr (.cons (.v (.list .step)) .nil) 0) (.cons (.iptr (.cons (.v (.int .i64)) .nil) 0) .nil))), [], ((.v .bool), []), []⟩
def F116 (L : Lp)  (i0 : Int) (a1 : (List Step)) (a2 : Int) : Option Bool :=
  cond (decide (0 ≤ i0))
    (Option.bind (a1[Int.toNat i0]?) fun y3 =>
    some (decide (a2 < y3.at_)))
    (none)
theorem e116 (L : Lp)  (x : s116.args.den) (h : denH s116.heap) : nrun [] L n116 s116 x h = F116 L  x.1 x.2.1.1 x.2.2.1.1 := by kernel_rfl
def f116 : Int → (List Step) → Int → Option Bool := F116 (@LN LOOPS) 
@[reducible] def t116 : Ent := ⟨116, s116, fun x h => f116 x.1 x.2.1.1 x.2.2.1.1⟩
theorem k116 : chkNF Try.prog Try.f116 n116 = true := by kernel_rfl
theorem ok116 : NOk Try.prog t116 := NOk.body (T := []) mixed nall_nil (oneEach_of (by kernel_rfl)) Try.func116 k116 (by kernel_rfl) (fun x h => e116 _  x h)
/- sort.Search -/
def n115 : NFunc := ⟨26, .seq (.region 0 [
    ⟨(some 4), .move (.const (.int .i64 (0))), none, 0, none⟩] []) (.seq (.region 0 [
    ⟨(some 8), .move (.tmp 0), none, 0, none⟩,
    ⟨(some 5), .move (.const (.int .i64 (0))), none, 0, none⟩,
    ⟨(some 6), .move (.tmp 8), none, 0, none⟩] []) (.seq (.block 0 (.loop [1, 5, 6] ⟨[(5, (.v (.int .i64))), (6, (.v (.int .i64)))], [1], []⟩ (.seq (.seq (.region 0 [
    ⟨(some 9), .move (.tmp 5), none, 0, none⟩,
    ⟨(some 10), .move (.tmp 6), none, 0, none⟩,
    ⟨(some 11), .bin .lss (.tmp 9) (.tmp 10), none, 0, none⟩] []) (.cond (.tmp 11) (.skip) (.exit 0))) (.block 1 (.seq (.region 0 [
    ⟨(some 12), .move (.tmp 5), none, 0, none⟩,
    ⟨(some 13), .move (.tmp 6), none, 0, none⟩,
    ⟨(some 14), .bin .add (.tmp 12) (.tmp 13), none, 0, none⟩,
    ⟨(some 15), .conv .u64 (.tmp 14), none, 0, none⟩,
    ⟨(some 16), .bin .shr (.tmp 15) (.const (.int .u64 (1))), none, 0, none⟩,
    ⟨(some 17), .conv .i64 (.tmp 16), none, 0, none⟩,
    ⟨(some 7), .move (.tmp 17), none, 0, none⟩] []) (.seq (.region 4 [
    ⟨(some 18), .move (.tmp 1), none, 0, none⟩,
    ⟨(some 19), .move (.tmp 7), none, 0, none⟩,
    ⟨(some 20), .call (.tmp 18) [(false, (.tmp 19))] false 4, none, 0, none⟩,
    ⟨(some 21), .un .not (.tmp 20), none, 4, none⟩] []) (.cond (.tmp 21) (.region 0 [
    ⟨(some 22), .move (.tmp 7), none, 0, none⟩,
    ⟨(some 23), .bin .add (.tmp 22) (.const (.int .i64 (1))), none, 0, none⟩,
    ⟨(some 5), .move (.tmp 23), none, 0, none⟩] []) (.region 0 [
    ⟨(some 24), .move (.tmp 7), none, 0, none⟩,
    ⟨(some 6), .move (.tmp 24), none, 0, none⟩] [])))))))) (.seq (.region 0 [
    ⟨(some 25), .move (.tmp 5), none, 0, none⟩,
    ⟨(some 4), .move (.tmp 25), none, 0, none⟩] []) (.ret)))), [.tmp 4], true⟩
def s115 : Sig := ⟨(.cons (.v (.int .i64)) (.cons (.fn 116 (.cons (.iptr (.cons (.v (.list .step)) .nil) 0) (.cons (.iptr (.cons (.v (.int .i64)) .nil) 0) .nil))) .nil)), [], ((.v (.int .i64)), []), []⟩
def l115_0 (g116 : Int → (List Step) → Int → Option Bool) (af1 : (List Step)) (af2 : Int) (nx4 : ((Int × (Int × Unit)) × Unit) → Option Int) (i5 : Int) (j6 : Int) : Option Int :=
  cond (decide (i5 < j6))
    (let v7 := Int.fdiv (IntKind.wrap .u64 (IntKind.wrap .i64 (i5 + j6))) (2 ^ (min (Int.toNat 1) 64))
    Option.bind (g116 (IntKind.wrap .i64 (v7)) af1 af2) fun r8 =>
    cond (!r8)
      (nx4 ((IntKind.wrap .i64 ((IntKind.wrap .i64 (v7)) + 1), j6, ()), ()))
      (nx4 ((i5, IntKind.wrap .i64 (v7), ()), ())))
    (some i5)
def F115 (L : Lp) (g116 : Int → (List Step) → Int → Option Bool) (an0 : Int) (af1 : (List Step)) (af2 : Int) : Option Int :=
  L (fun (s3 : ((Int × (Int × Unit)) × Unit)) nx4 => l115_0 g116 af1 af2 nx4 s3.1.1 s3.1.2.1) ((0, an0, ()), ())
theorem e115 (L : Lp) (g116 : Int → (List Step) → Int → Option Bool) (x : s115.args.den) (h : denH s115.heap) : nrun [⟨116, s116, fun x h => g116 x.1 x.2.1.1 x.2.2.1.1⟩] L n115 s115 x h = F115 L g116 x.1 x.2.1.1.1 x.2.1.2.1.1 := by kernel_rfl
def f115 : Int → (List Step) → Int → Option Int := F115 (@LN LOOPS) f116
@[reducible] def t115 : Ent := ⟨115, s115, fun x h => f115 x.1 x.2.1.1.1 x.2.1.2.1.1⟩
theorem k115 : chkNF Try.prog Try.f115 n115 = true := by kernel_rfl
theorem ok115 : NOk Try.prog t115 := NOk.body (T := [t116]) mixed (nall_cons ok116 nall_nil) (oneEach_of (by kernel_rfl)) Try.func115 k115 (by kernel_rfl) (fun x h => e115 _ _ x h)
/- drayage/steps.find -/
def n87 : NFunc := ⟨10, .seq (.region 2 [
    ⟨(some 2), .box 1 (.tmp 0), none, 0, none⟩,
    ⟨(some 3), .box 1 (.tmp 1), none, 1, none⟩,
    ⟨(some 4), .move (.const (.int .i64 (0))), none, 2, none⟩] []) (.seq (.region 4 [
    ⟨(some 5), .load false 1 (.tmp 2), none, 0, none⟩,
    ⟨(some 6), .len (.tmp 5), none, 0, none⟩,
    ⟨(some 7), .makeFunc 116 [(.tmp 2), (.tmp 3)], none, 0, none⟩,
    ⟨(some 8), .call (.func 115) [(false, (.tmp 6)), (false, (.tmp 7))] false 4, none, 0, none⟩,
    ⟨(some 9), .bin .sub (.tmp 8) (.const (.int .i64 (1))), none, 4, none⟩,
    ⟨(some 4), .move (.tmp 9), none, 4, none⟩] []) (.ret)), [.tmp 4], true⟩
def s87 : Sig := ⟨(.cons (.v (.list .step)) (.cons (.v (.int .i64)) .nil)), [], ((.v (.int .i64)), []), []⟩
def F87 (L : Lp) (g115 : Int → (List Step) → Int → Option Int) (al0 : (List Step)) (at1 : Int) : Option Int :=
  Option.bind (g115 (List.length al0 : Int) al0 at1) fun r2 =>
  some (IntKind.wrap .i64 (r2 - 1))
theorem e87 (L : Lp) (g115 : Int → (List Step) → Int → Option Int) (x : s87.args.den) (h : denH s87.heap) : nrun [⟨115, s115, fun x h => g115 x.1 x.2.1.1.1 x.2.1.2.1.1⟩] L n87 s87 x h = F87 L g115 x.1 x.2.1 := by kernel_rfl
def f87 : (List Step) → Int → Option Int := F87 (@LN LOOPS) f115
@[reducible] def t87 : Ent := ⟨87, s87, fun x h => f87 x.1 x.2.1⟩
theorem k87 : chkNF Try.prog Try.f87 n87 = true := by kernel_rfl
theorem ok87 : NOk Try.prog t87 := NOk.body (T := [t115]) mixed (nall_cons ok115 nall_nil) (oneEach_of (by kernel_rfl)) Try.func87 k87 (by kernel_rfl) (fun x h => e87 _ _ x h)
/- slices.Clone[[]drayage/api.Step,drayage/api.Step] -/
def n128 : NFunc := ⟨8, .seq (.region 0 [
    ⟨(some 2), .move (.const (.zsl)), none, 0, none⟩] []) (.seq (.seq (.region 0 [
    ⟨(some 3), .move (.tmp 0), none, 0, none⟩,
    ⟨(some 4), .eqI false (.tmp 3) (.const (.zsl)), none, 0, none⟩] []) (.cond (.tmp 4) (.seq (.region 0 [
    ⟨(some 2), .move (.const (.zsl)), none, 0, none⟩] []) (.ret)) (.skip))) (.seq (.region 2 [
    ⟨(some 5), .buildSlice 5 0 true [.int .i64 (0), .int .i64 (0), .int .i64 (0), .int .i64 (0), .int .i64 (0)] [], none, 0, none⟩,
    ⟨(some 6), .move (.tmp 0), none, 1, none⟩,
    ⟨(some 7), .append 5 40 true (.tmp 5) (.tmp 6), none, 1, none⟩,
    ⟨(some 2), .move (.tmp 7), none, 2, none⟩] []) (.ret))), [.tmp 2], false⟩
def s128 : Sig := ⟨(.cons (.v (.list .step)) .nil), [], ((.slw 0 5), [.typed .step]), []⟩
def F128 (L : Lp)  (as0 : (List Step)) : Option (Unit × ((List Step) × Unit)) :=
  cond (List.isEmpty as0)
    (none)
    (cond (smallB (0 + (List.length as0)) 40)
      (some ((), ([] ++ as0, ())))
      (none))
theorem e128 (L : Lp)  (x : s128.args.den) (h : denH s128.heap) : nrun [] L n128 s128 x h = F128 L  x.1 := by kernel_rfl
def f128 : (List Step) → Option (Unit × ((List Step) × Unit)) := cloneF (F128 (@LN LOOPS))
@[reducible] def t128 : Ent := ⟨128, s128, fun x h => f128 x.1⟩
theorem k128 : chkNF Try.prog Try.f128 n128 = true := by kernel_rfl
theorem c128 (A : Option Addr) (c : Nat) (w : World) : Calls Try.prog 128 #[.slice A 0 c] w (fun e w' => ∃ A', e = .returned (.slice A' 0 0) ∧ Go.RowKit.Below w.heap.size w w') := by
  have hq := fun (u : World) => Lib.run_eql_slice_nil (P := Try.prog) u 52 65 A 0 c 0 0 Try.underlying52
  cases A with
  | none => (go_enter Try.func128, Try.ntmps128; go_wp2; go_ret; exact ⟨_, rfl, Go.RowKit.Below.refl _ _⟩)
  | some ad => (go_enter Try.func128, Try.ntmps128; go_wp2; go_ret; exact ⟨_, rfl, (Go.RowKit.Below.refl _ _).alloc (Nat.le_refl _) _⟩)
theorem b128 : NOk Try.prog ⟨128, s128, fun x h => F128 (@LN LOOPS) x.1⟩ := NOk.body (T := []) mixed nall_nil (oneEach_of (by kernel_rfl)) Try.func128 k128 (by kernel_rfl) (fun x h => e128 _  x h)
theorem ok128 : NOk Try.prog t128 := NOk.clone (t := .step) b128 (clone_empty .step b128.1 c128)
/- slices.Insert[[]drayage/api.Step,drayage/api.Step] -/
def s129 : Sig := ⟨(.cons (.slw 0 5) (.cons (.v (.int .i64)) (.cons (.slw 1 5) .nil))), [.typed .step, .typed .step], ((.slw 2 5), [.dead, .typed .step, .typed .step]), []⟩
def f129 : Int → (List Step) → (List Step) → Option (Unit × (Unit × ((List Step) × ((List Step) × Unit)))) := insertG 40
@[reducible] def t129 : Ent := ⟨129, s129, fun x h => f129 x.2.1 h.1 h.2.1⟩
theorem ok129 : NOk Try.prog t129 := ext129
/- drayage/steps.cut -/
def n118 : NFunc := ⟨32, .seq (.region 0 [
    ⟨(some 4), .move (.const (.zsl)), none, 0, none⟩] []) (.seq (.region 4 [
    ⟨(some 7), .move (.tmp 0), none, 0, none⟩,
    ⟨(some 8), .move (.tmp 1), none, 0, none⟩,
    ⟨(some 9), .call (.func 87) [(false, (.tmp 7)), (false, (.tmp 8))] false 4, none, 0, none⟩,
    ⟨(some 5), .move (.tmp 9), none, 4, none⟩] []) (.seq (.region 4 [
    ⟨(some 10), .move (.tmp 0), none, 0, none⟩,
    ⟨(some 11), .call (.func 128) [(false, (.tmp 10))] false 4, none, 0, none⟩,
    ⟨(some 6), .move (.tmp 11), none, 4, none⟩] []) (.seq (.seq (.region 0 [
    ⟨(some 12), .move (.tmp 0), none, 0, none⟩,
    ⟨(some 13), .move (.tmp 5), none, 0, none⟩,
    ⟨(some 14), .indexSl 5 (.tmp 12) (.tmp 13), none, 0, none⟩,
    ⟨(some 15), .fieldAddr 0 (.tmp 14), none, 0, none⟩,
    ⟨(some 16), .load false 1 (.tmp 15), none, 0, none⟩,
    ⟨(some 17), .move (.tmp 1), none, 0, none⟩,
    ⟨(some 18), .bin .eql (.tmp 16) (.tmp 17), none, 0, none⟩] []) (.cond (.tmp 18) (.seq (.region 0 [
    ⟨(some 19), .move (.tmp 6), none, 0, none⟩,
    ⟨(some 4), .move (.tmp 19), none, 0, none⟩] []) (.ret)) (.skip))) (.seq (.region 5 [
    ⟨(some 20), .move (.tmp 6), none, 0, none⟩,
    ⟨(some 21), .move (.tmp 5), none, 0, none⟩,
    ⟨(some 22), .bin .add (.tmp 21) (.const (.int .i64 (1))), none, 0, none⟩,
    ⟨(some 23), .move (.tmp 1), none, 0, none⟩,
    ⟨(some 24), .move (.tmp 0), none, 0, none⟩,
    ⟨(some 25), .move (.tmp 5), none, 0, none⟩,
    ⟨(some 26), .indexSl 5 (.tmp 24) (.tmp 25), none, 0, none⟩,
    ⟨(some 27), .fieldAddr 1 (.tmp 26), none, 0, none⟩,
    ⟨(some 28), .load true 4 (.tmp 27), none, 0, none⟩,
    ⟨(some 29), .build [.int .i64 (0), .int .i64 (0), .int .i64 (0), .int .i64 (0), .int .i64 (0)] [(0, 1, (.tmp 23)), (1, 4, (.tmp 28))], none, 0, none⟩,
    ⟨(some 30), .buildSlice 5 1 true [.int .i64 (0), .int .i64 (0), .int .i64 (0), .int .i64 (0), .int .i64 (0)] [(0, (.tmp 29))], none, 0, none⟩,
    ⟨(some 31), .call (.func 129) [(true, (.tmp 20)), (false, (.tmp 22)), (true, (.tmp 30))] false 4, none, 1, none⟩,
    ⟨(some 4), .move (.tmp 31), none, 5, none⟩] []) (.ret))))), [.tmp 4], false⟩
def s118 : Sig := ⟨(.cons (.v (.list .step)) (.cons (.v (.int .i64)) .nil)), [], ((.slw 0 5), [.typed .step]), []⟩
def F118 (L : Lp) (g87 : (List Step) → Int → Option Int) (g128 : (List Step) → Option (Unit × ((List Step) × Unit))) (g129 : Int → (List Step) → (List Step) → Option (Unit × (Unit × ((List Step) × ((List Step) × Unit))))) (al0 : (List Step)) (at1 : Int) : Option (Unit × ((List Step) × Unit)) :=
  Option.bind (g87 al0 at1) fun r2 =>
  Option.bind (g128 al0) fun r3 =>
  cond (decide (0 ≤ r2))
    (Option.bind (al0[Int.toNat r2]?) fun y4 =>
    cond (decide (y4.at_ = at1))
      (some ((), (r3.2.1, ())))
      (cond (decide (0 ≤ r2))
        (Option.bind (al0[Int.toNat r2]?) fun y5 =>
        Option.bind (g129 (IntKind.wrap .i64 (r2 + 1)) r3.2.1 [Step.mk at1 y5.free]) fun r6 =>
        cond (true && ((decide ((List.length r6.2.2.1) = 1)) && true))
          (some ((), (r6.2.2.2.1, ())))
          (none))
        (none)))
    (none)
theorem e118 (L : Lp) (g87 : (List Step) → Int → Option Int) (g128 : (List Step) → Option (Unit × ((List Step) × Unit))) (g129 : Int → (List Step) → (List Step) → Option (Unit × (Unit × ((List Step) × ((List Step) × Unit))))) (x : s118.args.den) (h : denH s118.heap) : nrun [⟨87, s87, fun x h => g87 x.1 x.2.1⟩, ⟨128, s128, fun x h => g128 x.1⟩, ⟨129, s129, fun x h => g129 x.2.1 h.1 h.2.1⟩] L n118 s118 x h = F118 L g87 g128 g129 x.1 x.2.1 := by kernel_rfl
def f118 : (List Step) → Int → Option (Unit × ((List Step) × Unit)) := F118 (@LN LOOPS) f87 f128 f129
@[reducible] def t118 : Ent := ⟨118, s118, fun x h => f118 x.1 x.2.1⟩
theorem k118 : chkNF Try.prog Try.f118 n118 = true := by kernel_rfl
theorem ok118 : NOk Try.prog t118 := NOk.body (T := [t87, t128, t129]) mixed (nall_cons ok87 (nall_cons ok128 (nall_cons ok129 nall_nil))) (oneEach_of (by kernel_rfl)) Try.func118 k118 (by kernel_rfl) (fun x h => e118 _ _ _ _ x h)
/- drayage/vec.Sub -/
def s92 : Sig := ⟨(.cons (.v .res) (.cons (.v .res) .nil)), [], ((.tup (.cons (.v .res) (.cons (.v (.int .i64)) .nil))), []), []⟩
def f92 : Res → Res → Option (Res × (Int × Unit)) := vecSub
@[reducible] def t92 : Ent := ⟨92, s92, fun x h => f92 x.1 x.2.1⟩
theorem ok92 : NOk Try.prog t92 := ext92
/- drayage/steps.Plain -/
def n41 : NFunc := ⟨40, .seq (.region 0 [
    ⟨(some 2), .move (.const (.zsl)), none, 0, none⟩] []) (.seq (.seq (.region 4 [
    ⟨(some 7), .move (.tmp 0), none, 0, none⟩,
    ⟨(some 8), .call (.func 37) [(false, (.tmp 7))] false 4, none, 0, none⟩,
    ⟨(some 9), .un .not (.tmp 8), none, 4, none⟩] []) (.cond (.tmp 9) (.seq (.region 0 [
    ⟨(some 2), .move (.const (.zsl)), none, 0, none⟩] []) (.ret)) (.skip))) (.seq (.region 1 [
    ⟨(some 10), .move (.tmp 0), none, 0, none⟩,
    ⟨(some 11), .indexSl 5 (.tmp 10) (.const (.int .i64 (0))), none, 0, none⟩,
    ⟨(some 12), .load true 5 (.tmp 11), none, 0, none⟩,
    ⟨(some 13), .buildSlice 5 1 true [.int .i64 (0), .int .i64 (0), .int .i64 (0), .int .i64 (0), .int .i64 (0)] [(0, (.tmp 12))], none, 0, none⟩,
    ⟨(some 3), .move (.tmp 13), none, 1, none⟩] []) (.seq (.seq (.region 0 [
    ⟨(some 14), .move (.tmp 0), none, 0, none⟩,
    ⟨(some 15), .slice 5 (.tmp 14) (some (.const (.int .i64 (1)))) none none, none, 0, none⟩,
    ⟨(some 16), .len (.tmp 15), none, 0, none⟩,
    ⟨(some 17), .move (.const (.int .i64 (0))), none, 0, none⟩] []) (.block 0 (.loop [3, 15, 16, 17] ⟨[(3, (.slw 0 5)), (17, (.v (.int .i64)))], [15, 16], [.typed .step]⟩ (.seq (.region 0 [
    ⟨(some 18), .bin .lss (.tmp 17) (.tmp 16), none, 0, none⟩] []) (.seq (.cond (.tmp 18) (.skip) (.exit 0)) (.seq (.block 1 (.seq (.region 1 [
    ⟨(some 19), .indexSl 5 (.tmp 15) (.tmp 17), none, 0, none⟩,
    ⟨(some 20), .load true 5 (.tmp 19), none, 0, none⟩,
    ⟨(some 5), .alloc [.int .i64 (0), .int .i64 (0), .int .i64 (0), .int .i64 (0), .int .i64 (0)], none, 0, none⟩,
    ⟨none, .store 5 (.tmp 5) (.tmp 20), none, 1, none⟩] []) (.seq (.region 1 [
    ⟨(some 21), .move (.tmp 3), none, 0, none⟩,
    ⟨(some 22), .move (.tmp 3), none, 0, none⟩,
    ⟨(some 23), .len (.tmp 22), none, 0, none⟩,
    ⟨(some 24), .bin .sub (.tmp 23) (.const (.int .i64 (1))), none, 0, none⟩,
    ⟨(some 25), .indexSl 5 (.tmp 21) (.tmp 24), none, 0, none⟩,
    ⟨(some 26), .load true 5 (.tmp 25), none, 0, none⟩,
    ⟨(some 6), .alloc [.int .i64 (0), .int .i64 (0), .int .i64 (0), .int .i64 (0), .int .i64 (0)], none, 0, none⟩,
    ⟨none, .store 5 (.tmp 6) (.tmp 26), none, 1, none⟩] []) (.seq (.region 0 [
    ⟨(some 27), .load true 5 (.tmp 5), none, 0, none⟩,
    ⟨(some 28), .fieldAddr 0 (.tmp 5), none, 0, none⟩,
    ⟨(some 29), .load false 1 (.tmp 28), none, 0, none⟩,
    ⟨(some 30), .fieldAddr 1 (.tmp 6), none, 0, none⟩,
    ⟨(some 31), .load true 4 (.tmp 30), none, 0, none⟩,
    ⟨(some 32), .build [.int .i64 (0), .int .i64 (0), .int .i64 (0), .int .i64 (0), .int .i64 (0)] [(0, 1, (.tmp 29)), (1, 4, (.tmp 31))], none, 0, none⟩,
    ⟨(some 33), .eqAgg (true, [.int .i64, .int .i64, .int .i64, .int .i64, .int .i64]) (.tmp 27) (.tmp 32), none, 0, none⟩] []) (.cond (.tmp 33) (.region 2 [
    ⟨(some 34), .move (.tmp 3), none, 0, none⟩,
    ⟨(some 35), .load true 5 (.tmp 5), none, 0, none⟩,
    ⟨(some 36), .buildSlice 5 1 true [.int .i64 (0), .int .i64 (0), .int .i64 (0), .int .i64 (0), .int .i64 (0)] [(0, (.tmp 35))], none, 0, none⟩,
    ⟨(some 37), .append 5 40 true (.tmp 34) (.tmp 36), none, 1, none⟩,
    ⟨(some 3), .move (.tmp 37), none, 2, none⟩] []) (.skip)))))) (.region 0 [
    ⟨(some 38), .bin .add (.tmp 17) (.const (.int .i64 (1))), none, 0, none⟩,
    ⟨(some 17), .move (.tmp 38), none, 0, none⟩] []))))))) (.seq (.region 0 [
    ⟨(some 39), .move (.tmp 3), none, 0, none⟩,
    ⟨(some 2), .move (.tmp 39), none, 0, none⟩] []) (.ret))))), [.tmp 2], true⟩
def s41 : Sig := ⟨(.cons (.v (.list .step)) .nil), [], ((.v (.list .step)), []), []⟩
def l41_0 (al0 : (List Step)) (nx4 : ((Unit × (Int × Unit)) × ((List Step) × Unit)) → Option (List Step)) (z5 : Int) (z6 : (List Step)) : Option (List Step) :=
  cond (decide (z5 < (List.length (List.drop 1 al0) : Int)))
    (cond (decide (0 ≤ z5))
      (Option.bind ((List.drop 1 al0)[Int.toNat z5]?) fun y7 =>
      cond (decide (0 ≤ (IntKind.wrap .i64 ((List.length z6 : Int) - 1))))
        (cond (decide ((Int.toNat (IntKind.wrap .i64 ((List.length z6 : Int) - 1))) < (List.length z6)))
          (Option.bind (z6[Int.toNat (IntKind.wrap .i64 ((List.length z6 : Int) - 1))]?) fun y8 =>
          cond (!((decide (y7.at_ = y7.at_)) && ((decide (y7.free.cpu = y8.free.cpu)) && ((decide (y7.free.mem = y8.free.mem)) && ((decide (y7.free.gpu = y8.free.gpu)) && ((decide (y7.free.lic = y8.free.lic)) && true))))))
            (cond (smallB ((List.length z6) + 1) 40)
              (nx4 (((), IntKind.wrap .i64 (z5 + 1), ()), (z6 ++ [y7], ())))
              (none))
            (nx4 (((), IntKind.wrap .i64 (z5 + 1), ()), (z6, ()))))
          (none))
        (none))
      (none))
    (some z6)
def F41 (L : Lp) (g37 : (List Step) → Option Bool) (al0 : (List Step)) : Option (List Step) :=
  Option.bind (g37 al0) fun r1 =>
  cond (!r1)
    (some [])
    (Option.bind (al0[0]?) fun y2 =>
    cond (decide (1 ≤ (List.length al0)))
      (L (fun (s3 : ((Unit × (Int × Unit)) × ((List Step) × Unit))) nx4 => l41_0 al0 nx4 s3.1.2.1 s3.2.1) (((), 0, ()), ([y2], ())))
      (none))
theorem e41 (L : Lp) (g37 : (List Step) → Option Bool) (x : s41.args.den) (h : denH s41.heap) : nrun [⟨37, s37, fun x h => g37 x.1⟩] L n41 s41 x h = F41 L g37 x.1 := by kernel_rfl
def f41 : (List Step) → Option (List Step) := F41 (@LN LOOPS) f37
@[reducible] def t41 : Ent := ⟨41, s41, fun x h => f41 x.1⟩
theorem k41 : chkNF Try.prog Try.f41 n41 = true := by kernel_rfl
theorem ok41 : NOk Try.prog t41 := NOk.body (T := [t37]) mixed (nall_cons ok37 nall_nil) (oneEach_of (by kernel_rfl)) Try.func41 k41 (by kernel_rfl) (fun x h => e41 _ _ x h)
/- drayage/steps.change -/
def n91 : NFunc := ⟨79, .seq (.region 1 [
    ⟨(some 8), .box 4 (.tmp 3), none, 0, none⟩,
    ⟨(some 10), .move (.const (.zsl)), none, 1, none⟩,
    ⟨(some 11), .move (.const (.int .i64 (0))), none, 1, none⟩] []) (.seq (.seq (.region 8 [
    ⟨(some 16), .move (.tmp 0), none, 0, none⟩,
    ⟨(some 17), .call (.func 37) [(false, (.tmp 16))] false 4, none, 0, none⟩,
    ⟨(some 18), .un .not (.tmp 17), none, 4, none⟩,
    ⟨(some 19), .move (.tmp 18), none, 4, none⟩,
    ⟨(some 20), .load true 4 (.tmp 8), (some (19, false)), 4, none⟩,
    ⟨(some 21), .call (.func 86) [(false, (.tmp 20))] false 4, (some (19, false)), 4, none⟩,
    ⟨(some 22), .un .not (.tmp 21), (some (19, false)), 8, none⟩,
    ⟨(some 23), .pick (.tmp 19) (.const (.bool true)) (.tmp 22), none, 8, none⟩,
    ⟨(some 24), .move (.tmp 23), none, 8, none⟩,
    ⟨(some 25), .move (.tmp 1), (some (24, false)), 8, none⟩,
    ⟨(some 26), .move (.tmp 0), (some (24, false)), 8, none⟩,
    ⟨(some 27), .indexSl 5 (.tmp 26) (.const (.int .i64 (0))), (some (24, false)), 8, none⟩,
    ⟨(some 28), .fieldAddr 0 (.tmp 27), (some (24, false)), 8, none⟩,
    ⟨(some 29), .load false 1 (.tmp 28), (some (24, false)), 8, none⟩,
    ⟨(some 30), .bin .lss (.tmp 25) (.tmp 29), (some (24, false)), 8, none⟩,
    ⟨(some 31), .pick (.tmp 24) (.const (.bool true)) (.tmp 30), none, 8, none⟩,
    ⟨(some 32), .move (.tmp 31), none, 8, none⟩,
    ⟨(some 33), .move (.tmp 2), (some (32, false)), 8, none⟩,
    ⟨(some 34), .move (.tmp 1), (some (32, false)), 8, none⟩,
    ⟨(some 35), .bin .leq (.tmp 33) (.tmp 34), (some (32, false)), 8, none⟩,
    ⟨(some 36), .pick (.tmp 32) (.const (.bool true)) (.tmp 35), none, 8, none⟩,
    ⟨(some 37), .move (.tmp 36), none, 8, none⟩,
    ⟨(some 38), .move (.tmp 2), (some (37, false)), 8, none⟩,
    ⟨(some 39), .bin .gtr (.tmp 38) (.const (.int .i64 (281474976710656))), (some (37, false)), 8, none⟩,
    ⟨(some 40), .pick (.tmp 37) (.const (.bool true)) (.tmp 39), none, 8, none⟩] []) (.cond (.tmp 40) (.seq (.region 0 [
    ⟨(some 10), .move (.const (.zsl)), none, 0, none⟩,
    ⟨(some 11), .move (.const (.int .i64 (2))), none, 0, none⟩] []) (.ret)) (.skip))) (.seq (.region 8 [
    ⟨(some 41), .move (.tmp 0), none, 0, none⟩,
    ⟨(some 42), .move (.tmp 1), none, 0, none⟩,
    ⟨(some 43), .call (.func 118) [(false, (.tmp 41)), (false, (.tmp 42))] false 4, none, 0, none⟩,
    ⟨(some 44), .move (.tmp 2), none, 4, none⟩,
    ⟨(some 45), .call (.func 118) [(false, (.tmp 43)), (false, (.tmp 44))] false 4, none, 4, none⟩,
    ⟨(some 12), .move (.tmp 45), none, 8, none⟩] []) (.seq (.seq (.region 4 [
    ⟨(some 46), .move (.tmp 12), none, 0, none⟩,
    ⟨(some 47), .move (.tmp 1), none, 0, none⟩,
    ⟨(some 48), .call (.func 87) [(false, (.tmp 46)), (false, (.tmp 47))] false 4, none, 0, none⟩,
    ⟨(some 13), .move (.tmp 48), none, 4, none⟩] []) (.block 0 (.loop [2, 4, 8, 12, 13] ⟨[(8, (.ptr 0 0 0)), (12, (.slw 1 5)), (13, (.v (.int .i64)))], [2, 4], [.one false .res, .typed .step]⟩ (.seq (.seq (.region 0 [
    ⟨(some 49), .move (.tmp 12), none, 0, none⟩,
    ⟨(some 50), .move (.tmp 13), none, 0, none⟩,
    ⟨(some 51), .indexSl 5 (.tmp 49) (.tmp 50), none, 0, none⟩,
    ⟨(some 52), .fieldAddr 0 (.tmp 51), none, 0, none⟩,
    ⟨(some 53), .load false 1 (.tmp 52), none, 0, none⟩,
    ⟨(some 54), .move (.tmp 2), none, 0, none⟩,
    ⟨(some 55), .bin .lss (.tmp 53) (.tmp 54), none, 0, none⟩] []) (.cond (.tmp 55) (.skip) (.exit 0))) (.seq (.block 1 (.seq (.region 5 [
    ⟨(some 59), .move (.tmp 4), none, 0, (some ([], none))⟩,
    ⟨(some 60), .move (.tmp 12), none, 0, (some ([], none))⟩,
    ⟨(some 61), .move (.tmp 13), none, 0, (some ([], none))⟩,
    ⟨(some 62), .indexSl 5 (.tmp 60) (.tmp 61), none, 0, (some ([], none))⟩,
    ⟨(some 63), .fieldAddr 1 (.tmp 62), none, 0, (some ([], none))⟩,
    ⟨(some 64), .load true 4 (.tmp 63), none, 0, (some ([], none))⟩,
    ⟨(some 65), .load true 4 (.tmp 8), none, 0, (some ([], none))⟩,
    ⟨(some 66), .call (.tmp 59) [(false, (.tmp 64)), (false, (.tmp 65))] true 4, none, 0, (some ([], none))⟩,
    ⟨(some 58), .move (.tmp 66), none, 4, (some ([0, 1, 2, 3], none))⟩,
    ⟨(some 67), .extract (.tmp 58) 0, none, 4, (some ([0, 1, 2, 3], none))⟩,
    ⟨(some 68), .extract (.tmp 58) 1, none, 4, (some ([0, 1, 2, 3], none))⟩,
    ⟨(some 14), .alloc [.int .i64 (0), .int .i64 (0), .int .i64 (0), .int .i64 (0)], none, 4, (some ([], none))⟩,
    ⟨none, .store 4 (.tmp 14) (.tmp 67), none, 5, (some ([0, 1, 2, 3, 4], none))⟩,
    ⟨(some 15), .move (.tmp 68), none, 5, (some ([0, 1, 2, 3, 4], none))⟩] []) (.seq (.seq (.region 0 [
    ⟨(some 69), .move (.tmp 15), none, 0, none⟩,
    ⟨(some 70), .bin .neq (.tmp 69) (.const (.int .i64 (0))), none, 0, none⟩] []) (.cond (.tmp 70) (.seq (.region 0 [
    ⟨(some 71), .move (.tmp 15), none, 0, none⟩,
    ⟨(some 10), .move (.const (.zsl)), none, 0, none⟩,
    ⟨(some 11), .move (.tmp 71), none, 0, none⟩] []) (.ret)) (.skip))) (.region 0 [
    ⟨(some 72), .move (.tmp 12), none, 0, none⟩,
    ⟨(some 73), .move (.tmp 13), none, 0, none⟩,
    ⟨(some 74), .load true 4 (.tmp 14), none, 0, none⟩,
    ⟨(some 75), .indexSl 5 (.tmp 72) (.tmp 73), none, 0, none⟩,
    ⟨(some 76), .fieldAddr 1 (.tmp 75), none, 0, none⟩,
    ⟨none, .store 4 (.tmp 76) (.tmp 74), none, 0, none⟩] [])))) (.region 0 [
    ⟨(some 56), .move (.tmp 13), none, 0, none⟩,
    ⟨(some 57), .bin .add (.tmp 56) (.const (.int .i64 (1))), none, 0, none⟩,
    ⟨(some 13), .move (.tmp 57), none, 0, none⟩] [])))))) (.seq (.region 4 [
    ⟨(some 77), .move (.tmp 12), none, 0, none⟩,
    ⟨(some 78), .call (.func 41) [(false, (.tmp 77))] false 4, none, 0, none⟩,
    ⟨(some 10), .move (.tmp 78), none, 4, none⟩,
    ⟨(some 11), .move (.const (.int .i64 (0))), none, 4, none⟩] []) (.ret))))), [.tmp 10, .tmp 11], true⟩
def s91 : Sig := ⟨(.cons (.v (.list .step)) (.cons (.v (.int .i64)) (.cons (.v (.int .i64)) (.cons (.v .res) (.cons (.fn 92 .nil) .nil))))), [], ((.tup (.cons (.v (.list .step)) (.cons (.v (.int .i64)) .nil))), []), []⟩
def l91_0 (g92 : Res → Res → Option (Res × (Int × Unit))) (g41 : (List Step) → Option (List Step)) (to2 : Int) (nx11 : ((Unit × (Unit × (Int × Unit))) × (Res × ((List Step) × Unit))) → Option ((List Step) × (Int × Unit))) (i12 : Int) (z13 : Res) (z14 : (List Step)) : Option ((List Step) × (Int × Unit)) :=
  cond (decide (0 ≤ i12))
    (cond (decide ((Int.toNat i12) < (List.length z14)))
      (Option.bind (z14[Int.toNat i12]?) fun y15 =>
      cond (decide (y15.at_ < to2))
        (cond (decide (0 ≤ i12))
          (cond (decide ((Int.toNat i12) < (List.length z14)))
            (Option.bind (z14[Int.toNat i12]?) fun y16 =>
            Option.bind (g92 y16.free z13) fun r17 =>
            cond (!decide (r17.2.1 = 0))
              (some ([], r17.2.1, ()))
              (cond (decide (0 ≤ i12))
                (cond (decide ((Int.toNat i12) < (List.length z14)))
                  (Option.bind (z14[Int.toNat i12]?) fun y18 =>
                  nx11 (((), (), IntKind.wrap .i64 (i12 + 1), ()), (z13, List.set z14 (Int.toNat i12) (Step.mk y18.at_ r17.1), ())))
                  (none))
                (none)))
            (none))
          (none))
        (Option.bind (g41 z14) fun r19 =>
        some (r19, 0, ())))
      (none))
    (none)
def F91 (L : Lp) (g37 : (List Step) → Option Bool) (g86 : Res → Option Bool) (g118 : (List Step) → Int → Option (Unit × ((List Step) × Unit))) (g87 : (List Step) → Int → Option Int) (g92 : Res → Res → Option (Res × (Int × Unit))) (g41 : (List Step) → Option (List Step)) (al0 : (List Step)) (from1 : Int) (to2 : Int) (need3 : Res) : Option ((List Step) × (Int × Unit)) :=
  Option.bind (g37 al0) fun r4 =>
  cond (!r4)
    (some ([], 2, ()))
    (Option.bind (g86 need3) fun r5 =>
    cond (!r5)
      (some ([], 2, ()))
      (Option.bind (al0[0]?) fun y6 =>
      cond (decide (from1 < y6.at_))
        (some ([], 2, ()))
        (cond (decide (to2 ≤ from1))
          (some ([], 2, ()))
          (cond (decide (281474976710656 < to2))
            (some ([], 2, ()))
            (Option.bind (g118 al0 from1) fun r7 =>
            Option.bind (g118 r7.2.1 to2) fun r8 =>
            Option.bind (g87 r8.2.1 from1) fun r9 =>
            L (fun (s10 : ((Unit × (Unit × (Int × Unit))) × (Res × ((List Step) × Unit)))) nx11 => l91_0 g92 g41 to2 nx11 s10.1.2.2.1 s10.2.1 s10.2.2.1) (((), (), r9, ()), (need3, r8.2.1, ())))))))
theorem e91 (L : Lp) (g37 : (List Step) → Option Bool) (g86 : Res → Option Bool) (g118 : (List Step) → Int → Option (Unit × ((List Step) × Unit))) (g87 : (List Step) → Int → Option Int) (g92 : Res → Res → Option (Res × (Int × Unit))) (g41 : (List Step) → Option (List Step)) (x : s91.args.den) (h : denH s91.heap) : nrun [⟨37, s37, fun x h => g37 x.1⟩, ⟨86, s86, fun x h => g86 x.1⟩, ⟨118, s118, fun x h => g118 x.1 x.2.1⟩, ⟨87, s87, fun x h => g87 x.1 x.2.1⟩, ⟨92, s92, fun x h => g92 x.1 x.2.1⟩, ⟨41, s41, fun x h => g41 x.1⟩] L n91 s91 x h = F91 L g37 g86 g118 g87 g92 g41 x.1 x.2.1 x.2.2.1 x.2.2.2.1 := by kernel_rfl
def f91 : (List Step) → Int → Int → Res → Option ((List Step) × (Int × Unit)) := F91 (@LN LOOPS) f37 f86 f118 f87 f92 f41
@[reducible] def t91 : Ent := ⟨91, s91, fun x h => f91 x.1 x.2.1 x.2.2.1 x.2.2.2.1⟩
theorem k91 : chkNF Try.prog Try.f91 n91 = true := by kernel_rfl
theorem ok91 : NOk Try.prog t91 := NOk.body (T := [t37, t86, t118, t87, t92, t41]) mixed (nall_cons ok37 (nall_cons ok86 (nall_cons ok118 (nall_cons ok87 (nall_cons ok92 (nall_cons ok41 nall_nil)))))) (oneEach_of (by kernel_rfl)) Try.func91 k91 (by kernel_rfl) (fun x h => e91 _ _ _ _ _ _ _ x h)
/- drayage/steps.Take -/
def n44 : NFunc := ⟨17, .seq (.region 1 [
    ⟨(some 7), .box 4 (.tmp 3), none, 0, none⟩,
    ⟨(some 8), .move (.const (.zsl)), none, 1, none⟩,
    ⟨(some 9), .move (.const (.int .i64 (0))), none, 1, none⟩] []) (.seq (.region 4 [
    ⟨(some 10), .move (.tmp 0), none, 0, none⟩,
    ⟨(some 11), .move (.tmp 1), none, 0, none⟩,
    ⟨(some 12), .move (.tmp 2), none, 0, none⟩,
    ⟨(some 13), .load true 4 (.tmp 7), none, 0, none⟩,
    ⟨(some 14), .call (.func 91) [(false, (.tmp 10)), (false, (.tmp 11)), (false, (.tmp 12)), (false, (.tmp 13)), (false, (.func 92))] false 4, none, 0, none⟩,
    ⟨(some 15), .extract (.tmp 14) 0, none, 4, none⟩,
    ⟨(some 16), .extract (.tmp 14) 1, none, 4, none⟩,
    ⟨(some 8), .move (.tmp 15), none, 4, none⟩,
    ⟨(some 9), .move (.tmp 16), none, 4, none⟩] []) (.ret)), [.tmp 8, .tmp 9], true⟩
def s44 : Sig := ⟨(.cons (.v (.list .step)) (.cons (.v (.int .i64)) (.cons (.v (.int .i64)) (.cons (.v .res) .nil)))), [], ((.tup (.cons (.v (.list .step)) (.cons (.v (.int .i64)) .nil))), []), []⟩
def F44 (L : Lp) (g91 : (List Step) → Int → Int → Res → Option ((List Step) × (Int × Unit))) (al0 : (List Step)) (from1 : Int) (to2 : Int) (need3 : Res) : Option ((List Step) × (Int × Unit)) :=
  Option.bind (g91 al0 from1 to2 need3) fun r4 =>
  some (r4.1, r4.2.1, ())
theorem e44 (L : Lp) (g91 : (List Step) → Int → Int → Res → Option ((List Step) × (Int × Unit))) (x : s44.args.den) (h : denH s44.heap) : nrun [⟨91, s91, fun x h => g91 x.1 x.2.1 x.2.2.1 x.2.2.2.1⟩] L n44 s44 x h = F44 L g91 x.1 x.2.1 x.2.2.1 x.2.2.2.1 := by kernel_rfl
def f44 : (List Step) → Int → Int → Res → Option ((List Step) × (Int × Unit)) := F44 (@LN LOOPS) f91
@[reducible] def t44 : Ent := ⟨44, s44, fun x h => f44 x.1 x.2.1 x.2.2.1 x.2.2.2.1⟩
theorem k44 : chkNF Try.prog Try.f44 n44 = true := by kernel_rfl
theorem ok44 : NOk Try.prog t44 := NOk.body (T := [t91]) mixed (nall_cons ok91 nall_nil) (oneEach_of (by kernel_rfl)) Try.func44 k44 (by kernel_rfl) (fun x h => e44 _ _ x h)
/- drayage/drayageref10.Same -/
def n32 : NFunc := ⟨26, .seq (.region 0 [
    ⟨(some 4), .move (.const (.bool false)), none, 0, none⟩] []) (.seq (.seq (.region 0 [
    ⟨(some 6), .move (.tmp 0), none, 0, none⟩,
    ⟨(some 7), .len (.tmp 6), none, 0, none⟩,
    ⟨(some 8), .move (.tmp 1), none, 0, none⟩,
    ⟨(some 9), .len (.tmp 8), none, 0, none⟩,
    ⟨(some 10), .bin .neq (.tmp 7) (.tmp 9), none, 0, none⟩] []) (.cond (.tmp 10) (.seq (.region 0 [
    ⟨(some 4), .move (.const (.bool false)), none, 0, none⟩] []) (.ret)) (.skip))) (.seq (.seq (.region 0 [
    ⟨(some 5), .move (.const (.int .i64 (0))), none, 0, none⟩] []) (.block 0 (.loop [0, 1, 5] ⟨[(5, (.v (.int .i64)))], [0, 1], []⟩ (.seq (.seq (.region 0 [
    ⟨(some 11), .move (.tmp 5), none, 0, none⟩,
    ⟨(some 12), .move (.tmp 0), none, 0, none⟩,
    ⟨(some 13), .len (.tmp 12), none, 0, none⟩,
    ⟨(some 14), .bin .lss (.tmp 11) (.tmp 13), none, 0, none⟩] []) (.cond (.tmp 14) (.skip) (.exit 0))) (.seq (.block 1 (.seq (.region 0 [
    ⟨(some 17), .move (.tmp 0), none, 0, (some ([], none))⟩,
    ⟨(some 18), .move (.tmp 5), none, 0, (some ([], none))⟩,
    ⟨(some 19), .indexSl 5 (.tmp 17) (.tmp 18), none, 0, (some ([], none))⟩,
    ⟨(some 20), .load true 5 (.tmp 19), none, 0, (some ([], none))⟩,
    ⟨(some 21), .move (.tmp 1), none, 0, (some ([], none))⟩,
    ⟨(some 22), .move (.tmp 5), none, 0, (some ([], none))⟩,
    ⟨(some 23), .indexSl 5 (.tmp 21) (.tmp 22), none, 0, (some ([], none))⟩,
    ⟨(some 24), .load true 5 (.tmp 23), none, 0, (some ([], none))⟩,
    ⟨(some 25), .eqAgg (true, [.int .i64, .int .i64, .int .i64, .int .i64, .int .i64]) (.tmp 20) (.tmp 24), none, 0, (some ([], none))⟩] []) (.cond (.tmp 25) (.seq (.region 0 [
    ⟨(some 4), .move (.const (.bool false)), none, 0, none⟩] []) (.ret)) (.skip)))) (.region 0 [
    ⟨(some 15), .move (.tmp 5), none, 0, none⟩,
    ⟨(some 16), .bin .add (.tmp 15) (.const (.int .i64 (1))), none, 0, none⟩,
    ⟨(some 5), .move (.tmp 16), none, 0, none⟩] [])))))) (.seq (.region 0 [
    ⟨(some 4), .move (.const (.bool true)), none, 0, none⟩] []) (.ret)))), [.tmp 4], true⟩
def s32 : Sig := ⟨(.cons (.v (.list .step)) (.cons (.v (.list .step)) .nil)), [], ((.v .bool), []), []⟩
def l32_0 (a0 : (List Step)) (b1 : (List Step)) (nx3 : ((Int × Unit) × Unit) → Option Bool) (i4 : Int) : Option Bool :=
  cond (decide (i4 < (List.length a0 : Int)))
    (cond (decide (0 ≤ i4))
      (Option.bind (a0[Int.toNat i4]?) fun y5 =>
      cond (decide (0 ≤ i4))
        (Option.bind (b1[Int.toNat i4]?) fun y6 =>
        cond (!((decide (y5.at_ = y6.at_)) && ((decide (y5.free.cpu = y6.free.cpu)) && ((decide (y5.free.mem = y6.free.mem)) && ((decide (y5.free.gpu = y6.free.gpu)) && ((decide (y5.free.lic = y6.free.lic)) && true))))))
          (some false)
          (nx3 ((IntKind.wrap .i64 (i4 + 1), ()), ())))
        (none))
      (none))
    (some true)
def F32 (L : Lp)  (a0 : (List Step)) (b1 : (List Step)) : Option Bool :=
  cond (!decide ((List.length a0 : Int) = (List.length b1 : Int)))
    (some false)
    (L (fun (s2 : ((Int × Unit) × Unit)) nx3 => l32_0 a0 b1 nx3 s2.1.1) ((0, ()), ()))
theorem e32 (L : Lp)  (x : s32.args.den) (h : denH s32.heap) : nrun [] L n32 s32 x h = F32 L  x.1 x.2.1 := by kernel_rfl
def f32 : (List Step) → (List Step) → Option Bool := F32 (@LN LOOPS) 
@[reducible] def t32 : Ent := ⟨32, s32, fun x h => f32 x.1 x.2.1⟩
theorem k32 : chkNF Try.prog Try.f32 n32 = true := by kernel_rfl
theorem ok32 : NOk Try.prog t32 := NOk.body (T := []) mixed nall_nil (oneEach_of (by kernel_rfl)) Try.func32 k32 (by kernel_rfl) (fun x h => e32 _  x h)
/- drayage/vec.Least -/
def n88 : NFunc := ⟨26, .seq (.region 3 [
    ⟨(some 2), .box 4 (.tmp 0), none, 0, none⟩,
    ⟨(some 3), .box 4 (.tmp 1), none, 1, none⟩,
    ⟨(some 4), .alloc [.int .i64 (0), .int .i64 (0), .int .i64 (0), .int .i64 (0)], none, 2, none⟩] []) (.seq (.region 0 [
    ⟨(some 5), .fieldAddr 0 (.tmp 2), none, 0, none⟩,
    ⟨(some 6), .load false 1 (.tmp 5), none, 0, none⟩,
    ⟨(some 7), .fieldAddr 0 (.tmp 3), none, 0, none⟩,
    ⟨(some 8), .load false 1 (.tmp 7), none, 0, none⟩,
    ⟨(some 9), .minmax false (.tmp 6) (.tmp 8), none, 0, none⟩,
    ⟨(some 10), .fieldAddr 1 (.tmp 2), none, 0, none⟩,
    ⟨(some 11), .load false 1 (.tmp 10), none, 0, none⟩,
    ⟨(some 12), .fieldAddr 1 (.tmp 3), none, 0, none⟩,
    ⟨(some 13), .load false 1 (.tmp 12), none, 0, none⟩,
    ⟨(some 14), .minmax false (.tmp 11) (.tmp 13), none, 0, none⟩,
    ⟨(some 15), .fieldAddr 2 (.tmp 2), none, 0, none⟩,
    ⟨(some 16), .load false 1 (.tmp 15), none, 0, none⟩,
    ⟨(some 17), .fieldAddr 2 (.tmp 3), none, 0, none⟩,
    ⟨(some 18), .load false 1 (.tmp 17), none, 0, none⟩,
    ⟨(some 19), .minmax false (.tmp 16) (.tmp 18), none, 0, none⟩,
    ⟨(some 20), .fieldAddr 3 (.tmp 2), none, 0, none⟩,
    ⟨(some 21), .load false 1 (.tmp 20), none, 0, none⟩,
    ⟨(some 22), .fieldAddr 3 (.tmp 3), none, 0, none⟩,
    ⟨(some 23), .load false 1 (.tmp 22), none, 0, none⟩,
    ⟨(some 24), .minmax false (.tmp 21) (.tmp 23), none, 0, none⟩,
    ⟨(some 25), .build [.int .i64 (0), .int .i64 (0), .int .i64 (0), .int .i64 (0)] [(0, 1, (.tmp 9)), (1, 1, (.tmp 14)), (2, 1, (.tmp 19)), (3, 1, (.tmp 24))], none, 0, none⟩,
    ⟨none, .store 4 (.tmp 4) (.tmp 25), none, 0, none⟩] []) (.ret)), [.cell true 4 4], true⟩
def s88 : Sig := ⟨(.cons (.v .res) (.cons (.v .res) .nil)), [], ((.v .res), []), []⟩
def F88 (L : Lp)  (a0 : Res) (b1 : Res) : Option Res :=
  some (Res.mk (if b1.cpu < a0.cpu then b1.cpu else a0.cpu) (if b1.mem < a0.mem then b1.mem else a0.mem) (if b1.gpu < a0.gpu then b1.gpu else a0.gpu) (if b1.lic < a0.lic then b1.lic else a0.lic))
theorem e88 (L : Lp)  (x : s88.args.den) (h : denH s88.heap) : nrun [] L n88 s88 x h = F88 L  x.1 x.2.1 := by kernel_rfl
def f88 : Res → Res → Option Res := F88 (@LN LOOPS) 
@[reducible] def t88 : Ent := ⟨88, s88, fun x h => f88 x.1 x.2.1⟩
theorem k88 : chkNF Try.prog Try.f88 n88 = true := by kernel_rfl
theorem ok88 : NOk Try.prog t88 := NOk.body (T := []) mixed nall_nil (oneEach_of (by kernel_rfl)) Try.func88 k88 (by kernel_rfl) (fun x h => e88 _  x h)
/- drayage/steps.Least -/
def n38 : NFunc := ⟨55, .seq (.region 1 [
    ⟨(some 6), .alloc [.int .i64 (0), .int .i64 (0), .int .i64 (0), .int .i64 (0)], none, 0, none⟩] []) (.seq (.seq (.region 4 [
    ⟨(some 11), .move (.tmp 0), none, 0, none⟩,
    ⟨(some 12), .call (.func 37) [(false, (.tmp 11))] false 4, none, 0, none⟩,
    ⟨(some 13), .un .not (.tmp 12), none, 4, none⟩,
    ⟨(some 14), .move (.tmp 13), none, 4, none⟩,
    ⟨(some 15), .move (.tmp 1), (some (14, false)), 4, none⟩,
    ⟨(some 16), .move (.tmp 0), (some (14, false)), 4, none⟩,
    ⟨(some 17), .indexSl 5 (.tmp 16) (.const (.int .i64 (0))), (some (14, false)), 4, none⟩,
    ⟨(some 18), .fieldAddr 0 (.tmp 17), (some (14, false)), 4, none⟩,
    ⟨(some 19), .load false 1 (.tmp 18), (some (14, false)), 4, none⟩,
    ⟨(some 20), .bin .lss (.tmp 15) (.tmp 19), (some (14, false)), 4, none⟩,
    ⟨(some 21), .pick (.tmp 14) (.const (.bool true)) (.tmp 20), none, 4, none⟩,
    ⟨(some 22), .move (.tmp 21), none, 4, none⟩,
    ⟨(some 23), .move (.tmp 2), (some (22, false)), 4, none⟩,
    ⟨(some 24), .move (.tmp 1), (some (22, false)), 4, none⟩,
    ⟨(some 25), .bin .leq (.tmp 23) (.tmp 24), (some (22, false)), 4, none⟩,
    ⟨(some 26), .pick (.tmp 22) (.const (.bool true)) (.tmp 25), none, 4, none⟩] []) (.cond (.tmp 26) (.seq (.region 0 [
    ⟨(some 27), .build [.int .i64 (0), .int .i64 (0), .int .i64 (0), .int .i64 (0)] [], none, 0, none⟩,
    ⟨none, .store 4 (.tmp 6) (.tmp 27), none, 0, none⟩] []) (.ret)) (.skip))) (.seq (.region 4 [
    ⟨(some 28), .move (.tmp 0), none, 0, none⟩,
    ⟨(some 29), .move (.tmp 1), none, 0, none⟩,
    ⟨(some 30), .call (.func 87) [(false, (.tmp 28)), (false, (.tmp 29))] false 4, none, 0, none⟩,
    ⟨(some 7), .move (.tmp 30), none, 4, none⟩] []) (.seq (.region 1 [
    ⟨(some 31), .move (.tmp 0), none, 0, none⟩,
    ⟨(some 32), .move (.tmp 7), none, 0, none⟩,
    ⟨(some 33), .indexSl 5 (.tmp 31) (.tmp 32), none, 0, none⟩,
    ⟨(some 34), .fieldAddr 1 (.tmp 33), none, 0, none⟩,
    ⟨(some 35), .load true 4 (.tmp 34), none, 0, none⟩,
    ⟨(some 8), .alloc [.int .i64 (0), .int .i64 (0), .int .i64 (0), .int .i64 (0)], none, 0, none⟩,
    ⟨none, .store 4 (.tmp 8) (.tmp 35), none, 1, none⟩] []) (.seq (.seq (.region 0 [
    ⟨(some 36), .move (.tmp 0), none, 0, none⟩,
    ⟨(some 37), .move (.tmp 7), none, 0, none⟩,
    ⟨(some 38), .bin .add (.tmp 37) (.const (.int .i64 (1))), none, 0, none⟩,
    ⟨(some 39), .slice 5 (.tmp 36) (some (.tmp 38)) none none, none, 0, none⟩,
    ⟨(some 40), .len (.tmp 39), none, 0, none⟩,
    ⟨(some 41), .move (.const (.int .i64 (0))), none, 0, none⟩] []) (.block 0 (.loop [2, 6, 8, 39, 40, 41] ⟨[(6, (.ptr 0 0 0)), (8, (.ptr 1 0 0)), (41, (.v (.int .i64)))], [2, 39, 40], [.one false .res, .one false .res]⟩ (.seq (.region 0 [
    ⟨(some 42), .bin .lss (.tmp 41) (.tmp 40), none, 0, none⟩] []) (.seq (.cond (.tmp 42) (.skip) (.exit 0)) (.seq (.block 1 (.seq (.region 1 [
    ⟨(some 43), .indexSl 5 (.tmp 39) (.tmp 41), none, 0, none⟩,
    ⟨(some 44), .load true 5 (.tmp 43), none, 0, none⟩,
    ⟨(some 10), .alloc [.int .i64 (0), .int .i64 (0), .int .i64 (0), .int .i64 (0), .int .i64 (0)], none, 0, none⟩,
    ⟨none, .store 5 (.tmp 10) (.tmp 44), none, 1, none⟩] []) (.seq (.seq (.region 0 [
    ⟨(some 45), .fieldAddr 0 (.tmp 10), none, 0, none⟩,
    ⟨(some 46), .load false 1 (.tmp 45), none, 0, none⟩,
    ⟨(some 47), .move (.tmp 2), none, 0, none⟩,
    ⟨(some 48), .bin .geq (.tmp 46) (.tmp 47), none, 0, none⟩] []) (.cond (.tmp 48) (.exit 0) (.skip))) (.region 4 [
    ⟨(some 49), .load true 4 (.tmp 8), none, 0, none⟩,
    ⟨(some 50), .fieldAddr 1 (.tmp 10), none, 0, none⟩,
    ⟨(some 51), .load true 4 (.tmp 50), none, 0, none⟩,
    ⟨(some 52), .call (.func 88) [(false, (.tmp 49)), (false, (.tmp 51))] false 4, none, 0, none⟩,
    ⟨none, .store 4 (.tmp 8) (.tmp 52), none, 4, none⟩] [])))) (.region 0 [
    ⟨(some 53), .bin .add (.tmp 41) (.const (.int .i64 (1))), none, 0, none⟩,
    ⟨(some 41), .move (.tmp 53), none, 0, none⟩] []))))))) (.seq (.region 0 [
    ⟨(some 54), .load true 4 (.tmp 8), none, 0, none⟩,
    ⟨none, .store 4 (.tmp 6) (.tmp 54), none, 0, none⟩] []) (.ret)))))), [.cell true 4 6], true⟩
def s38 : Sig := ⟨(.cons (.v (.list .step)) (.cons (.v (.int .i64)) (.cons (.v (.int .i64)) .nil))), [], ((.v .res), []), []⟩
def l38_0 (g88 : Res → Res → Option Res) (al0 : (List Step)) (to2 : Int) (r5 : Int) (nx8 : ((Unit × (Unit × (Int × Unit))) × (Res × (Res × Unit))) → Option Res) (z9 : Int) (z10 : Res) (z11 : Res) : Option Res :=
  cond (decide (z9 < (List.length (List.drop (Int.toNat (IntKind.wrap .i64 (r5 + 1))) al0) : Int)))
    (cond (decide (0 ≤ z9))
      (Option.bind ((List.drop (Int.toNat (IntKind.wrap .i64 (r5 + 1))) al0)[Int.toNat z9]?) fun y12 =>
      cond (decide (to2 ≤ y12.at_))
        (some z11)
        (Option.bind (g88 z11 y12.free) fun r13 =>
        nx8 (((), (), IntKind.wrap .i64 (z9 + 1), ()), (z10, r13, ()))))
      (none))
    (some z11)
def F38 (L : Lp) (g37 : (List Step) → Option Bool) (g87 : (List Step) → Int → Option Int) (g88 : Res → Res → Option Res) (al0 : (List Step)) (from1 : Int) (to2 : Int) : Option Res :=
  Option.bind (g37 al0) fun r3 =>
  cond (!r3)
    (some (Res.mk 0 0 0 0))
    (Option.bind (al0[0]?) fun y4 =>
    cond (decide (from1 < y4.at_))
      (some (Res.mk 0 0 0 0))
      (cond (decide (to2 ≤ from1))
        (some (Res.mk 0 0 0 0))
        (Option.bind (g87 al0 from1) fun r5 =>
        cond (decide (0 ≤ r5))
          (Option.bind (al0[Int.toNat r5]?) fun y6 =>
          cond (decide (0 ≤ (IntKind.wrap .i64 (r5 + 1))))
            (cond (decide ((Int.toNat (IntKind.wrap .i64 (r5 + 1))) ≤ (List.length al0)))
              (L (fun (s7 : ((Unit × (Unit × (Int × Unit))) × (Res × (Res × Unit)))) nx8 => l38_0 g88 al0 to2 r5 nx8 s7.1.2.2.1 s7.2.1 s7.2.2.1) (((), (), 0, ()), (Res.mk 0 0 0 0, y6.free, ())))
              (none))
            (none))
          (none))))
theorem e38 (L : Lp) (g37 : (List Step) → Option Bool) (g87 : (List Step) → Int → Option Int) (g88 : Res → Res → Option Res) (x : s38.args.den) (h : denH s38.heap) : nrun [⟨37, s37, fun x h => g37 x.1⟩, ⟨87, s87, fun x h => g87 x.1 x.2.1⟩, ⟨88, s88, fun x h => g88 x.1 x.2.1⟩] L n38 s38 x h = F38 L g37 g87 g88 x.1 x.2.1 x.2.2.1 := by kernel_rfl
def f38 : (List Step) → Int → Int → Option Res := F38 (@LN LOOPS) f37 f87 f88
@[reducible] def t38 : Ent := ⟨38, s38, fun x h => f38 x.1 x.2.1 x.2.2.1⟩
theorem k38 : chkNF Try.prog Try.f38 n38 = true := by kernel_rfl
theorem ok38 : NOk Try.prog t38 := NOk.body (T := [t37, t87, t88]) mixed (nall_cons ok37 (nall_cons ok87 (nall_cons ok88 nall_nil))) (oneEach_of (by kernel_rfl)) Try.func38 k38 (by kernel_rfl) (fun x h => e38 _ _ _ _ x h)
/- drayage/drayagelaw10.awake -/
def n30 : NFunc := ⟨41, .seq (.region 0 [
    ⟨(some 0), .move (.const (.bool false)), none, 0, none⟩] []) (.seq (.region 4 [
    ⟨(some 7), .build [.int .i64 (0), .int .i64 (0), .int .i64 (0), .int .i64 (0)] [(0, 1, (.const (.int .i64 (4))))], none, 0, none⟩,
    ⟨(some 8), .call (.func 33) [(false, (.const (.int .i64 (0)))), (false, (.tmp 7))] false 4, none, 0, none⟩,
    ⟨(some 6), .move (.tmp 8), none, 4, none⟩,
    ⟨(some 9), .extract (.tmp 6) 0, none, 4, none⟩,
    ⟨(some 10), .extract (.tmp 6) 1, none, 4, none⟩,
    ⟨(some 1), .move (.tmp 9), none, 4, none⟩,
    ⟨(some 2), .move (.tmp 10), none, 4, none⟩] []) (.seq (.region 4 [
    ⟨(some 12), .move (.tmp 1), none, 0, none⟩,
    ⟨(some 13), .build [.int .i64 (0), .int .i64 (0), .int .i64 (0), .int .i64 (0)] [(0, 1, (.const (.int .i64 (3))))], none, 0, none⟩,
    ⟨(some 14), .call (.func 44) [(false, (.tmp 12)), (false, (.const (.int .i64 (2)))), (false, (.const (.int .i64 (5)))), (false, (.tmp 13))] false 4, none, 0, none⟩,
    ⟨(some 11), .move (.tmp 14), none, 4, none⟩,
    ⟨(some 15), .extract (.tmp 11) 0, none, 4, none⟩,
    ⟨(some 16), .extract (.tmp 11) 1, none, 4, none⟩,
    ⟨(some 3), .move (.tmp 15), none, 4, none⟩,
    ⟨(some 4), .move (.tmp 16), none, 4, none⟩] []) (.seq (.region 1 [
    ⟨(some 17), .build [.int .i64 (0), .int .i64 (0), .int .i64 (0), .int .i64 (0)] [(0, 1, (.const (.int .i64 (4))))], none, 0, none⟩,
    ⟨(some 18), .build [.int .i64 (0), .int .i64 (0), .int .i64 (0), .int .i64 (0), .int .i64 (0)] [(1, 4, (.tmp 17))], none, 0, none⟩,
    ⟨(some 19), .build [.int .i64 (0), .int .i64 (0), .int .i64 (0), .int .i64 (0)] [(0, 1, (.const (.int .i64 (1))))], none, 0, none⟩,
    ⟨(some 20), .build [.int .i64 (0), .int .i64 (0), .int .i64 (0), .int .i64 (0), .int .i64 (0)] [(0, 1, (.const (.int .i64 (2)))), (1, 4, (.tmp 19))], none, 0, none⟩,
    ⟨(some 21), .build [.int .i64 (0), .int .i64 (0), .int .i64 (0), .int .i64 (0)] [(0, 1, (.const (.int .i64 (4))))], none, 0, none⟩,
    ⟨(some 22), .build [.int .i64 (0), .int .i64 (0), .int .i64 (0), .int .i64 (0), .int .i64 (0)] [(0, 1, (.const (.int .i64 (5)))), (1, 4, (.tmp 21))], none, 0, none⟩,
    ⟨(some 23), .buildSlice 5 3 true [.int .i64 (0), .int .i64 (0), .int .i64 (0), .int .i64 (0), .int .i64 (0)] [(0, (.tmp 18)), (1, (.tmp 20)), (2, (.tmp 22))], none, 0, none⟩,
    ⟨(some 5), .move (.tmp 23), none, 1, none⟩] []) (.seq (.region 8 [
    ⟨(some 24), .move (.tmp 2), none, 0, none⟩,
    ⟨(some 25), .bin .eql (.tmp 24) (.const (.int .i64 (0))), none, 0, none⟩,
    ⟨(some 26), .move (.tmp 25), none, 0, none⟩,
    ⟨(some 27), .move (.tmp 4), (some (26, true)), 0, none⟩,
    ⟨(some 28), .bin .eql (.tmp 27) (.const (.int .i64 (0))), (some (26, true)), 0, none⟩,
    ⟨(some 29), .pick (.tmp 26) (.tmp 28) (.const (.bool false)), none, 0, none⟩,
    ⟨(some 30), .move (.tmp 29), none, 0, none⟩,
    ⟨(some 31), .move (.tmp 3), (some (30, true)), 0, none⟩,
    ⟨(some 32), .move (.tmp 5), (some (30, true)), 0, none⟩,
    ⟨(some 33), .call (.func 32) [(false, (.tmp 31)), (false, (.tmp 32))] false 4, (some (30, true)), 0, none⟩,
    ⟨(some 34), .pick (.tmp 30) (.tmp 33) (.const (.bool false)), none, 4, none⟩,
    ⟨(some 35), .move (.tmp 34), none, 4, none⟩,
    ⟨(some 36), .move (.tmp 3), (some (35, true)), 4, none⟩,
    ⟨(some 37), .call (.func 38) [(false, (.tmp 36)), (false, (.const (.int .i64 (1)))), (false, (.const (.int .i64 (3))))] false 4, (some (35, true)), 4, none⟩,
    ⟨(some 38), .build [.int .i64 (0), .int .i64 (0), .int .i64 (0), .int .i64 (0)] [(0, 1, (.const (.int .i64 (1))))], (some (35, true)), 8, none⟩,
    ⟨(some 39), .eqAgg (false, [.int .i64, .int .i64, .int .i64, .int .i64]) (.tmp 37) (.tmp 38), (some (35, true)), 8, none⟩,
    ⟨(some 40), .pick (.tmp 35) (.tmp 39) (.const (.bool false)), none, 8, none⟩,
    ⟨(some 0), .move (.tmp 40), none, 8, none⟩] []) (.ret))))), [.tmp 0], true⟩
def s30 : Sig := ⟨.nil, [], ((.v .bool), []), []⟩
def F30 (L : Lp) (g33 : Int → Res → Option ((List Step) × (Int × Unit))) (g44 : (List Step) → Int → Int → Res → Option ((List Step) × (Int × Unit))) (g32 : (List Step) → (List Step) → Option Bool) (g38 : (List Step) → Int → Int → Option Res)  : Option Bool :=
  Option.bind (g33 0 (Res.mk 4 0 0 0)) fun r0 =>
  Option.bind (g44 r0.1 2 5 (Res.mk 3 0 0 0)) fun r1 =>
  cond (decide (r0.2.1 = 0))
    (cond (decide (r1.2.1 = 0))
      (Option.bind (g32 r1.1 [Step.mk 0 (Res.mk 4 0 0 0), Step.mk 2 (Res.mk 1 0 0 0), Step.mk 5 (Res.mk 4 0 0 0)]) fun r2 =>
      cond r2
        (Option.bind (g38 r1.1 1 3) fun r3 =>
        some ((decide (r3.cpu = 1)) && ((decide (r3.mem = 0)) && ((decide (r3.gpu = 0)) && ((decide (r3.lic = 0)) && true)))))
        (some false))
      (some false))
    (some false)
theorem e30 (L : Lp) (g33 : Int → Res → Option ((List Step) × (Int × Unit))) (g44 : (List Step) → Int → Int → Res → Option ((List Step) × (Int × Unit))) (g32 : (List Step) → (List Step) → Option Bool) (g38 : (List Step) → Int → Int → Option Res) (x : s30.args.den) (h : denH s30.heap) : nrun [⟨33, s33, fun x h => g33 x.1 x.2.1⟩, ⟨44, s44, fun x h => g44 x.1 x.2.1 x.2.2.1 x.2.2.2.1⟩, ⟨32, s32, fun x h => g32 x.1 x.2.1⟩, ⟨38, s38, fun x h => g38 x.1 x.2.1 x.2.2.1⟩] L n30 s30 x h = F30 L g33 g44 g32 g38  := by kernel_rfl
def f30 : Option Bool := F30 (@LN LOOPS) f33 f44 f32 f38
@[reducible] def t30 : Ent := ⟨30, s30, fun x h => f30 ⟩
theorem k30 : chkNF Try.prog Try.f30 n30 = true := by kernel_rfl
theorem ok30 : NOk Try.prog t30 := NOk.body (T := [t33, t44, t32, t38]) mixed (nall_cons ok33 (nall_cons ok44 (nall_cons ok32 (nall_cons ok38 nall_nil)))) (oneEach_of (by kernel_rfl)) Try.func30 k30 (by kernel_rfl) (fun x h => e30 _ _ _ _ _ x h)
/- drayage/drayageref05.Right -/
def n34 : NFunc := ⟨9, .seq (.region 0 [
    ⟨(some 2), .move (.const (.bool false)), none, 0, none⟩] []) (.seq (.region 0 [
    ⟨(some 3), .move (.tmp 0), none, 0, none⟩,
    ⟨(some 4), .bin .geq (.tmp 3) (.const (.int .i64 (0))), none, 0, none⟩,
    ⟨(some 5), .move (.tmp 4), none, 0, none⟩,
    ⟨(some 6), .move (.tmp 0), (some (5, true)), 0, none⟩,
    ⟨(some 7), .bin .leq (.tmp 6) (.const (.int .i64 (281474976710656))), (some (5, true)), 0, none⟩,
    ⟨(some 8), .pick (.tmp 5) (.tmp 7) (.const (.bool false)), none, 0, none⟩,
    ⟨(some 2), .move (.tmp 8), none, 0, none⟩] []) (.ret)), [.tmp 2], true⟩
def s34 : Sig := ⟨(.cons (.v (.int .i64)) .nil), [], ((.v .bool), []), []⟩
def F34 (L : Lp)  (an0 : Int) : Option Bool :=
  cond (decide (0 ≤ an0))
    (some (decide (an0 ≤ 281474976710656)))
    (some false)
theorem e34 (L : Lp)  (x : s34.args.den) (h : denH s34.heap) : nrun [] L n34 s34 x h = F34 L  x.1 := by kernel_rfl
def f34 : Int → Option Bool := F34 (@LN LOOPS) 
@[reducible] def t34 : Ent := ⟨34, s34, fun x h => f34 x.1⟩
theorem k34 : chkNF Try.prog Try.f34 n34 = true := by kernel_rfl
theorem ok34 : NOk Try.prog t34 := NOk.body (T := []) mixed nall_nil (oneEach_of (by kernel_rfl)) Try.func34 k34 (by kernel_rfl) (fun x h => e34 _  x h)
/- drayage/drayageref02.right -/
def n85 : NFunc := ⟨9, .seq (.region 0 [
    ⟨(some 2), .move (.const (.bool false)), none, 0, none⟩] []) (.seq (.region 0 [
    ⟨(some 3), .move (.tmp 0), none, 0, none⟩,
    ⟨(some 4), .bin .geq (.tmp 3) (.const (.int .i64 (0))), none, 0, none⟩,
    ⟨(some 5), .move (.tmp 4), none, 0, none⟩,
    ⟨(some 6), .move (.tmp 0), (some (5, true)), 0, none⟩,
    ⟨(some 7), .bin .leq (.tmp 6) (.const (.int .i64 (1048576))), (some (5, true)), 0, none⟩,
    ⟨(some 8), .pick (.tmp 5) (.tmp 7) (.const (.bool false)), none, 0, none⟩,
    ⟨(some 2), .move (.tmp 8), none, 0, none⟩] []) (.ret)), [.tmp 2], true⟩
def s85 : Sig := ⟨(.cons (.v (.int .i64)) .nil), [], ((.v .bool), []), []⟩
def F85 (L : Lp)  (an0 : Int) : Option Bool :=
  cond (decide (0 ≤ an0))
    (some (decide (an0 ≤ 1048576)))
    (some false)
theorem e85 (L : Lp)  (x : s85.args.den) (h : denH s85.heap) : nrun [] L n85 s85 x h = F85 L  x.1 := by kernel_rfl
def f85 : Int → Option Bool := F85 (@LN LOOPS) 
@[reducible] def t85 : Ent := ⟨85, s85, fun x h => f85 x.1⟩
theorem k85 : chkNF Try.prog Try.f85 n85 = true := by kernel_rfl
theorem ok85 : NOk Try.prog t85 := NOk.body (T := []) mixed nall_nil (oneEach_of (by kernel_rfl)) Try.func85 k85 (by kernel_rfl) (fun x h => e85 _  x h)
/- drayage/drayageref02.Right -/
def n35 : NFunc := ⟨21, .seq (.region 1 [
    ⟨(some 1), .box 4 (.tmp 0), none, 0, none⟩,
    ⟨(some 2), .move (.const (.bool false)), none, 1, none⟩] []) (.seq (.region 16 [
    ⟨(some 3), .fieldAddr 0 (.tmp 1), none, 0, none⟩,
    ⟨(some 4), .load false 1 (.tmp 3), none, 0, none⟩,
    ⟨(some 5), .call (.func 85) [(false, (.tmp 4))] false 4, none, 0, none⟩,
    ⟨(some 6), .move (.tmp 5), none, 4, none⟩,
    ⟨(some 7), .fieldAddr 1 (.tmp 1), (some (6, true)), 4, none⟩,
    ⟨(some 8), .load false 1 (.tmp 7), (some (6, true)), 4, none⟩,
    ⟨(some 9), .call (.func 85) [(false, (.tmp 8))] false 4, (some (6, true)), 4, none⟩,
    ⟨(some 10), .pick (.tmp 6) (.tmp 9) (.const (.bool false)), none, 8, none⟩,
    ⟨(some 11), .move (.tmp 10), none, 8, none⟩,
    ⟨(some 12), .fieldAddr 2 (.tmp 1), (some (11, true)), 8, none⟩,
    ⟨(some 13), .load false 1 (.tmp 12), (some (11, true)), 8, none⟩,
    ⟨(some 14), .call (.func 85) [(false, (.tmp 13))] false 4, (some (11, true)), 8, none⟩,
    ⟨(some 15), .pick (.tmp 11) (.tmp 14) (.const (.bool false)), none, 12, none⟩,
    ⟨(some 16), .move (.tmp 15), none, 12, none⟩,
    ⟨(some 17), .fieldAddr 3 (.tmp 1), (some (16, true)), 12, none⟩,
    ⟨(some 18), .load false 1 (.tmp 17), (some (16, true)), 12, none⟩,
    ⟨(some 19), .call (.func 85) [(false, (.tmp 18))] false 4, (some (16, true)), 12, none⟩,
    ⟨(some 20), .pick (.tmp 16) (.tmp 19) (.const (.bool false)), none, 16, none⟩,
    ⟨(some 2), .move (.tmp 20), none, 16, none⟩] []) (.ret)), [.tmp 2], true⟩
def s35 : Sig := ⟨(.cons (.v .res) .nil), [], ((.v .bool), []), []⟩
def F35 (L : Lp) (g85 : Int → Option Bool) (a0 : Res) : Option Bool :=
  Option.bind (g85 a0.cpu) fun r1 =>
  cond r1
    (Option.bind (g85 a0.mem) fun r2 =>
    cond r2
      (Option.bind (g85 a0.gpu) fun r3 =>
      cond r3
        (Option.bind (g85 a0.lic) fun r4 =>
        some r4)
        (some false))
      (some false))
    (some false)
theorem e35 (L : Lp) (g85 : Int → Option Bool) (x : s35.args.den) (h : denH s35.heap) : nrun [⟨85, s85, fun x h => g85 x.1⟩] L n35 s35 x h = F35 L g85 x.1 := by kernel_rfl
def f35 : Res → Option Bool := F35 (@LN LOOPS) f85
@[reducible] def t35 : Ent := ⟨35, s35, fun x h => f35 x.1⟩
theorem k35 : chkNF Try.prog Try.f35 n35 = true := by kernel_rfl
theorem ok35 : NOk Try.prog t35 := NOk.body (T := [t85]) mixed (nall_cons ok85 nall_nil) (oneEach_of (by kernel_rfl)) Try.func35 k35 (by kernel_rfl) (fun x h => e35 _ _ x h)
/- drayage/drayageref10.Right -/
def n36 : NFunc := ⟨47, .seq (.region 0 [
    ⟨(some 2), .move (.const (.bool false)), none, 0, none⟩] []) (.seq (.seq (.region 0 [
    ⟨(some 3), .move (.const (.int .i64 (0))), none, 0, none⟩] []) (.block 0 (.loop [0, 3] ⟨[(3, (.v (.int .i64)))], [0], []⟩ (.seq (.seq (.region 0 [
    ⟨(some 4), .move (.tmp 3), none, 0, none⟩,
    ⟨(some 5), .move (.tmp 0), none, 0, none⟩,
    ⟨(some 6), .len (.tmp 5), none, 0, none⟩,
    ⟨(some 7), .bin .lss (.tmp 4) (.tmp 6), none, 0, none⟩] []) (.cond (.tmp 7) (.skip) (.exit 0))) (.seq (.block 1 (.seq (.region 8 [
    ⟨(some 10), .move (.tmp 0), none, 0, (some ([], none))⟩,
    ⟨(some 11), .move (.tmp 3), none, 0, (some ([], none))⟩,
    ⟨(some 12), .indexSl 5 (.tmp 10) (.tmp 11), none, 0, (some ([], none))⟩,
    ⟨(some 13), .fieldAddr 0 (.tmp 12), none, 0, (some ([], none))⟩,
    ⟨(some 14), .load false 1 (.tmp 13), none, 0, (some ([], none))⟩,
    ⟨(some 15), .call (.func 34) [(false, (.tmp 14))] false 4, none, 0, (some ([], none))⟩,
    ⟨(some 16), .un .not (.tmp 15), none, 4, (some ([0, 1, 2, 3], none))⟩,
    ⟨(some 17), .move (.tmp 16), none, 4, (some ([0, 1, 2, 3], none))⟩,
    ⟨(some 18), .move (.tmp 0), (some (17, false)), 4, (some ([0, 1, 2, 3], none))⟩,
    ⟨(some 19), .move (.tmp 3), (some (17, false)), 4, (some ([0, 1, 2, 3], none))⟩,
    ⟨(some 20), .indexSl 5 (.tmp 18) (.tmp 19), (some (17, false)), 4, (some ([0, 1, 2, 3], none))⟩,
    ⟨(some 21), .fieldAddr 1 (.tmp 20), (some (17, false)), 4, (some ([0, 1, 2, 3], none))⟩,
    ⟨(some 22), .load true 4 (.tmp 21), (some (17, false)), 4, (some ([0, 1, 2, 3], none))⟩,
    ⟨(some 23), .call (.func 35) [(false, (.tmp 22))] false 4, (some (17, false)), 4, (some ([0, 1, 2, 3], none))⟩,
    ⟨(some 24), .un .not (.tmp 23), (some (17, false)), 8, (some ([0, 1, 2, 3, 4, 5, 6, 7], none))⟩,
    ⟨(some 25), .pick (.tmp 17) (.const (.bool true)) (.tmp 24), none, 8, (some ([0, 1, 2, 3, 4, 5, 6, 7], none))⟩,
    ⟨(some 26), .move (.tmp 25), none, 8, (some ([0, 1, 2, 3, 4, 5, 6, 7], none))⟩,
    ⟨(some 27), .move (.tmp 3), (some (26, false)), 8, (some ([0, 1, 2, 3, 4, 5, 6, 7], none))⟩,
    ⟨(some 28), .bin .gtr (.tmp 27) (.const (.int .i64 (0))), (some (26, false)), 8, (some ([0, 1, 2, 3, 4, 5, 6, 7], none))⟩,
    ⟨(some 29), .move (.tmp 28), (some (26, false)), 8, (some ([0, 1, 2, 3, 4, 5, 6, 7], none))⟩,
    ⟨(some 30), .move (.tmp 0), (some (29, true)), 8, (some ([0, 1, 2, 3, 4, 5, 6, 7], none))⟩,
    ⟨(some 31), .move (.tmp 3), (some (29, true)), 8, (some ([0, 1, 2, 3, 4, 5, 6, 7], none))⟩,
    ⟨(some 32), .indexSl 5 (.tmp 30) (.tmp 31), (some (29, true)), 8, (some ([0, 1, 2, 3, 4, 5, 6, 7], none))⟩,
    ⟨(some 33), .fieldAddr 0 (.tmp 32), (some (29, true)), 8, (some ([0, 1, 2, 3, 4, 5, 6, 7], none))⟩,
    ⟨(some 34), .load false 1 (.tmp 33), (some (29, true)), 8, (some ([0, 1, 2, 3, 4, 5, 6, 7], none))⟩,
    ⟨(some 35), .move (.tmp 0), (some (29, true)), 8, (some ([0, 1, 2, 3, 4, 5, 6, 7], none))⟩,
    ⟨(some 36), .move (.tmp 3), (some (29, true)), 8, (some ([0, 1, 2, 3, 4, 5, 6, 7], none))⟩,
    ⟨(some 37), .bin .sub (.tmp 36) (.const (.int .i64 (1))), (some (29, true)), 8, (some ([0, 1, 2, 3, 4, 5, 6, 7], none))⟩,
    ⟨(some 38), .indexSl 5 (.tmp 35) (.tmp 37), (some (29, true)), 8, (some ([0, 1, 2, 3, 4, 5, 6, 7], none))⟩,
    ⟨(some 39), .fieldAddr 0 (.tmp 38), (some (29, true)), 8, (some ([0, 1, 2, 3, 4, 5, 6, 7], none))⟩,
    ⟨(some 40), .load false 1 (.tmp 39), (some (29, true)), 8, (some ([0, 1, 2, 3, 4, 5, 6, 7], none))⟩,
    ⟨(some 41), .bin .leq (.tmp 34) (.tmp 40), (some (29, true)), 8, (some ([0, 1, 2, 3, 4, 5, 6, 7], none))⟩,
    ⟨(some 42), .pick (.tmp 29) (.tmp 41) (.const (.bool false)), (some (26, false)), 8, (some ([0, 1, 2, 3, 4, 5, 6, 7], none))⟩,
    ⟨(some 43), .pick (.tmp 26) (.const (.bool true)) (.tmp 42), none, 8, (some ([0, 1, 2, 3, 4, 5, 6, 7], none))⟩] []) (.cond (.tmp 43) (.seq (.region 0 [
    ⟨(some 2), .move (.const (.bool false)), none, 0, none⟩] []) (.ret)) (.skip)))) (.region 0 [
    ⟨(some 8), .move (.tmp 3), none, 0, none⟩,
    ⟨(some 9), .bin .add (.tmp 8) (.const (.int .i64 (1))), none, 0, none⟩,
    ⟨(some 3), .move (.tmp 9), none, 0, none⟩] [])))))) (.seq (.region 0 [
    ⟨(some 44), .move (.tmp 0), none, 0, none⟩,
    ⟨(some 45), .len (.tmp 44), none, 0, none⟩,
    ⟨(some 46), .bin .gtr (.tmp 45) (.const (.int .i64 (0))), none, 0, none⟩,
    ⟨(some 2), .move (.tmp 46), none, 0, none⟩] []) (.ret))), [.tmp 2], true⟩
def s36 : Sig := ⟨(.cons (.v (.list .step)) .nil), [], ((.v .bool), []), []⟩
def l36_0 (g34 : Int → Option Bool) (g35 : Res → Option Bool) (al0 : (List Step)) (nx2 : ((Int × Unit) × Unit) → Option Bool) (i3 : Int) : Option Bool :=
  cond (decide (i3 < (List.length al0 : Int)))
    (cond (decide (0 ≤ i3))
      (Option.bind (al0[Int.toNat i3]?) fun y4 =>
      Option.bind (g34 y4.at_) fun r5 =>
      cond (!r5)
        (some false)
        (cond (decide (0 ≤ i3))
          (Option.bind (al0[Int.toNat i3]?) fun y6 =>
          Option.bind (g35 y6.free) fun r7 =>
          cond (!r7)
            (some false)
            (cond (decide (0 < i3))
              (cond (decide (0 ≤ i3))
                (Option.bind (al0[Int.toNat i3]?) fun y8 =>
                cond (decide (0 ≤ (IntKind.wrap .i64 (i3 - 1))))
                  (Option.bind (al0[Int.toNat (IntKind.wrap .i64 (i3 - 1))]?) fun y9 =>
                  cond (decide (y8.at_ ≤ y9.at_))
                    (some false)
                    (nx2 ((IntKind.wrap .i64 (i3 + 1), ()), ())))
                  (none))
                (none))
              (nx2 ((IntKind.wrap .i64 (i3 + 1), ()), ()))))
          (none)))
      (none))
    (some (decide (0 < (List.length al0 : Int))))
def F36 (L : Lp) (g34 : Int → Option Bool) (g35 : Res → Option Bool) (al0 : (List Step)) : Option Bool :=
  L (fun (s1 : ((Int × Unit) × Unit)) nx2 => l36_0 g34 g35 al0 nx2 s1.1.1) ((0, ()), ())
theorem e36 (L : Lp) (g34 : Int → Option Bool) (g35 : Res → Option Bool) (x : s36.args.den) (h : denH s36.heap) : nrun [⟨34, s34, fun x h => g34 x.1⟩, ⟨35, s35, fun x h => g35 x.1⟩] L n36 s36 x h = F36 L g34 g35 x.1 := by kernel_rfl
def f36 : (List Step) → Option Bool := F36 (@LN LOOPS) f34 f35
@[reducible] def t36 : Ent := ⟨36, s36, fun x h => f36 x.1⟩
theorem k36 : chkNF Try.prog Try.f36 n36 = true := by kernel_rfl
theorem ok36 : NOk Try.prog t36 := NOk.body (T := [t34, t35]) mixed (nall_cons ok34 (nall_cons ok35 nall_nil)) (oneEach_of (by kernel_rfl)) Try.func36 k36 (by kernel_rfl) (fun x h => e36 _ _ _ x h)
/- drayage/drayageref10.At -/
def n42 : NFunc := ⟨26, .seq (.region 1 [
    ⟨(some 4), .alloc [.int .i64 (0), .int .i64 (0), .int .i64 (0), .int .i64 (0)], none, 0, none⟩] []) (.seq (.seq (.region 0 [
    ⟨(some 6), .move (.tmp 0), none, 0, none⟩,
    ⟨(some 7), .len (.tmp 6), none, 0, none⟩,
    ⟨(some 8), .bin .sub (.tmp 7) (.const (.int .i64 (1))), none, 0, none⟩,
    ⟨(some 5), .move (.tmp 8), none, 0, none⟩] []) (.block 0 (.loop [0, 1, 4, 5] ⟨[(4, (.ptr 0 0 0)), (5, (.v (.int .i64)))], [0, 1], [.one false .res]⟩ (.seq (.seq (.region 0 [
    ⟨(some 9), .move (.tmp 5), none, 0, none⟩,
    ⟨(some 10), .bin .geq (.tmp 9) (.const (.int .i64 (0))), none, 0, none⟩] []) (.cond (.tmp 10) (.skip) (.exit 0))) (.seq (.block 1 (.seq (.region 0 [
    ⟨(some 13), .move (.tmp 0), none, 0, none⟩,
    ⟨(some 14), .move (.tmp 5), none, 0, none⟩,
    ⟨(some 15), .indexSl 5 (.tmp 13) (.tmp 14), none, 0, none⟩,
    ⟨(some 16), .fieldAddr 0 (.tmp 15), none, 0, none⟩,
    ⟨(some 17), .load false 1 (.tmp 16), none, 0, none⟩,
    ⟨(some 18), .move (.tmp 1), none, 0, none⟩,
    ⟨(some 19), .bin .leq (.tmp 17) (.tmp 18), none, 0, none⟩] []) (.cond (.tmp 19) (.seq (.region 0 [
    ⟨(some 20), .move (.tmp 0), none, 0, none⟩,
    ⟨(some 21), .move (.tmp 5), none, 0, none⟩,
    ⟨(some 22), .indexSl 5 (.tmp 20) (.tmp 21), none, 0, none⟩,
    ⟨(some 23), .fieldAddr 1 (.tmp 22), none, 0, none⟩,
    ⟨(some 24), .load true 4 (.tmp 23), none, 0, none⟩,
    ⟨none, .store 4 (.tmp 4) (.tmp 24), none, 0, none⟩] []) (.ret)) (.skip)))) (.region 0 [
    ⟨(some 11), .move (.tmp 5), none, 0, none⟩,
    ⟨(some 12), .bin .sub (.tmp 11) (.const (.int .i64 (1))), none, 0, none⟩,
    ⟨(some 5), .move (.tmp 12), none, 0, none⟩] [])))))) (.seq (.region 0 [
    ⟨(some 25), .build [.int .i64 (0), .int .i64 (0), .int .i64 (0), .int .i64 (0)] [], none, 0, none⟩,
    ⟨none, .store 4 (.tmp 4) (.tmp 25), none, 0, none⟩] []) (.ret))), [.cell true 4 4], true⟩
def s42 : Sig := ⟨(.cons (.v (.list .step)) (.cons (.v (.int .i64)) .nil)), [], ((.v .res), []), []⟩
def l42_0 (al0 : (List Step)) (at1 : Int) (nx3 : ((Unit × (Int × Unit)) × (Res × Unit)) → Option Res) (i4 : Int) (z5 : Res) : Option Res :=
  cond (decide (0 ≤ i4))
    (cond (decide (0 ≤ i4))
      (Option.bind (al0[Int.toNat i4]?) fun y6 =>
      cond (decide (y6.at_ ≤ at1))
        (cond (decide (0 ≤ i4))
          (Option.bind (al0[Int.toNat i4]?) fun y7 =>
          some y7.free)
          (none))
        (nx3 (((), IntKind.wrap .i64 (i4 - 1), ()), (z5, ()))))
      (none))
    (some (Res.mk 0 0 0 0))
def F42 (L : Lp)  (al0 : (List Step)) (at1 : Int) : Option Res :=
  L (fun (s2 : ((Unit × (Int × Unit)) × (Res × Unit))) nx3 => l42_0 al0 at1 nx3 s2.1.2.1 s2.2.1) (((), IntKind.wrap .i64 ((List.length al0 : Int) - 1), ()), (Res.mk 0 0 0 0, ()))
theorem e42 (L : Lp)  (x : s42.args.den) (h : denH s42.heap) : nrun [] L n42 s42 x h = F42 L  x.1 x.2.1 := by kernel_rfl
def f42 : (List Step) → Int → Option Res := F42 (@LN LOOPS) 
@[reducible] def t42 : Ent := ⟨42, s42, fun x h => f42 x.1 x.2.1⟩
theorem k42 : chkNF Try.prog Try.f42 n42 = true := by kernel_rfl
theorem ok42 : NOk Try.prog t42 := NOk.body (T := []) mixed nall_nil (oneEach_of (by kernel_rfl)) Try.func42 k42 (by kernel_rfl) (fun x h => e42 _  x h)
/- drayage/drayageref10.Times -/
def n89 : NFunc := ⟨85, .seq (.region 0 [
    ⟨(some 4), .move (.const (.zsl)), none, 0, none⟩] []) (.seq (.region 2 [
    ⟨(some 11), .buildSlice 1 0 true [.int .i64 (0)] [], none, 0, none⟩,
    ⟨(some 12), .move (.tmp 1), none, 1, none⟩,
    ⟨(some 13), .append 1 8 true (.tmp 11) (.tmp 12), none, 1, none⟩,
    ⟨(some 5), .move (.tmp 13), none, 2, none⟩] []) (.seq (.seq (.region 0 [
    ⟨(some 6), .move (.const (.int .i64 (0))), none, 0, none⟩] []) (.block 0 (.loop [0, 5, 6] ⟨[(5, (.slw 0 1)), (6, (.v (.int .i64)))], [0], [.typed (.int .i64)]⟩ (.seq (.seq (.region 0 [
    ⟨(some 14), .move (.tmp 6), none, 0, none⟩,
    ⟨(some 15), .move (.tmp 0), none, 0, none⟩,
    ⟨(some 16), .len (.tmp 15), none, 0, none⟩,
    ⟨(some 17), .bin .lss (.tmp 14) (.tmp 16), none, 0, none⟩] []) (.cond (.tmp 17) (.skip) (.exit 0))) (.seq (.block 1 (.region 2 [
    ⟨(some 20), .move (.tmp 5), none, 0, none⟩,
    ⟨(some 21), .move (.tmp 0), none, 0, none⟩,
    ⟨(some 22), .move (.tmp 6), none, 0, none⟩,
    ⟨(some 23), .indexSl 5 (.tmp 21) (.tmp 22), none, 0, none⟩,
    ⟨(some 24), .fieldAddr 0 (.tmp 23), none, 0, none⟩,
    ⟨(some 25), .load false 1 (.tmp 24), none, 0, none⟩,
    ⟨(some 26), .buildSlice 1 1 true [.int .i64 (0)] [(0, (.tmp 25))], none, 0, none⟩,
    ⟨(some 27), .append 1 8 true (.tmp 20) (.tmp 26), none, 1, none⟩,
    ⟨(some 5), .move (.tmp 27), none, 2, none⟩] [])) (.region 0 [
    ⟨(some 18), .move (.tmp 6), none, 0, none⟩,
    ⟨(some 19), .bin .add (.tmp 18) (.const (.int .i64 (1))), none, 0, none⟩,
    ⟨(some 6), .move (.tmp 19), none, 0, none⟩] [])))))) (.seq (.region 0 [
    ⟨(some 7), .move (.const (.zsl)), none, 0, none⟩] []) (.seq (.seq (.region 0 [
    ⟨(some 8), .move (.const (.int .i64 (0))), none, 0, none⟩] []) (.block 2 (.pre [5, 7, 8] [.mat 7 1 true] (.loop [5, 7, 8] ⟨[(5, (.slw 0 1)), (7, (.slw 1 1)), (8, (.v (.int .i64)))], [], [.typed (.int .i64), .typed (.int .i64)]⟩ (.seq (.seq (.region 0 [
    ⟨(some 28), .move (.tmp 8), none, 0, none⟩,
    ⟨(some 29), .move (.tmp 5), none, 0, none⟩,
    ⟨(some 30), .len (.tmp 29), none, 0, none⟩,
    ⟨(some 31), .bin .lss (.tmp 28) (.tmp 30), none, 0, none⟩] []) (.cond (.tmp 31) (.skip) (.exit 2))) (.seq (.block 3 (.seq (.region 0 [
    ⟨(some 9), .move (.const (.int .i64 (0))), none, 0, none⟩] []) (.seq (.block 4 (.loop [5, 7, 8, 9] ⟨[(5, (.slw 0 1)), (7, (.slw 1 1)), (9, (.v (.int .i64)))], [8], [.typed (.int .i64), .typed (.int .i64)]⟩ (.seq (.seq (.region 0 [
    ⟨(some 34), .move (.tmp 9), none, 0, (some ([], none))⟩,
    ⟨(some 35), .move (.tmp 7), none, 0, (some ([], none))⟩,
    ⟨(some 36), .len (.tmp 35), none, 0, (some ([], none))⟩,
    ⟨(some 37), .bin .lss (.tmp 34) (.tmp 36), none, 0, (some ([], none))⟩,
    ⟨(some 38), .move (.tmp 37), none, 0, (some ([], none))⟩,
    ⟨(some 39), .move (.tmp 7), (some (38, true)), 0, (some ([], none))⟩,
    ⟨(some 40), .move (.tmp 9), (some (38, true)), 0, (some ([], none))⟩,
    ⟨(some 41), .indexSl 1 (.tmp 39) (.tmp 40), (some (38, true)), 0, (some ([], none))⟩,
    ⟨(some 42), .load false 1 (.tmp 41), (some (38, true)), 0, (some ([], none))⟩,
    ⟨(some 43), .move (.tmp 5), (some (38, true)), 0, (some ([], none))⟩,
    ⟨(some 44), .move (.tmp 8), (some (38, true)), 0, (some ([], none))⟩,
    ⟨(some 45), .indexSl 1 (.tmp 43) (.tmp 44), (some (38, true)), 0, (some ([], none))⟩,
    ⟨(some 46), .load false 1 (.tmp 45), (some (38, true)), 0, (some ([], none))⟩,
    ⟨(some 47), .bin .lss (.tmp 42) (.tmp 46), (some (38, true)), 0, (some ([], none))⟩,
    ⟨(some 48), .pick (.tmp 38) (.tmp 47) (.const (.bool false)), none, 0, (some ([], none))⟩] []) (.cond (.tmp 48) (.skip) (.exit 4))) (.block 5 (.region 0 [
    ⟨(some 49), .move (.tmp 9), none, 0, none⟩,
    ⟨(some 50), .bin .add (.tmp 49) (.const (.int .i64 (1))), none, 0, none⟩,
    ⟨(some 9), .move (.tmp 50), none, 0, none⟩] []))))) (.seq (.join [5, 8, 9, 7] [] ⟨[(5, (.slw 0 1)), (7, (.slw 1 1))], [8, 9], [.typed (.int .i64), .typed (.int .i64)]⟩ (.seq (.region 0 [
    ⟨(some 51), .move (.tmp 9), none, 0, (some ([], none))⟩,
    ⟨(some 52), .move (.tmp 7), none, 0, (some ([], none))⟩,
    ⟨(some 53), .len (.tmp 52), none, 0, (some ([], none))⟩,
    ⟨(some 54), .bin .lss (.tmp 51) (.tmp 53), none, 0, (some ([], none))⟩,
    ⟨(some 55), .move (.tmp 54), none, 0, (some ([], none))⟩,
    ⟨(some 56), .move (.tmp 7), (some (55, true)), 0, (some ([], none))⟩,
    ⟨(some 57), .move (.tmp 9), (some (55, true)), 0, (some ([], none))⟩,
    ⟨(some 58), .indexSl 1 (.tmp 56) (.tmp 57), (some (55, true)), 0, (some ([], none))⟩,
    ⟨(some 59), .load false 1 (.tmp 58), (some (55, true)), 0, (some ([], none))⟩,
    ⟨(some 60), .move (.tmp 5), (some (55, true)), 0, (some ([], none))⟩,
    ⟨(some 61), .move (.tmp 8), (some (55, true)), 0, (some ([], none))⟩,
    ⟨(some 62), .indexSl 1 (.tmp 60) (.tmp 61), (some (55, true)), 0, (some ([], none))⟩,
    ⟨(some 63), .load false 1 (.tmp 62), (some (55, true)), 0, (some ([], none))⟩,
    ⟨(some 64), .bin .eql (.tmp 59) (.tmp 63), (some (55, true)), 0, (some ([], none))⟩,
    ⟨(some 65), .pick (.tmp 55) (.tmp 64) (.const (.bool false)), none, 0, (some ([], none))⟩] []) (.cond (.tmp 65) (.exit 3) (.skip)))) (.seq (.region 0 [
    ⟨(some 10), .move (.const (.zsl)), none, 0, none⟩] []) (.seq (.region 1 [
    ⟨(some 66), .move (.tmp 10), none, 0, none⟩,
    ⟨(some 67), .move (.tmp 7), none, 0, none⟩,
    ⟨(some 68), .move (.tmp 9), none, 0, none⟩,
    ⟨(some 69), .slice 1 (.tmp 67) none (some (.tmp 68)) none, none, 0, none⟩,
    ⟨(some 70), .append 1 8 true (.tmp 66) (.tmp 69), none, 0, none⟩,
    ⟨(some 10), .move (.tmp 70), none, 1, none⟩] []) (.seq (.region 2 [
    ⟨(some 71), .move (.tmp 10), none, 0, none⟩,
    ⟨(some 72), .move (.tmp 5), none, 0, none⟩,
    ⟨(some 73), .move (.tmp 8), none, 0, none⟩,
    ⟨(some 74), .indexSl 1 (.tmp 72) (.tmp 73), none, 0, none⟩,
    ⟨(some 75), .load false 1 (.tmp 74), none, 0, none⟩,
    ⟨(some 76), .buildSlice 1 1 true [.int .i64 (0)] [(0, (.tmp 75))], none, 0, none⟩,
    ⟨(some 77), .append 1 8 true (.tmp 71) (.tmp 76), none, 1, none⟩,
    ⟨(some 10), .move (.tmp 77), none, 2, none⟩] []) (.seq (.region 1 [
    ⟨(some 78), .move (.tmp 10), none, 0, none⟩,
    ⟨(some 79), .move (.tmp 7), none, 0, none⟩,
    ⟨(some 80), .move (.tmp 9), none, 0, none⟩,
    ⟨(some 81), .slice 1 (.tmp 79) (some (.tmp 80)) none none, none, 0, none⟩,
    ⟨(some 82), .append 1 8 true (.tmp 78) (.tmp 81), none, 0, none⟩,
    ⟨(some 10), .move (.tmp 82), none, 1, none⟩] []) (.region 0 [
    ⟨(some 83), .move (.tmp 10), none, 0, none⟩,
    ⟨(some 7), .move (.tmp 83), none, 0, none⟩] []))))))))) (.region 0 [
    ⟨(some 32), .move (.tmp 8), none, 0, none⟩,
    ⟨(some 33), .bin .add (.tmp 32) (.const (.int .i64 (1))), none, 0, none⟩,
    ⟨(some 8), .move (.tmp 33), none, 0, none⟩] []))))))) (.seq (.region 0 [
    ⟨(some 84), .move (.tmp 7), none, 0, none⟩,
    ⟨(some 4), .move (.tmp 84), none, 0, none⟩] []) (.ret)))))), [.tmp 4], true⟩
def s89 : Sig := ⟨(.cons (.v (.list .step)) (.cons (.v (.list (.int .i64))) .nil)), [], ((.v (.list (.int .i64))), []), []⟩
def l89_0 (nx8 : (((Unit × (Unit × (Int × Unit))) × ((List Int) × ((List Int) × Unit))) → Option (List Int))) (i9 : Int) (nx13 : ((Unit × (Unit × (Int × Unit))) × ((List Int) × ((List Int) × Unit))) → Option (List Int)) (zk14 : Int) (z15 : (List Int)) (z16 : (List Int)) : Option (List Int) :=
  cond (decide (zk14 < (List.length z16 : Int)))
    (cond (decide (0 ≤ zk14))
      (cond (decide ((Int.toNat zk14) < (List.length z16)))
        (Option.bind (z16[Int.toNat zk14]?) fun y17 =>
        cond (decide (0 ≤ i9))
          (cond (decide ((Int.toNat i9) < (List.length z15)))
            (Option.bind (z15[Int.toNat i9]?) fun y18 =>
            cond (decide (y17 < y18))
              (nx13 (((), (), IntKind.wrap .i64 (zk14 + 1), ()), (z15, z16, ())))
              (Option.bind (α := (((Unit × (Unit × Unit)) × ((List Int) × ((List Int) × Unit))) ⊕ (List Int)))
                (cond (decide (zk14 < (List.length z16 : Int)))
                  (cond (decide (0 ≤ zk14))
                    (cond (decide ((Int.toNat zk14) < (List.length z16)))
                      (Option.bind (z16[Int.toNat zk14]?) fun y19 =>
                      cond (decide (0 ≤ i9))
                        (cond (decide ((Int.toNat i9) < (List.length z15)))
                          (Option.bind (z15[Int.toNat i9]?) fun y20 =>
                          cond (decide (y19 = y20))
                            (Option.map Sum.inr
                              (nx8 (((), (), IntKind.wrap .i64 (i9 + 1), ()), (z15, z16, ()))))
                            (some (.inl (((), (), ()), (z15, z16, ())))))
                          (none))
                        (none))
                      (none))
                    (none))
                  (some (.inl (((), (), ()), (z15, z16, ()))))) (Sum.elim (fun x21 =>
                cond (decide (0 ≤ zk14))
                  (cond (decide ((Int.toNat zk14) ≤ (List.length x21.2.2.1)))
                    (cond (decide ((0 + (Int.toNat zk14)) ≤ (List.length x21.2.2.1)))
                      (cond (smallB (List.length (List.take (Int.toNat zk14) (List.drop 0 x21.2.2.1))) 8)
                        (cond (decide (0 ≤ i9))
                          (cond (decide ((Int.toNat i9) < (List.length x21.2.1)))
                            (Option.bind (x21.2.1[Int.toNat i9]?) fun y22 =>
                            cond (smallB ((List.length ([] ++ (List.take (Int.toNat zk14) (List.drop 0 x21.2.2.1)))) + 1) 8)
                              (cond (decide (0 ≤ zk14))
                                (cond (decide ((Int.toNat zk14) ≤ (List.length x21.2.2.1)))
                                  (cond ((decide ((Int.toNat zk14) = 0)) || (decide ((Int.toNat zk14) < (List.length x21.2.2.1))))
                                    (cond (decide (((Int.toNat zk14) + ((List.length x21.2.2.1) - (Int.toNat zk14))) ≤ (List.length x21.2.2.1)))
                                      (cond (smallB ((List.length (([] ++ (List.take (Int.toNat zk14) (List.drop 0 x21.2.2.1))) ++ [y22])) + (List.length (List.take ((List.length x21.2.2.1) - (Int.toNat zk14)) (List.drop (Int.toNat zk14) x21.2.2.1)))) 8)
                                        (nx8 (((), (), IntKind.wrap .i64 (i9 + 1), ()), (x21.2.1, (([] ++ (List.take (Int.toNat zk14) (List.drop 0 x21.2.2.1))) ++ [y22]) ++ (List.take ((List.length x21.2.2.1) - (Int.toNat zk14)) (List.drop (Int.toNat zk14) x21.2.2.1)), ())))
                                        (none))
                                      (none))
                                    (cond (smallB ((List.length (([] ++ (List.take (Int.toNat zk14) (List.drop 0 x21.2.2.1))) ++ [y22])) + 0) 8)
                                      (nx8 (((), (), IntKind.wrap .i64 (i9 + 1), ()), (x21.2.1, (([] ++ (List.take (Int.toNat zk14) (List.drop 0 x21.2.2.1))) ++ [y22]) ++ [], ())))
                                      (none)))
                                  (none))
                                (none))
                              (none))
                            (none))
                          (none))
                        (none))
                      (none))
                    (none))
                  (none)) some)))
            (none))
          (none))
        (none))
      (none))
    (Option.bind (α := (((Unit × (Unit × Unit)) × ((List Int) × ((List Int) × Unit))) ⊕ (List Int)))
      (cond (decide (zk14 < (List.length z16 : Int)))
        (cond (decide (0 ≤ zk14))
          (cond (decide ((Int.toNat zk14) < (List.length z16)))
            (Option.bind (z16[Int.toNat zk14]?) fun y23 =>
            cond (decide (0 ≤ i9))
              (cond (decide ((Int.toNat i9) < (List.length z15)))
                (Option.bind (z15[Int.toNat i9]?) fun y24 =>
                cond (decide (y23 = y24))
                  (Option.map Sum.inr
                    (nx8 (((), (), IntKind.wrap .i64 (i9 + 1), ()), (z15, z16, ()))))
                  (some (.inl (((), (), ()), (z15, z16, ())))))
                (none))
              (none))
            (none))
          (none))
        (some (.inl (((), (), ()), (z15, z16, ()))))) (Sum.elim (fun x25 =>
      cond (decide (0 ≤ zk14))
        (cond (decide ((Int.toNat zk14) ≤ (List.length x25.2.2.1)))
          (cond (decide ((0 + (Int.toNat zk14)) ≤ (List.length x25.2.2.1)))
            (cond (smallB (List.length (List.take (Int.toNat zk14) (List.drop 0 x25.2.2.1))) 8)
              (cond (decide (0 ≤ i9))
                (cond (decide ((Int.toNat i9) < (List.length x25.2.1)))
                  (Option.bind (x25.2.1[Int.toNat i9]?) fun y26 =>
                  cond (smallB ((List.length ([] ++ (List.take (Int.toNat zk14) (List.drop 0 x25.2.2.1)))) + 1) 8)
                    (cond (decide (0 ≤ zk14))
                      (cond (decide ((Int.toNat zk14) ≤ (List.length x25.2.2.1)))
                        (cond ((decide ((Int.toNat zk14) = 0)) || (decide ((Int.toNat zk14) < (List.length x25.2.2.1))))
                          (cond (decide (((Int.toNat zk14) + ((List.length x25.2.2.1) - (Int.toNat zk14))) ≤ (List.length x25.2.2.1)))
                            (cond (smallB ((List.length (([] ++ (List.take (Int.toNat zk14) (List.drop 0 x25.2.2.1))) ++ [y26])) + (List.length (List.take ((List.length x25.2.2.1) - (Int.toNat zk14)) (List.drop (Int.toNat zk14) x25.2.2.1)))) 8)
                              (nx8 (((), (), IntKind.wrap .i64 (i9 + 1), ()), (x25.2.1, (([] ++ (List.take (Int.toNat zk14) (List.drop 0 x25.2.2.1))) ++ [y26]) ++ (List.take ((List.length x25.2.2.1) - (Int.toNat zk14)) (List.drop (Int.toNat zk14) x25.2.2.1)), ())))
                              (none))
                            (none))
                          (cond (smallB ((List.length (([] ++ (List.take (Int.toNat zk14) (List.drop 0 x25.2.2.1))) ++ [y26])) + 0) 8)
                            (nx8 (((), (), IntKind.wrap .i64 (i9 + 1), ()), (x25.2.1, (([] ++ (List.take (Int.toNat zk14) (List.drop 0 x25.2.2.1))) ++ [y26]) ++ [], ())))
                            (none)))
                        (none))
                      (none))
                    (none))
                  (none))
                (none))
              (none))
            (none))
          (none))
        (none)) some))
def l89_1 (L : Lp) (nx8 : ((Unit × (Unit × (Int × Unit))) × ((List Int) × ((List Int) × Unit))) → Option (List Int)) (i9 : Int) (z10 : (List Int)) (z11 : (List Int)) : Option (List Int) :=
  cond (decide (i9 < (List.length z10 : Int)))
    (L (fun (s12 : ((Unit × (Unit × (Int × Unit))) × ((List Int) × ((List Int) × Unit)))) nx13 => l89_0 nx8 i9 nx13 s12.1.2.2.1 s12.2.1 s12.2.2.1) (((), (), 0, ()), (z10, z11, ())))
    (some z11)
def l89_2 (L : Lp) (al0 : (List Step)) (nx3 : ((Unit × (Int × Unit)) × ((List Int) × Unit)) → Option (List Int)) (i4 : Int) (z5 : (List Int)) : Option (List Int) :=
  cond (decide (i4 < (List.length al0 : Int)))
    (cond (decide (0 ≤ i4))
      (Option.bind (al0[Int.toNat i4]?) fun y6 =>
      cond (smallB ((List.length z5) + 1) 8)
        (nx3 (((), IntKind.wrap .i64 (i4 + 1), ()), (z5 ++ [y6.at_], ())))
        (none))
      (none))
    (L (fun (s7 : ((Unit × (Unit × (Int × Unit))) × ((List Int) × ((List Int) × Unit)))) nx8 => l89_1 L nx8 s7.1.2.2.1 s7.2.1 s7.2.2.1) (((), (), 0, ()), (z5, [], ())))
def F89 (L : Lp)  (al0 : (List Step)) (more1 : (List Int)) : Option (List Int) :=
  cond (smallB (0 + (List.length more1)) 8)
    (L (fun (s2 : ((Unit × (Int × Unit)) × ((List Int) × Unit))) nx3 => l89_2 L al0 nx3 s2.1.2.1 s2.2.1) (((), 0, ()), ([] ++ more1, ())))
    (none)
theorem e89 (L : Lp)  (x : s89.args.den) (h : denH s89.heap) : nrun [] L n89 s89 x h = F89 L  x.1 x.2.1 := by kernel_rfl
def f89 : (List Step) → (List Int) → Option (List Int) := F89 (@LN LOOPS) 
@[reducible] def t89 : Ent := ⟨89, s89, fun x h => f89 x.1 x.2.1⟩
theorem k89 : chkNF Try.prog Try.f89 n89 = true := by kernel_rfl
theorem ok89 : NOk Try.prog t89 := NOk.body (T := []) mixed nall_nil (oneEach_of (by kernel_rfl)) Try.func89 k89 (by kernel_rfl) (fun x h => e89 _  x h)
/- drayage/drayageref02.low -/
def n117 : NFunc := ⟨10, .seq (.region 0 [
    ⟨(some 4), .move (.const (.int .i64 (0))), none, 0, none⟩] []) (.seq (.seq (.region 0 [
    ⟨(some 5), .move (.tmp 0), none, 0, none⟩,
    ⟨(some 6), .move (.tmp 1), none, 0, none⟩,
    ⟨(some 7), .bin .lss (.tmp 5) (.tmp 6), none, 0, none⟩] []) (.cond (.tmp 7) (.seq (.region 0 [
    ⟨(some 8), .move (.tmp 0), none, 0, none⟩,
    ⟨(some 4), .move (.tmp 8), none, 0, none⟩] []) (.ret)) (.skip))) (.seq (.region 0 [
    ⟨(some 9), .move (.tmp 1), none, 0, none⟩,
    ⟨(some 4), .move (.tmp 9), none, 0, none⟩] []) (.ret))), [.tmp 4], true⟩
def s117 : Sig := ⟨(.cons (.v (.int .i64)) (.cons (.v (.int .i64)) .nil)), [], ((.v (.int .i64)), []), []⟩
def F117 (L : Lp)  (a0 : Int) (b1 : Int) : Option Int :=
  cond (decide (a0 < b1))
    (some a0)
    (some b1)
theorem e117 (L : Lp)  (x : s117.args.den) (h : denH s117.heap) : nrun [] L n117 s117 x h = F117 L  x.1 x.2.1 := by kernel_rfl
def f117 : Int → Int → Option Int := F117 (@LN LOOPS) 
@[reducible] def t117 : Ent := ⟨117, s117, fun x h => f117 x.1 x.2.1⟩
theorem k117 : chkNF Try.prog Try.f117 n117 = true := by kernel_rfl
theorem ok117 : NOk Try.prog t117 := NOk.body (T := []) mixed nall_nil (oneEach_of (by kernel_rfl)) Try.func117 k117 (by kernel_rfl) (fun x h => e117 _  x h)
/- drayage/drayageref02.Least -/
def n90 : NFunc := ⟨26, .seq (.region 3 [
    ⟨(some 2), .box 4 (.tmp 0), none, 0, none⟩,
    ⟨(some 3), .box 4 (.tmp 1), none, 1, none⟩,
    ⟨(some 4), .alloc [.int .i64 (0), .int .i64 (0), .int .i64 (0), .int .i64 (0)], none, 2, none⟩] []) (.seq (.region 16 [
    ⟨(some 5), .fieldAddr 0 (.tmp 2), none, 0, (some ([], none))⟩,
    ⟨(some 6), .load false 1 (.tmp 5), none, 0, (some ([], none))⟩,
    ⟨(some 7), .fieldAddr 0 (.tmp 3), none, 0, (some ([], none))⟩,
    ⟨(some 8), .load false 1 (.tmp 7), none, 0, (some ([], none))⟩,
    ⟨(some 9), .call (.func 117) [(false, (.tmp 6)), (false, (.tmp 8))] true 4, none, 0, (some ([], none))⟩,
    ⟨(some 10), .fieldAddr 1 (.tmp 2), none, 4, (some ([], none))⟩,
    ⟨(some 11), .load false 1 (.tmp 10), none, 4, (some ([], none))⟩,
    ⟨(some 12), .fieldAddr 1 (.tmp 3), none, 4, (some ([], none))⟩,
    ⟨(some 13), .load false 1 (.tmp 12), none, 4, (some ([], none))⟩,
    ⟨(some 14), .call (.func 117) [(false, (.tmp 11)), (false, (.tmp 13))] true 4, none, 4, (some ([0, 1, 2, 3], none))⟩,
    ⟨(some 15), .fieldAddr 2 (.tmp 2), none, 8, (some ([], none))⟩,
    ⟨(some 16), .load false 1 (.tmp 15), none, 8, (some ([], none))⟩,
    ⟨(some 17), .fieldAddr 2 (.tmp 3), none, 8, (some ([], none))⟩,
    ⟨(some 18), .load false 1 (.tmp 17), none, 8, (some ([], none))⟩,
    ⟨(some 19), .call (.func 117) [(false, (.tmp 16)), (false, (.tmp 18))] true 4, none, 8, (some ([0, 1, 2, 3, 4, 5, 6, 7], none))⟩,
    ⟨(some 20), .fieldAddr 3 (.tmp 2), none, 12, (some ([], none))⟩,
    ⟨(some 21), .load false 1 (.tmp 20), none, 12, (some ([], none))⟩,
    ⟨(some 22), .fieldAddr 3 (.tmp 3), none, 12, (some ([], none))⟩,
    ⟨(some 23), .load false 1 (.tmp 22), none, 12, (some ([], none))⟩,
    ⟨(some 24), .call (.func 117) [(false, (.tmp 21)), (false, (.tmp 23))] false 4, none, 12, (some ([0, 1, 2, 3, 4, 5, 6, 7, 8, 9, 10, 11], none))⟩,
    ⟨(some 25), .build [.int .i64 (0), .int .i64 (0), .int .i64 (0), .int .i64 (0)] [(0, 1, (.tmp 9)), (1, 1, (.tmp 14)), (2, 1, (.tmp 19)), (3, 1, (.tmp 24))], none, 16, (some ([0, 1, 2, 3, 4, 5, 6, 7, 8, 9, 10, 11, 12, 13, 14, 15], none))⟩,
    ⟨none, .store 4 (.tmp 4) (.tmp 25), none, 16, (some ([0, 1, 2, 3, 4, 5, 6, 7, 8, 9, 10, 11, 12, 13, 14, 15], none))⟩] []) (.ret)), [.cell true 4 4], true⟩
def s90 : Sig := ⟨(.cons (.v .res) (.cons (.v .res) .nil)), [], ((.v .res), []), []⟩
def F90 (L : Lp) (g117 : Int → Int → Option Int) (a0 : Res) (b1 : Res) : Option Res :=
  Option.bind (g117 a0.cpu b1.cpu) fun r2 =>
  Option.bind (g117 a0.mem b1.mem) fun r3 =>
  Option.bind (g117 a0.gpu b1.gpu) fun r4 =>
  Option.bind (g117 a0.lic b1.lic) fun r5 =>
  some (Res.mk r2 r3 r4 r5)
theorem e90 (L : Lp) (g117 : Int → Int → Option Int) (x : s90.args.den) (h : denH s90.heap) : nrun [⟨117, s117, fun x h => g117 x.1 x.2.1⟩] L n90 s90 x h = F90 L g117 x.1 x.2.1 := by kernel_rfl
def f90 : Res → Res → Option Res := F90 (@LN LOOPS) f117
@[reducible] def t90 : Ent := ⟨90, s90, fun x h => f90 x.1 x.2.1⟩
theorem k90 : chkNF Try.prog Try.f90 n90 = true := by kernel_rfl
theorem ok90 : NOk Try.prog t90 := NOk.body (T := [t117]) mixed (nall_cons ok117 nall_nil) (oneEach_of (by kernel_rfl)) Try.func90 k90 (by kernel_rfl) (fun x h => e90 _ _ x h)
/- drayage/drayageref10.Least -/
def n39 : NFunc := ⟨61, .seq (.region 1 [
    ⟨(some 6), .alloc [.int .i64 (0), .int .i64 (0), .int .i64 (0), .int .i64 (0)], none, 0, none⟩] []) (.seq (.seq (.region 4 [
    ⟨(some 10), .move (.tmp 0), none, 0, none⟩,
    ⟨(some 11), .call (.func 36) [(false, (.tmp 10))] false 4, none, 0, none⟩,
    ⟨(some 12), .un .not (.tmp 11), none, 4, none⟩,
    ⟨(some 13), .move (.tmp 12), none, 4, none⟩,
    ⟨(some 14), .move (.tmp 1), (some (13, false)), 4, none⟩,
    ⟨(some 15), .move (.tmp 0), (some (13, false)), 4, none⟩,
    ⟨(some 16), .indexSl 5 (.tmp 15) (.const (.int .i64 (0))), (some (13, false)), 4, none⟩,
    ⟨(some 17), .fieldAddr 0 (.tmp 16), (some (13, false)), 4, none⟩,
    ⟨(some 18), .load false 1 (.tmp 17), (some (13, false)), 4, none⟩,
    ⟨(some 19), .bin .lss (.tmp 14) (.tmp 18), (some (13, false)), 4, none⟩,
    ⟨(some 20), .pick (.tmp 13) (.const (.bool true)) (.tmp 19), none, 4, none⟩,
    ⟨(some 21), .move (.tmp 20), none, 4, none⟩,
    ⟨(some 22), .move (.tmp 2), (some (21, false)), 4, none⟩,
    ⟨(some 23), .move (.tmp 1), (some (21, false)), 4, none⟩,
    ⟨(some 24), .bin .leq (.tmp 22) (.tmp 23), (some (21, false)), 4, none⟩,
    ⟨(some 25), .pick (.tmp 21) (.const (.bool true)) (.tmp 24), none, 4, none⟩] []) (.cond (.tmp 25) (.seq (.region 0 [
    ⟨(some 26), .build [.int .i64 (0), .int .i64 (0), .int .i64 (0), .int .i64 (0)] [], none, 0, none⟩,
    ⟨none, .store 4 (.tmp 6) (.tmp 26), none, 0, none⟩] []) (.ret)) (.skip))) (.seq (.region 5 [
    ⟨(some 27), .move (.tmp 0), none, 0, none⟩,
    ⟨(some 28), .move (.tmp 1), none, 0, none⟩,
    ⟨(some 29), .call (.func 42) [(false, (.tmp 27)), (false, (.tmp 28))] false 4, none, 0, none⟩,
    ⟨(some 7), .alloc [.int .i64 (0), .int .i64 (0), .int .i64 (0), .int .i64 (0)], none, 4, none⟩,
    ⟨none, .store 4 (.tmp 7) (.tmp 29), none, 5, none⟩] []) (.seq (.region 4 [
    ⟨(some 30), .move (.tmp 0), none, 0, none⟩,
    ⟨(some 31), .call (.func 89) [(false, (.tmp 30)), (false, (.const (.zsl)))] false 4, none, 0, none⟩,
    ⟨(some 8), .move (.tmp 31), none, 4, none⟩] []) (.seq (.seq (.region 0 [
    ⟨(some 9), .move (.const (.int .i64 (0))), none, 0, none⟩] []) (.block 0 (.loop [0, 1, 2, 6, 7, 8, 9] ⟨[(6, (.ptr 0 0 0)), (7, (.ptr 1 0 0)), (9, (.v (.int .i64)))], [0, 1, 2, 8], [.one false .res, .one false .res]⟩ (.seq (.seq (.region 0 [
    ⟨(some 32), .move (.tmp 9), none, 0, none⟩,
    ⟨(some 33), .move (.tmp 8), none, 0, none⟩,
    ⟨(some 34), .len (.tmp 33), none, 0, none⟩,
    ⟨(some 35), .bin .lss (.tmp 32) (.tmp 34), none, 0, none⟩] []) (.cond (.tmp 35) (.skip) (.exit 0))) (.seq (.block 1 (.seq (.region 0 [
    ⟨(some 38), .move (.tmp 8), none, 0, none⟩,
    ⟨(some 39), .move (.tmp 9), none, 0, none⟩,
    ⟨(some 40), .indexSl 1 (.tmp 38) (.tmp 39), none, 0, none⟩,
    ⟨(some 41), .load false 1 (.tmp 40), none, 0, none⟩,
    ⟨(some 42), .move (.tmp 1), none, 0, none⟩,
    ⟨(some 43), .bin .geq (.tmp 41) (.tmp 42), none, 0, none⟩,
    ⟨(some 44), .move (.tmp 43), none, 0, none⟩,
    ⟨(some 45), .move (.tmp 8), (some (44, true)), 0, none⟩,
    ⟨(some 46), .move (.tmp 9), (some (44, true)), 0, none⟩,
    ⟨(some 47), .indexSl 1 (.tmp 45) (.tmp 46), (some (44, true)), 0, none⟩,
    ⟨(some 48), .load false 1 (.tmp 47), (some (44, true)), 0, none⟩,
    ⟨(some 49), .move (.tmp 2), (some (44, true)), 0, none⟩,
    ⟨(some 50), .bin .lss (.tmp 48) (.tmp 49), (some (44, true)), 0, none⟩,
    ⟨(some 51), .pick (.tmp 44) (.tmp 50) (.const (.bool false)), none, 0, none⟩] []) (.cond (.tmp 51) (.region 8 [
    ⟨(some 52), .load true 4 (.tmp 7), none, 0, (some ([], none))⟩,
    ⟨(some 53), .move (.tmp 0), none, 0, (some ([], none))⟩,
    ⟨(some 54), .move (.tmp 8), none, 0, (some ([], none))⟩,
    ⟨(some 55), .move (.tmp 9), none, 0, (some ([], none))⟩,
    ⟨(some 56), .indexSl 1 (.tmp 54) (.tmp 55), none, 0, (some ([], none))⟩,
    ⟨(some 57), .load false 1 (.tmp 56), none, 0, (some ([], none))⟩,
    ⟨(some 58), .call (.func 42) [(false, (.tmp 53)), (false, (.tmp 57))] true 4, none, 0, (some ([], none))⟩,
    ⟨(some 59), .call (.func 90) [(false, (.tmp 52)), (false, (.tmp 58))] false 4, none, 4, (some ([0, 1, 2, 3], none))⟩,
    ⟨none, .store 4 (.tmp 7) (.tmp 59), none, 8, (some ([0, 1, 2, 3, 4, 5, 6, 7], none))⟩] []) (.skip)))) (.region 0 [
    ⟨(some 36), .move (.tmp 9), none, 0, none⟩,
    ⟨(some 37), .bin .add (.tmp 36) (.const (.int .i64 (1))), none, 0, none⟩,
    ⟨(some 9), .move (.tmp 37), none, 0, none⟩] [])))))) (.seq (.region 0 [
    ⟨(some 60), .load true 4 (.tmp 7), none, 0, none⟩,
    ⟨none, .store 4 (.tmp 6) (.tmp 60), none, 0, none⟩] []) (.ret)))))), [.cell true 4 6], true⟩
def s39 : Sig := ⟨(.cons (.v (.list .step)) (.cons (.v (.int .i64)) (.cons (.v (.int .i64)) .nil))), [], ((.v .res), []), []⟩
def l39_0 (g42 : (List Step) → Int → Option Res) (g90 : Res → Res → Option Res) (al0 : (List Step)) (from1 : Int) (to2 : Int) (r6 : (List Int)) (nx8 : ((Unit × (Unit × (Int × Unit))) × (Res × (Res × Unit))) → Option Res) (i9 : Int) (z10 : Res) (z11 : Res) : Option Res :=
  cond (decide (i9 < (List.length r6 : Int)))
    (cond (decide (0 ≤ i9))
      (Option.bind (r6[Int.toNat i9]?) fun y12 =>
      cond (decide (from1 ≤ y12))
        (cond (decide (0 ≤ i9))
          (Option.bind (r6[Int.toNat i9]?) fun y13 =>
          cond (decide (y13 < to2))
            (cond (decide (0 ≤ i9))
              (Option.bind (r6[Int.toNat i9]?) fun y14 =>
              Option.bind (g42 al0 y14) fun r15 =>
              Option.bind (g90 z11 r15) fun r16 =>
              nx8 (((), (), IntKind.wrap .i64 (i9 + 1), ()), (z10, r16, ())))
              (none))
            (nx8 (((), (), IntKind.wrap .i64 (i9 + 1), ()), (z10, z11, ()))))
          (none))
        (nx8 (((), (), IntKind.wrap .i64 (i9 + 1), ()), (z10, z11, ()))))
      (none))
    (some z11)
def F39 (L : Lp) (g36 : (List Step) → Option Bool) (g42 : (List Step) → Int → Option Res) (g89 : (List Step) → (List Int) → Option (List Int)) (g90 : Res → Res → Option Res) (al0 : (List Step)) (from1 : Int) (to2 : Int) : Option Res :=
  Option.bind (g36 al0) fun r3 =>
  cond (!r3)
    (some (Res.mk 0 0 0 0))
    (Option.bind (al0[0]?) fun y4 =>
    cond (decide (from1 < y4.at_))
      (some (Res.mk 0 0 0 0))
      (cond (decide (to2 ≤ from1))
        (some (Res.mk 0 0 0 0))
        (Option.bind (g42 al0 from1) fun r5 =>
        Option.bind (g89 al0 []) fun r6 =>
        L (fun (s7 : ((Unit × (Unit × (Int × Unit))) × (Res × (Res × Unit)))) nx8 => l39_0 g42 g90 al0 from1 to2 r6 nx8 s7.1.2.2.1 s7.2.1 s7.2.2.1) (((), (), 0, ()), (Res.mk 0 0 0 0, r5, ())))))
theorem e39 (L : Lp) (g36 : (List Step) → Option Bool) (g42 : (List Step) → Int → Option Res) (g89 : (List Step) → (List Int) → Option (List Int)) (g90 : Res → Res → Option Res) (x : s39.args.den) (h : denH s39.heap) : nrun [⟨36, s36, fun x h => g36 x.1⟩, ⟨42, s42, fun x h => g42 x.1 x.2.1⟩, ⟨89, s89, fun x h => g89 x.1 x.2.1⟩, ⟨90, s90, fun x h => g90 x.1 x.2.1⟩] L n39 s39 x h = F39 L g36 g42 g89 g90 x.1 x.2.1 x.2.2.1 := by kernel_rfl
def f39 : (List Step) → Int → Int → Option Res := F39 (@LN LOOPS) f36 f42 f89 f90
@[reducible] def t39 : Ent := ⟨39, s39, fun x h => f39 x.1 x.2.1 x.2.2.1⟩
theorem k39 : chkNF Try.prog Try.f39 n39 = true := by kernel_rfl
theorem ok39 : NOk Try.prog t39 := NOk.body (T := [t36, t42, t89, t90]) mixed (nall_cons ok36 (nall_cons ok42 (nall_cons ok89 (nall_cons ok90 nall_nil)))) (oneEach_of (by kernel_rfl)) Try.func39 k39 (by kernel_rfl) (fun x h => e39 _ _ _ _ _ x h)
/- drayage/steps.At -/
def n40 : NFunc := ⟨24, .seq (.region 1 [
    ⟨(some 4), .alloc [.int .i64 (0), .int .i64 (0), .int .i64 (0), .int .i64 (0)], none, 0, none⟩] []) (.seq (.seq (.region 4 [
    ⟨(some 5), .move (.tmp 0), none, 0, none⟩,
    ⟨(some 6), .call (.func 37) [(false, (.tmp 5))] false 4, none, 0, none⟩,
    ⟨(some 7), .un .not (.tmp 6), none, 4, none⟩,
    ⟨(some 8), .move (.tmp 7), none, 4, none⟩,
    ⟨(some 9), .move (.tmp 1), (some (8, false)), 4, none⟩,
    ⟨(some 10), .move (.tmp 0), (some (8, false)), 4, none⟩,
    ⟨(some 11), .indexSl 5 (.tmp 10) (.const (.int .i64 (0))), (some (8, false)), 4, none⟩,
    ⟨(some 12), .fieldAddr 0 (.tmp 11), (some (8, false)), 4, none⟩,
    ⟨(some 13), .load false 1 (.tmp 12), (some (8, false)), 4, none⟩,
    ⟨(some 14), .bin .lss (.tmp 9) (.tmp 13), (some (8, false)), 4, none⟩,
    ⟨(some 15), .pick (.tmp 8) (.const (.bool true)) (.tmp 14), none, 4, none⟩] []) (.cond (.tmp 15) (.seq (.region 0 [
    ⟨(some 16), .build [.int .i64 (0), .int .i64 (0), .int .i64 (0), .int .i64 (0)] [], none, 0, none⟩,
    ⟨none, .store 4 (.tmp 4) (.tmp 16), none, 0, none⟩] []) (.ret)) (.skip))) (.seq (.region 4 [
    ⟨(some 17), .move (.tmp 0), none, 0, none⟩,
    ⟨(some 18), .move (.tmp 0), none, 0, none⟩,
    ⟨(some 19), .move (.tmp 1), none, 0, none⟩,
    ⟨(some 20), .call (.func 87) [(false, (.tmp 18)), (false, (.tmp 19))] false 4, none, 0, none⟩,
    ⟨(some 21), .indexSl 5 (.tmp 17) (.tmp 20), none, 4, none⟩,
    ⟨(some 22), .fieldAddr 1 (.tmp 21), none, 4, none⟩,
    ⟨(some 23), .load true 4 (.tmp 22), none, 4, none⟩,
    ⟨none, .store 4 (.tmp 4) (.tmp 23), none, 4, none⟩] []) (.ret))), [.cell true 4 4], true⟩
def s40 : Sig := ⟨(.cons (.v (.list .step)) (.cons (.v (.int .i64)) .nil)), [], ((.v .res), []), []⟩
def F40 (L : Lp) (g37 : (List Step) → Option Bool) (g87 : (List Step) → Int → Option Int) (al0 : (List Step)) (at1 : Int) : Option Res :=
  Option.bind (g37 al0) fun r2 =>
  cond (!r2)
    (some (Res.mk 0 0 0 0))
    (Option.bind (al0[0]?) fun y3 =>
    cond (decide (at1 < y3.at_))
      (some (Res.mk 0 0 0 0))
      (Option.bind (g87 al0 at1) fun r4 =>
      cond (decide (0 ≤ r4))
        (Option.bind (al0[Int.toNat r4]?) fun y5 =>
        some y5.free)
        (none)))
theorem e40 (L : Lp) (g37 : (List Step) → Option Bool) (g87 : (List Step) → Int → Option Int) (x : s40.args.den) (h : denH s40.heap) : nrun [⟨37, s37, fun x h => g37 x.1⟩, ⟨87, s87, fun x h => g87 x.1 x.2.1⟩] L n40 s40 x h = F40 L g37 g87 x.1 x.2.1 := by kernel_rfl
def f40 : (List Step) → Int → Option Res := F40 (@LN LOOPS) f37 f87
@[reducible] def t40 : Ent := ⟨40, s40, fun x h => f40 x.1 x.2.1⟩
theorem k40 : chkNF Try.prog Try.f40 n40 = true := by kernel_rfl
theorem ok40 : NOk Try.prog t40 := NOk.body (T := [t37, t87]) mixed (nall_cons ok37 (nall_cons ok87 nall_nil)) (oneEach_of (by kernel_rfl)) Try.func40 k40 (by kernel_rfl) (fun x h => e40 _ _ _ x h)
/- drayage/drayageref10.Plain -/
def n43 : NFunc := ⟨35, .seq (.region 0 [
    ⟨(some 2), .move (.const (.zsl)), none, 0, none⟩] []) (.seq (.region 0 [
    ⟨(some 3), .move (.const (.zsl)), none, 0, none⟩] []) (.seq (.seq (.region 0 [
    ⟨(some 4), .move (.const (.int .i64 (0))), none, 0, none⟩] []) (.block 0 (.pre [0, 3, 4] [.mat 3 5 true] (.loop [0, 3, 4] ⟨[(3, (.slw 0 5)), (4, (.v (.int .i64)))], [0], [.typed .step]⟩ (.seq (.seq (.region 0 [
    ⟨(some 5), .move (.tmp 4), none, 0, none⟩,
    ⟨(some 6), .move (.tmp 0), none, 0, none⟩,
    ⟨(some 7), .len (.tmp 6), none, 0, none⟩,
    ⟨(some 8), .bin .lss (.tmp 5) (.tmp 7), none, 0, none⟩] []) (.cond (.tmp 8) (.skip) (.exit 0))) (.seq (.block 1 (.seq (.region 0 [
    ⟨(some 11), .move (.tmp 4), none, 0, (some ([], none))⟩,
    ⟨(some 12), .bin .eql (.tmp 11) (.const (.int .i64 (0))), none, 0, (some ([], none))⟩,
    ⟨(some 13), .move (.tmp 12), none, 0, (some ([], none))⟩,
    ⟨(some 14), .move (.tmp 0), (some (13, false)), 0, (some ([], none))⟩,
    ⟨(some 15), .move (.tmp 4), (some (13, false)), 0, (some ([], none))⟩,
    ⟨(some 16), .indexSl 5 (.tmp 14) (.tmp 15), (some (13, false)), 0, (some ([], none))⟩,
    ⟨(some 17), .fieldAddr 1 (.tmp 16), (some (13, false)), 0, (some ([], none))⟩,
    ⟨(some 18), .load true 4 (.tmp 17), (some (13, false)), 0, (some ([], none))⟩,
    ⟨(some 19), .move (.tmp 0), (some (13, false)), 0, (some ([], none))⟩,
    ⟨(some 20), .move (.tmp 4), (some (13, false)), 0, (some ([], none))⟩,
    ⟨(some 21), .bin .sub (.tmp 20) (.const (.int .i64 (1))), (some (13, false)), 0, (some ([], none))⟩,
    ⟨(some 22), .indexSl 5 (.tmp 19) (.tmp 21), (some (13, false)), 0, (some ([], none))⟩,
    ⟨(some 23), .fieldAddr 1 (.tmp 22), (some (13, false)), 0, (some ([], none))⟩,
    ⟨(some 24), .load true 4 (.tmp 23), (some (13, false)), 0, (some ([], none))⟩,
    ⟨(some 25), .eqAgg (true, [.int .i64, .int .i64, .int .i64, .int .i64]) (.tmp 18) (.tmp 24), (some (13, false)), 0, (some ([], none))⟩,
    ⟨(some 26), .pick (.tmp 13) (.const (.bool true)) (.tmp 25), none, 0, (some ([], none))⟩] []) (.cond (.tmp 26) (.region 2 [
    ⟨(some 27), .move (.tmp 3), none, 0, none⟩,
    ⟨(some 28), .move (.tmp 0), none, 0, none⟩,
    ⟨(some 29), .move (.tmp 4), none, 0, none⟩,
    ⟨(some 30), .indexSl 5 (.tmp 28) (.tmp 29), none, 0, none⟩,
    ⟨(some 31), .load true 5 (.tmp 30), none, 0, none⟩,
    ⟨(some 32), .buildSlice 5 1 true [.int .i64 (0), .int .i64 (0), .int .i64 (0), .int .i64 (0), .int .i64 (0)] [(0, (.tmp 31))], none, 0, none⟩,
    ⟨(some 33), .append 5 40 true (.tmp 27) (.tmp 32), none, 1, none⟩,
    ⟨(some 3), .move (.tmp 33), none, 2, none⟩] []) (.skip)))) (.region 0 [
    ⟨(some 9), .move (.tmp 4), none, 0, none⟩,
    ⟨(some 10), .bin .add (.tmp 9) (.const (.int .i64 (1))), none, 0, none⟩,
    ⟨(some 4), .move (.tmp 10), none, 0, none⟩] []))))))) (.seq (.region 0 [
    ⟨(some 34), .move (.tmp 3), none, 0, none⟩,
    ⟨(some 2), .move (.tmp 34), none, 0, none⟩] []) (.ret)))), [.tmp 2], true⟩
def s43 : Sig := ⟨(.cons (.v (.list .step)) .nil), [], ((.v (.list .step)), []), []⟩
def l43_0 (al0 : (List Step)) (nx2 : ((Unit × (Int × Unit)) × ((List Step) × Unit)) → Option (List Step)) (i3 : Int) (z4 : (List Step)) : Option (List Step) :=
  cond (decide (i3 < (List.length al0 : Int)))
    (cond (decide (i3 = 0))
      (cond (decide (0 ≤ i3))
        (Option.bind (al0[Int.toNat i3]?) fun y5 =>
        cond (smallB ((List.length z4) + 1) 40)
          (nx2 (((), IntKind.wrap .i64 (i3 + 1), ()), (z4 ++ [y5], ())))
          (none))
        (none))
      (cond (decide (0 ≤ i3))
        (Option.bind (al0[Int.toNat i3]?) fun y6 =>
        cond (decide (0 ≤ (IntKind.wrap .i64 (i3 - 1))))
          (Option.bind (al0[Int.toNat (IntKind.wrap .i64 (i3 - 1))]?) fun y7 =>
          cond (!((decide (y6.free.cpu = y7.free.cpu)) && ((decide (y6.free.mem = y7.free.mem)) && ((decide (y6.free.gpu = y7.free.gpu)) && ((decide (y6.free.lic = y7.free.lic)) && true)))))
            (cond (decide (0 ≤ i3))
              (Option.bind (al0[Int.toNat i3]?) fun y8 =>
              cond (smallB ((List.length z4) + 1) 40)
                (nx2 (((), IntKind.wrap .i64 (i3 + 1), ()), (z4 ++ [y8], ())))
                (none))
              (none))
            (nx2 (((), IntKind.wrap .i64 (i3 + 1), ()), (z4, ()))))
          (none))
        (none)))
    (some z4)
def F43 (L : Lp)  (al0 : (List Step)) : Option (List Step) :=
  L (fun (s1 : ((Unit × (Int × Unit)) × ((List Step) × Unit))) nx2 => l43_0 al0 nx2 s1.1.2.1 s1.2.1) (((), 0, ()), ([], ()))
theorem e43 (L : Lp)  (x : s43.args.den) (h : denH s43.heap) : nrun [] L n43 s43 x h = F43 L  x.1 := by kernel_rfl
def f43 : (List Step) → Option (List Step) := F43 (@LN LOOPS) 
@[reducible] def t43 : Ent := ⟨43, s43, fun x h => f43 x.1⟩
theorem k43 : chkNF Try.prog Try.f43 n43 = true := by kernel_rfl
theorem ok43 : NOk Try.prog t43 := NOk.body (T := []) mixed nall_nil (oneEach_of (by kernel_rfl)) Try.func43 k43 (by kernel_rfl) (fun x h => e43 _  x h)
/- drayage/drayagelaw10.StepsTells -/
def n8 : NFunc := ⟨100, .seq (.region 2 [
    ⟨(some 4), .box 3 (.tmp 1), none, 0, none⟩,
    ⟨(some 5), .box 4 (.tmp 2), none, 1, none⟩,
    ⟨(some 6), .move (.const (.bool false)), none, 2, none⟩] []) (.seq (.seq (.region 4 [
    ⟨(some 13), .call (.func 30) [] false 4, none, 0, none⟩,
    ⟨(some 14), .un .not (.tmp 13), none, 4, none⟩] []) (.cond (.tmp 14) (.seq (.region 0 [
    ⟨(some 6), .move (.const (.bool false)), none, 0, none⟩] []) (.ret)) (.skip))) (.seq (.seq (.region 0 [
    ⟨(some 15), .move (.tmp 0), none, 0, none⟩,
    ⟨(some 16), .len (.tmp 15), none, 0, none⟩,
    ⟨(some 17), .bin .gtr (.tmp 16) (.const (.int .i64 (60))), none, 0, none⟩] []) (.cond (.tmp 17) (.seq (.region 0 [
    ⟨(some 6), .move (.const (.bool true)), none, 0, none⟩] []) (.ret)) (.skip))) (.seq (.region 0 [
    ⟨(some 18), .indexArr 3 1 (.tmp 4) (.const (.int .i64 (0))), none, 0, (some ([], none))⟩,
    ⟨(some 19), .load false 1 (.tmp 18), none, 0, (some ([], none))⟩,
    ⟨(some 20), .indexArr 3 1 (.tmp 4) (.const (.int .i64 (1))), none, 0, (some ([], none))⟩,
    ⟨(some 21), .load false 1 (.tmp 20), none, 0, (some ([], none))⟩,
    ⟨(some 22), .indexArr 3 1 (.tmp 4) (.const (.int .i64 (2))), none, 0, (some ([], none))⟩,
    ⟨(some 23), .load false 1 (.tmp 22), none, 0, (some ([], none))⟩,
    ⟨(some 7), .move (.tmp 19), none, 0, (some ([], none))⟩,
    ⟨(some 8), .move (.tmp 21), none, 0, (some ([], none))⟩,
    ⟨(some 9), .move (.tmp 23), none, 0, (some ([], none))⟩] []) (.seq (.region 4 [
    ⟨(some 25), .move (.tmp 7), none, 0, none⟩,
    ⟨(some 26), .load true 4 (.tmp 5), none, 0, none⟩,
    ⟨(some 27), .call (.func 33) [(false, (.tmp 25)), (false, (.tmp 26))] false 4, none, 0, none⟩,
    ⟨(some 24), .move (.tmp 27), none, 4, none⟩,
    ⟨(some 28), .extract (.tmp 24) 0, none, 4, none⟩,
    ⟨(some 29), .extract (.tmp 24) 1, none, 4, none⟩,
    ⟨(some 10), .move (.tmp 28), none, 4, none⟩,
    ⟨(some 11), .move (.tmp 29), none, 4, none⟩] []) (.seq (.join [0, 7, 9, 8] [] ⟨[], [0, 7, 8, 9], []⟩ (.seq (.region 8 [
    ⟨(some 30), .move (.tmp 7), none, 0, none⟩,
    ⟨(some 31), .call (.func 34) [(false, (.tmp 30))] false 4, none, 0, none⟩,
    ⟨(some 32), .un .not (.tmp 31), none, 4, none⟩,
    ⟨(some 33), .move (.tmp 32), none, 4, none⟩,
    ⟨(some 34), .load true 4 (.tmp 5), (some (33, false)), 4, none⟩,
    ⟨(some 35), .call (.func 35) [(false, (.tmp 34))] false 4, (some (33, false)), 4, none⟩,
    ⟨(some 36), .un .not (.tmp 35), (some (33, false)), 8, none⟩,
    ⟨(some 37), .pick (.tmp 33) (.const (.bool true)) (.tmp 36), none, 8, none⟩] []) (.cond (.tmp 37) (.seq (.region 0 [
    ⟨(some 38), .move (.tmp 11), none, 0, none⟩,
    ⟨(some 39), .bin .neq (.tmp 38) (.const (.int .i64 (2))), none, 0, none⟩,
    ⟨(some 40), .move (.tmp 39), none, 0, none⟩,
    ⟨(some 41), .move (.tmp 10), (some (40, false)), 0, none⟩,
    ⟨(some 42), .len (.tmp 41), (some (40, false)), 0, none⟩,
    ⟨(some 43), .bin .gtr (.tmp 42) (.const (.int .i64 (0))), (some (40, false)), 0, none⟩,
    ⟨(some 44), .pick (.tmp 40) (.const (.bool true)) (.tmp 43), none, 0, none⟩] []) (.cond (.tmp 44) (.seq (.region 0 [
    ⟨(some 6), .move (.const (.bool false)), none, 0, none⟩] []) (.ret)) (.skip))) (.seq (.region 5 [
    ⟨(some 45), .move (.tmp 11), none, 0, none⟩,
    ⟨(some 46), .bin .neq (.tmp 45) (.const (.int .i64 (0))), none, 0, none⟩,
    ⟨(some 47), .move (.tmp 46), none, 0, none⟩,
    ⟨(some 48), .move (.tmp 10), (some (47, false)), 0, none⟩,
    ⟨(some 49), .move (.tmp 7), (some (47, false)), 0, none⟩,
    ⟨(some 50), .load true 4 (.tmp 5), (some (47, false)), 0, none⟩,
    ⟨(some 51), .build [.int .i64 (0), .int .i64 (0), .int .i64 (0), .int .i64 (0), .int .i64 (0)] [(0, 1, (.tmp 49)), (1, 4, (.tmp 50))], (some (47, false)), 0, none⟩,
    ⟨(some 52), .buildSlice 5 1 true [.int .i64 (0), .int .i64 (0), .int .i64 (0), .int .i64 (0), .int .i64 (0)] [(0, (.tmp 51))], (some (47, false)), 0, none⟩,
    ⟨(some 53), .call (.func 32) [(false, (.tmp 48)), (false, (.tmp 52))] false 4, (some (47, false)), 1, none⟩,
    ⟨(some 54), .un .not (.tmp 53), (some (47, false)), 5, none⟩,
    ⟨(some 55), .pick (.tmp 47) (.const (.bool true)) (.tmp 54), none, 5, none⟩] []) (.cond (.tmp 55) (.seq (.region 0 [
    ⟨(some 6), .move (.const (.bool false)), none, 0, none⟩] []) (.ret)) (.skip)))))) (.seq (.region 4 [
    ⟨(some 56), .move (.tmp 0), none, 0, none⟩,
    ⟨(some 57), .call (.func 36) [(false, (.tmp 56))] false 4, none, 0, none⟩,
    ⟨(some 12), .move (.tmp 57), none, 4, none⟩] []) (.seq (.seq (.region 12 [
    ⟨(some 58), .move (.tmp 0), none, 0, none⟩,
    ⟨(some 59), .call (.func 37) [(false, (.tmp 58))] false 4, none, 0, none⟩,
    ⟨(some 60), .move (.tmp 12), none, 4, none⟩,
    ⟨(some 61), .eqB true (.tmp 59) (.tmp 60), none, 4, none⟩,
    ⟨(some 62), .move (.tmp 61), none, 4, none⟩,
    ⟨(some 63), .move (.tmp 0), (some (62, false)), 4, none⟩,
    ⟨(some 64), .move (.tmp 8), (some (62, false)), 4, none⟩,
    ⟨(some 65), .move (.tmp 9), (some (62, false)), 4, none⟩,
    ⟨(some 66), .call (.func 38) [(false, (.tmp 63)), (false, (.tmp 64)), (false, (.tmp 65))] false 4, (some (62, false)), 4, none⟩,
    ⟨(some 67), .move (.tmp 0), (some (62, false)), 8, none⟩,
    ⟨(some 68), .move (.tmp 8), (some (62, false)), 8, none⟩,
    ⟨(some 69), .move (.tmp 9), (some (62, false)), 8, none⟩,
    ⟨(some 70), .call (.func 39) [(false, (.tmp 67)), (false, (.tmp 68)), (false, (.tmp 69))] false 4, (some (62, false)), 8, none⟩,
    ⟨(some 71), .eqAgg (true, [.int .i64, .int .i64, .int .i64, .int .i64]) (.tmp 66) (.tmp 70), (some (62, false)), 12, none⟩,
    ⟨(some 72), .pick (.tmp 62) (.const (.bool true)) (.tmp 71), none, 12, none⟩] []) (.cond (.tmp 72) (.seq (.region 0 [
    ⟨(some 6), .move (.const (.bool false)), none, 0, none⟩] []) (.ret)) (.skip))) (.seq (.seq (.region 0 [
    ⟨(some 73), .move (.tmp 12), none, 0, none⟩,
    ⟨(some 74), .un .not (.tmp 73), none, 0, none⟩] []) (.cond (.tmp 74) (.seq (.region 8 [
    ⟨(some 75), .move (.tmp 0), none, 0, none⟩,
    ⟨(some 76), .move (.tmp 7), none, 0, none⟩,
    ⟨(some 77), .call (.func 40) [(false, (.tmp 75)), (false, (.tmp 76))] false 4, none, 0, none⟩,
    ⟨(some 78), .build [.int .i64 (0), .int .i64 (0), .int .i64 (0), .int .i64 (0)] [], none, 4, none⟩,
    ⟨(some 79), .eqAgg (false, [.int .i64, .int .i64, .int .i64, .int .i64]) (.tmp 77) (.tmp 78), none, 4, none⟩,
    ⟨(some 80), .move (.tmp 79), none, 4, none⟩,
    ⟨(some 81), .move (.tmp 0), (some (80, true)), 4, none⟩,
    ⟨(some 82), .call (.func 41) [(false, (.tmp 81))] false 4, (some (80, true)), 4, none⟩,
    ⟨(some 83), .len (.tmp 82), (some (80, true)), 8, none⟩,
    ⟨(some 84), .bin .eql (.tmp 83) (.const (.int .i64 (0))), (some (80, true)), 8, none⟩,
    ⟨(some 85), .pick (.tmp 80) (.tmp 84) (.const (.bool false)), none, 8, none⟩,
    ⟨(some 6), .move (.tmp 85), none, 8, none⟩] []) (.ret)) (.skip))) (.seq (.region 20 [
    ⟨(some 86), .move (.tmp 0), none, 0, none⟩,
    ⟨(some 87), .move (.tmp 7), none, 0, none⟩,
    ⟨(some 88), .call (.func 40) [(false, (.tmp 86)), (false, (.tmp 87))] false 4, none, 0, none⟩,
    ⟨(some 89), .move (.tmp 0), none, 4, none⟩,
    ⟨(some 90), .move (.tmp 7), none, 4, none⟩,
    ⟨(some 91), .call (.func 42) [(false, (.tmp 89)), (false, (.tmp 90))] false 4, none, 4, none⟩,
    ⟨(some 92), .eqAgg (false, [.int .i64, .int .i64, .int .i64, .int .i64]) (.tmp 88) (.tmp 91), none, 8, none⟩,
    ⟨(some 93), .move (.tmp 92), none, 8, none⟩,
    ⟨(some 94), .move (.tmp 0), (some (93, true)), 8, none⟩,
    ⟨(some 95), .call (.func 41) [(false, (.tmp 94))] false 4, (some (93, true)), 8, none⟩,
    ⟨(some 96), .move (.tmp 0), (some (93, true)), 12, none⟩,
    ⟨(some 97), .call (.func 43) [(false, (.tmp 96))] false 4, (some (93, true)), 12, none⟩,
    ⟨(some 98), .call (.func 32) [(false, (.tmp 95)), (false, (.tmp 97))] false 4, (some (93, true)), 16, none⟩,
    ⟨(some 99), .pick (.tmp 93) (.tmp 98) (.const (.bool false)), none, 20, none⟩,
    ⟨(some 6), .move (.tmp 99), none, 20, none⟩] []) (.ret)))))))))), [.tmp 6], true⟩
def s8 : Sig := ⟨(.cons (.v (.list .step)) (.cons (.v (.pair (.int .i64) (.pair (.int .i64) (.int .i64)))) (.cons (.v .res) .nil))), [], ((.v .bool), []), []⟩
def F8 (L : Lp) (g30 : Option Bool) (g33 : Int → Res → Option ((List Step) × (Int × Unit))) (g34 : Int → Option Bool) (g35 : Res → Option Bool) (g32 : (List Step) → (List Step) → Option Bool) (g36 : (List Step) → Option Bool) (g37 : (List Step) → Option Bool) (g38 : (List Step) → Int → Int → Option Res) (g39 : (List Step) → Int → Int → Option Res) (g40 : (List Step) → Int → Option Res) (g41 : (List Step) → Option (List Step)) (g42 : (List Step) → Int → Option Res) (g43 : (List Step) → Option (List Step)) (al0 : (List Step)) (ax1 : (Int × (Int × Int))) (free2 : Res) : Option Bool :=
  Option.bind (g30) fun r3 =>
  cond (!r3)
    (some false)
    (cond (decide (60 < (List.length al0 : Int)))
      (some true)
      (Option.bind (g33 ax1.1 free2) fun r4 =>
      Option.bind (α := ((Unit × Unit) ⊕ Bool))
        (Option.bind (g34 ax1.1) fun r5 =>
        cond (!r5)
          (cond (!decide (r4.2.1 = 2))
            (some (.inr false))
            (cond (decide (0 < (List.length r4.1 : Int)))
              (some (.inr false))
              (some (.inl ((), ())))))
          (Option.bind (g35 free2) fun r6 =>
          cond (!r6)
            (cond (!decide (r4.2.1 = 2))
              (some (.inr false))
              (cond (decide (0 < (List.length r4.1 : Int)))
                (some (.inr false))
                (some (.inl ((), ())))))
            (cond (!decide (r4.2.1 = 0))
              (some (.inr false))
              (Option.bind (g32 r4.1 [Step.mk ax1.1 free2]) fun r7 =>
              cond (!r7)
                (some (.inr false))
                (some (.inl ((), ()))))))) (Sum.elim (fun x8 =>
        Option.bind (g36 al0) fun r9 =>
        Option.bind (g37 al0) fun r10 =>
        cond (!(r10 == r9))
          (some false)
          (Option.bind (g38 al0 ax1.2.1 ax1.2.2) fun r11 =>
          Option.bind (g39 al0 ax1.2.1 ax1.2.2) fun r12 =>
          cond (!((decide (r11.cpu = r12.cpu)) && ((decide (r11.mem = r12.mem)) && ((decide (r11.gpu = r12.gpu)) && ((decide (r11.lic = r12.lic)) && true)))))
            (some false)
            (cond (!r9)
              (Option.bind (g40 al0 ax1.1) fun r13 =>
              cond ((decide (r13.cpu = 0)) && ((decide (r13.mem = 0)) && ((decide (r13.gpu = 0)) && ((decide (r13.lic = 0)) && true))))
                (Option.bind (g41 al0) fun r14 =>
                some (decide ((List.length r14 : Int) = 0)))
                (some false))
              (Option.bind (g40 al0 ax1.1) fun r15 =>
              Option.bind (g42 al0 ax1.1) fun r16 =>
              cond ((decide (r15.cpu = r16.cpu)) && ((decide (r15.mem = r16.mem)) && ((decide (r15.gpu = r16.gpu)) && ((decide (r15.lic = r16.lic)) && true))))
                (Option.bind (g41 al0) fun r17 =>
                Option.bind (g43 al0) fun r18 =>
                Option.bind (g32 r17 r18) fun r19 =>
                some r19)
                (some false))))) some)))
theorem e8 (L : Lp) (g30 : Option Bool) (g33 : Int → Res → Option ((List Step) × (Int × Unit))) (g34 : Int → Option Bool) (g35 : Res → Option Bool) (g32 : (List Step) → (List Step) → Option Bool) (g36 : (List Step) → Option Bool) (g37 : (List Step) → Option Bool) (g38 : (List Step) → Int → Int → Option Res) (g39 : (List Step) → Int → Int → Option Res) (g40 : (List Step) → Int → Option Res) (g41 : (List Step) → Option (List Step)) (g42 : (List Step) → Int → Option Res) (g43 : (List Step) → Option (List Step)) (x : s8.args.den) (h : denH s8.heap) : nrun [⟨30, s30, fun x h => g30 ⟩, ⟨33, s33, fun x h => g33 x.1 x.2.1⟩, ⟨34, s34, fun x h => g34 x.1⟩, ⟨35, s35, fun x h => g35 x.1⟩, ⟨32, s32, fun x h => g32 x.1 x.2.1⟩, ⟨36, s36, fun x h => g36 x.1⟩, ⟨37, s37, fun x h => g37 x.1⟩, ⟨38, s38, fun x h => g38 x.1 x.2.1 x.2.2.1⟩, ⟨39, s39, fun x h => g39 x.1 x.2.1 x.2.2.1⟩, ⟨40, s40, fun x h => g40 x.1 x.2.1⟩, ⟨41, s41, fun x h => g41 x.1⟩, ⟨42, s42, fun x h => g42 x.1 x.2.1⟩, ⟨43, s43, fun x h => g43 x.1⟩] L n8 s8 x h = F8 L g30 g33 g34 g35 g32 g36 g37 g38 g39 g40 g41 g42 g43 x.1 x.2.1 x.2.2.1 := by kernel_rfl
def f8 : (List Step) → (Int × (Int × Int)) → Res → Option Bool := F8 (@LN LOOPS) f30 f33 f34 f35 f32 f36 f37 f38 f39 f40 f41 f42 f43
@[reducible] def t8 : Ent := ⟨8, s8, fun x h => f8 x.1 x.2.1 x.2.2.1⟩
theorem k8 : chkNF Try.prog Try.f8 n8 = true := by kernel_rfl
theorem ok8 : NOk Try.prog t8 := NOk.body (T := [t30, t33, t34, t35, t32, t36, t37, t38, t39, t40, t41, t42, t43]) mixed (nall_cons ok30 (nall_cons ok33 (nall_cons ok34 (nall_cons ok35 (nall_cons ok32 (nall_cons ok36 (nall_cons ok37 (nall_cons ok38 (nall_cons ok39 (nall_cons ok40 (nall_cons ok41 (nall_cons ok42 (nall_cons ok43 nall_nil))))))))))))) (oneEach_of (by kernel_rfl)) Try.func8 k8 (by kernel_rfl) (fun x h => e8 _ _ _ _ _ _ _ _ _ _ _ _ _ _ x h)
/- drayage/vec.Add -/
def s93 : Sig := ⟨(.cons (.v .res) (.cons (.v .res) .nil)), [], ((.tup (.cons (.v .res) (.cons (.v (.int .i64)) .nil))), []), []⟩
def f93 : Res → Res → Option (Res × (Int × Unit)) := vecAdd
@[reducible] def t93 : Ent := ⟨93, s93, fun x h => f93 x.1 x.2.1⟩
theorem ok93 : NOk Try.prog t93 := ext93
/- drayage/steps.change -/
def n91_1 : NFunc := ⟨79, .seq (.region 1 [
    ⟨(some 8), .box 4 (.tmp 3), none, 0, none⟩,
    ⟨(some 10), .move (.const (.zsl)), none, 1, none⟩,
    ⟨(some 11), .move (.const (.int .i64 (0))), none, 1, none⟩] []) (.seq (.seq (.region 8 [
    ⟨(some 16), .move (.tmp 0), none, 0, none⟩,
    ⟨(some 17), .call (.func 37) [(false, (.tmp 16))] false 4, none, 0, none⟩,
    ⟨(some 18), .un .not (.tmp 17), none, 4, none⟩,
    ⟨(some 19), .move (.tmp 18), none, 4, none⟩,
    ⟨(some 20), .load true 4 (.tmp 8), (some (19, false)), 4, none⟩,
    ⟨(some 21), .call (.func 86) [(false, (.tmp 20))] false 4, (some (19, false)), 4, none⟩,
    ⟨(some 22), .un .not (.tmp 21), (some (19, false)), 8, none⟩,
    ⟨(some 23), .pick (.tmp 19) (.const (.bool true)) (.tmp 22), none, 8, none⟩,
    ⟨(some 24), .move (.tmp 23), none, 8, none⟩,
    ⟨(some 25), .move (.tmp 1), (some (24, false)), 8, none⟩,
    ⟨(some 26), .move (.tmp 0), (some (24, false)), 8, none⟩,
    ⟨(some 27), .indexSl 5 (.tmp 26) (.const (.int .i64 (0))), (some (24, false)), 8, none⟩,
    ⟨(some 28), .fieldAddr 0 (.tmp 27), (some (24, false)), 8, none⟩,
    ⟨(some 29), .load false 1 (.tmp 28), (some (24, false)), 8, none⟩,
    ⟨(some 30), .bin .lss (.tmp 25) (.tmp 29), (some (24, false)), 8, none⟩,
    ⟨(some 31), .pick (.tmp 24) (.const (.bool true)) (.tmp 30), none, 8, none⟩,
    ⟨(some 32), .move (.tmp 31), none, 8, none⟩,
    ⟨(some 33), .move (.tmp 2), (some (32, false)), 8, none⟩,
    ⟨(some 34), .move (.tmp 1), (some (32, false)), 8, none⟩,
    ⟨(some 35), .bin .leq (.tmp 33) (.tmp 34), (some (32, false)), 8, none⟩,
    ⟨(some 36), .pick (.tmp 32) (.const (.bool true)) (.tmp 35), none, 8, none⟩,
    ⟨(some 37), .move (.tmp 36), none, 8, none⟩,
    ⟨(some 38), .move (.tmp 2), (some (37, false)), 8, none⟩,
    ⟨(some 39), .bin .gtr (.tmp 38) (.const (.int .i64 (281474976710656))), (some (37, false)), 8, none⟩,
    ⟨(some 40), .pick (.tmp 37) (.const (.bool true)) (.tmp 39), none, 8, none⟩] []) (.cond (.tmp 40) (.seq (.region 0 [
    ⟨(some 10), .move (.const (.zsl)), none, 0, none⟩,
    ⟨(some 11), .move (.const (.int .i64 (2))), none, 0, none⟩] []) (.ret)) (.skip))) (.seq (.region 8 [
    ⟨(some 41), .move (.tmp 0), none, 0, none⟩,
    ⟨(some 42), .move (.tmp 1), none, 0, none⟩,
    ⟨(some 43), .call (.func 118) [(false, (.tmp 41)), (false, (.tmp 42))] false 4, none, 0, none⟩,
    ⟨(some 44), .move (.tmp 2), none, 4, none⟩,
    ⟨(some 45), .call (.func 118) [(false, (.tmp 43)), (false, (.tmp 44))] false 4, none, 4, none⟩,
    ⟨(some 12), .move (.tmp 45), none, 8, none⟩] []) (.seq (.seq (.region 4 [
    ⟨(some 46), .move (.tmp 12), none, 0, none⟩,
    ⟨(some 47), .move (.tmp 1), none, 0, none⟩,
    ⟨(some 48), .call (.func 87) [(false, (.tmp 46)), (false, (.tmp 47))] false 4, none, 0, none⟩,
    ⟨(some 13), .move (.tmp 48), none, 4, none⟩] []) (.block 0 (.loop [2, 4, 8, 12, 13] ⟨[(8, (.ptr 0 0 0)), (12, (.slw 1 5)), (13, (.v (.int .i64)))], [2, 4], [.one false .res, .typed .step]⟩ (.seq (.seq (.region 0 [
    ⟨(some 49), .move (.tmp 12), none, 0, none⟩,
    ⟨(some 50), .move (.tmp 13), none, 0, none⟩,
    ⟨(some 51), .indexSl 5 (.tmp 49) (.tmp 50), none, 0, none⟩,
    ⟨(some 52), .fieldAddr 0 (.tmp 51), none, 0, none⟩,
    ⟨(some 53), .load false 1 (.tmp 52), none, 0, none⟩,
    ⟨(some 54), .move (.tmp 2), none, 0, none⟩,
    ⟨(some 55), .bin .lss (.tmp 53) (.tmp 54), none, 0, none⟩] []) (.cond (.tmp 55) (.skip) (.exit 0))) (.seq (.block 1 (.seq (.region 5 [
    ⟨(some 59), .move (.tmp 4), none, 0, (some ([], none))⟩,
    ⟨(some 60), .move (.tmp 12), none, 0, (some ([], none))⟩,
    ⟨(some 61), .move (.tmp 13), none, 0, (some ([], none))⟩,
    ⟨(some 62), .indexSl 5 (.tmp 60) (.tmp 61), none, 0, (some ([], none))⟩,
    ⟨(some 63), .fieldAddr 1 (.tmp 62), none, 0, (some ([], none))⟩,
    ⟨(some 64), .load true 4 (.tmp 63), none, 0, (some ([], none))⟩,
    ⟨(some 65), .load true 4 (.tmp 8), none, 0, (some ([], none))⟩,
    ⟨(some 66), .call (.tmp 59) [(false, (.tmp 64)), (false, (.tmp 65))] true 4, none, 0, (some ([], none))⟩,
    ⟨(some 58), .move (.tmp 66), none, 4, (some ([0, 1, 2, 3], none))⟩,
    ⟨(some 67), .extract (.tmp 58) 0, none, 4, (some ([0, 1, 2, 3], none))⟩,
    ⟨(some 68), .extract (.tmp 58) 1, none, 4, (some ([0, 1, 2, 3], none))⟩,
    ⟨(some 14), .alloc [.int .i64 (0), .int .i64 (0), .int .i64 (0), .int .i64 (0)], none, 4, (some ([], none))⟩,
    ⟨none, .store 4 (.tmp 14) (.tmp 67), none, 5, (some ([0, 1, 2, 3, 4], none))⟩,
    ⟨(some 15), .move (.tmp 68), none, 5, (some ([0, 1, 2, 3, 4], none))⟩] []) (.seq (.seq (.region 0 [
    ⟨(some 69), .move (.tmp 15), none, 0, none⟩,
    ⟨(some 70), .bin .neq (.tmp 69) (.const (.int .i64 (0))), none, 0, none⟩] []) (.cond (.tmp 70) (.seq (.region 0 [
    ⟨(some 71), .move (.tmp 15), none, 0, none⟩,
    ⟨(some 10), .move (.const (.zsl)), none, 0, none⟩,
    ⟨(some 11), .move (.tmp 71), none, 0, none⟩] []) (.ret)) (.skip))) (.region 0 [
    ⟨(some 72), .move (.tmp 12), none, 0, none⟩,
    ⟨(some 73), .move (.tmp 13), none, 0, none⟩,
    ⟨(some 74), .load true 4 (.tmp 14), none, 0, none⟩,
    ⟨(some 75), .indexSl 5 (.tmp 72) (.tmp 73), none, 0, none⟩,
    ⟨(some 76), .fieldAddr 1 (.tmp 75), none, 0, none⟩,
    ⟨none, .store 4 (.tmp 76) (.tmp 74), none, 0, none⟩] [])))) (.region 0 [
    ⟨(some 56), .move (.tmp 13), none, 0, none⟩,
    ⟨(some 57), .bin .add (.tmp 56) (.const (.int .i64 (1))), none, 0, none⟩,
    ⟨(some 13), .move (.tmp 57), none, 0, none⟩] [])))))) (.seq (.region 4 [
    ⟨(some 77), .move (.tmp 12), none, 0, none⟩,
    ⟨(some 78), .call (.func 41) [(false, (.tmp 77))] false 4, none, 0, none⟩,
    ⟨(some 10), .move (.tmp 78), none, 4, none⟩,
    ⟨(some 11), .move (.const (.int .i64 (0))), none, 4, none⟩] []) (.ret))))), [.tmp 10, .tmp 11], true⟩
def s91_1 : Sig := ⟨(.cons (.v (.list .step)) (.cons (.v (.int .i64)) (.cons (.v (.int .i64)) (.cons (.v .res) (.cons (.fn 93 .nil) .nil))))), [], ((.tup (.cons (.v (.list .step)) (.cons (.v (.int .i64)) .nil))), []), []⟩
def l91_1_0 (g93 : Res → Res → Option (Res × (Int × Unit))) (g41 : (List Step) → Option (List Step)) (to2 : Int) (nx11 : ((Unit × (Unit × (Int × Unit))) × (Res × ((List Step) × Unit))) → Option ((List Step) × (Int × Unit))) (i12 : Int) (z13 : Res) (z14 : (List Step)) : Option ((List Step) × (Int × Unit)) :=
  cond (decide (0 ≤ i12))
    (cond (decide ((Int.toNat i12) < (List.length z14)))
      (Option.bind (z14[Int.toNat i12]?) fun y15 =>
      cond (decide (y15.at_ < to2))
        (cond (decide (0 ≤ i12))
          (cond (decide ((Int.toNat i12) < (List.length z14)))
            (Option.bind (z14[Int.toNat i12]?) fun y16 =>
            Option.bind (g93 y16.free z13) fun r17 =>
            cond (!decide (r17.2.1 = 0))
              (some ([], r17.2.1, ()))
              (cond (decide (0 ≤ i12))
                (cond (decide ((Int.toNat i12) < (List.length z14)))
                  (Option.bind (z14[Int.toNat i12]?) fun y18 =>
                  nx11 (((), (), IntKind.wrap .i64 (i12 + 1), ()), (z13, List.set z14 (Int.toNat i12) (Step.mk y18.at_ r17.1), ())))
                  (none))
                (none)))
            (none))
          (none))
        (Option.bind (g41 z14) fun r19 =>
        some (r19, 0, ())))
      (none))
    (none)
def F91_1 (L : Lp) (g37 : (List Step) → Option Bool) (g86 : Res → Option Bool) (g118 : (List Step) → Int → Option (Unit × ((List Step) × Unit))) (g87 : (List Step) → Int → Option Int) (g93 : Res → Res → Option (Res × (Int × Unit))) (g41 : (List Step) → Option (List Step)) (al0 : (List Step)) (from1 : Int) (to2 : Int) (need3 : Res) : Option ((List Step) × (Int × Unit)) :=
  Option.bind (g37 al0) fun r4 =>
  cond (!r4)
    (some ([], 2, ()))
    (Option.bind (g86 need3) fun r5 =>
    cond (!r5)
      (some ([], 2, ()))
      (Option.bind (al0[0]?) fun y6 =>
      cond (decide (from1 < y6.at_))
        (some ([], 2, ()))
        (cond (decide (to2 ≤ from1))
          (some ([], 2, ()))
          (cond (decide (281474976710656 < to2))
            (some ([], 2, ()))
            (Option.bind (g118 al0 from1) fun r7 =>
            Option.bind (g118 r7.2.1 to2) fun r8 =>
            Option.bind (g87 r8.2.1 from1) fun r9 =>
            L (fun (s10 : ((Unit × (Unit × (Int × Unit))) × (Res × ((List Step) × Unit)))) nx11 => l91_1_0 g93 g41 to2 nx11 s10.1.2.2.1 s10.2.1 s10.2.2.1) (((), (), r9, ()), (need3, r8.2.1, ())))))))
theorem e91_1 (L : Lp) (g37 : (List Step) → Option Bool) (g86 : Res → Option Bool) (g118 : (List Step) → Int → Option (Unit × ((List Step) × Unit))) (g87 : (List Step) → Int → Option Int) (g93 : Res → Res → Option (Res × (Int × Unit))) (g41 : (List Step) → Option (List Step)) (x : s91_1.args.den) (h : denH s91_1.heap) : nrun [⟨37, s37, fun x h => g37 x.1⟩, ⟨86, s86, fun x h => g86 x.1⟩, ⟨118, s118, fun x h => g118 x.1 x.2.1⟩, ⟨87, s87, fun x h => g87 x.1 x.2.1⟩, ⟨93, s93, fun x h => g93 x.1 x.2.1⟩, ⟨41, s41, fun x h => g41 x.1⟩] L n91_1 s91_1 x h = F91_1 L g37 g86 g118 g87 g93 g41 x.1 x.2.1 x.2.2.1 x.2.2.2.1 := by kernel_rfl
def f91_1 : (List Step) → Int → Int → Res → Option ((List Step) × (Int × Unit)) := F91_1 (@LN LOOPS) f37 f86 f118 f87 f93 f41
@[reducible] def t91_1 : Ent := ⟨91, s91_1, fun x h => f91_1 x.1 x.2.1 x.2.2.1 x.2.2.2.1⟩
theorem k91_1 : chkNF Try.prog Try.f91 n91_1 = true := by kernel_rfl
theorem ok91_1 : NOk Try.prog t91_1 := NOk.body (T := [t37, t86, t118, t87, t93, t41]) mixed (nall_cons ok37 (nall_cons ok86 (nall_cons ok118 (nall_cons ok87 (nall_cons ok93 (nall_cons ok41 nall_nil)))))) (oneEach_of (by kernel_rfl)) Try.func91 k91_1 (by kernel_rfl) (fun x h => e91_1 _ _ _ _ _ _ _ x h)
/- drayage/steps.Give -/
def n45 : NFunc := ⟨17, .seq (.region 1 [
    ⟨(some 7), .box 4 (.tmp 3), none, 0, none⟩,
    ⟨(some 8), .move (.const (.zsl)), none, 1, none⟩,
    ⟨(some 9), .move (.const (.int .i64 (0))), none, 1, none⟩] []) (.seq (.region 4 [
    ⟨(some 10), .move (.tmp 0), none, 0, none⟩,
    ⟨(some 11), .move (.tmp 1), none, 0, none⟩,
    ⟨(some 12), .move (.tmp 2), none, 0, none⟩,
    ⟨(some 13), .load true 4 (.tmp 7), none, 0, none⟩,
    ⟨(some 14), .call (.func 91) [(false, (.tmp 10)), (false, (.tmp 11)), (false, (.tmp 12)), (false, (.tmp 13)), (false, (.func 93))] false 4, none, 0, none⟩,
    ⟨(some 15), .extract (.tmp 14) 0, none, 4, none⟩,
    ⟨(some 16), .extract (.tmp 14) 1, none, 4, none⟩,
    ⟨(some 8), .move (.tmp 15), none, 4, none⟩,
    ⟨(some 9), .move (.tmp 16), none, 4, none⟩] []) (.ret)), [.tmp 8, .tmp 9], true⟩
def s45 : Sig := ⟨(.cons (.v (.list .step)) (.cons (.v (.int .i64)) (.cons (.v (.int .i64)) (.cons (.v .res) .nil)))), [], ((.tup (.cons (.v (.list .step)) (.cons (.v (.int .i64)) .nil))), []), []⟩
def F45 (L : Lp) (g91_1 : (List Step) → Int → Int → Res → Option ((List Step) × (Int × Unit))) (al0 : (List Step)) (from1 : Int) (to2 : Int) (need3 : Res) : Option ((List Step) × (Int × Unit)) :=
  Option.bind (g91_1 al0 from1 to2 need3) fun r4 =>
  some (r4.1, r4.2.1, ())
theorem e45 (L : Lp) (g91_1 : (List Step) → Int → Int → Res → Option ((List Step) × (Int × Unit))) (x : s45.args.den) (h : denH s45.heap) : nrun [⟨91, s91_1, fun x h => g91_1 x.1 x.2.1 x.2.2.1 x.2.2.2.1⟩] L n45 s45 x h = F45 L g91_1 x.1 x.2.1 x.2.2.1 x.2.2.2.1 := by kernel_rfl
def f45 : (List Step) → Int → Int → Res → Option ((List Step) × (Int × Unit)) := F45 (@LN LOOPS) f91_1
@[reducible] def t45 : Ent := ⟨45, s45, fun x h => f45 x.1 x.2.1 x.2.2.1 x.2.2.2.1⟩
theorem k45 : chkNF Try.prog Try.f45 n45 = true := by kernel_rfl
theorem ok45 : NOk Try.prog t45 := NOk.body (T := [t91_1]) mixed (nall_cons ok91_1 nall_nil) (oneEach_of (by kernel_rfl)) Try.func45 k45 (by kernel_rfl) (fun x h => e45 _ _ x h)
/- drayage/drayageref02.Add -/
def n47 : NFunc := ⟨26, .seq (.region 3 [
    ⟨(some 2), .box 4 (.tmp 0), none, 0, none⟩,
    ⟨(some 3), .box 4 (.tmp 1), none, 1, none⟩,
    ⟨(some 4), .alloc [.int .i64 (0), .int .i64 (0), .int .i64 (0), .int .i64 (0)], none, 2, none⟩] []) (.seq (.region 0 [
    ⟨(some 5), .fieldAddr 0 (.tmp 2), none, 0, none⟩,
    ⟨(some 6), .load false 1 (.tmp 5), none, 0, none⟩,
    ⟨(some 7), .fieldAddr 0 (.tmp 3), none, 0, none⟩,
    ⟨(some 8), .load false 1 (.tmp 7), none, 0, none⟩,
    ⟨(some 9), .bin .add (.tmp 6) (.tmp 8), none, 0, none⟩,
    ⟨(some 10), .fieldAddr 1 (.tmp 2), none, 0, none⟩,
    ⟨(some 11), .load false 1 (.tmp 10), none, 0, none⟩,
    ⟨(some 12), .fieldAddr 1 (.tmp 3), none, 0, none⟩,
    ⟨(some 13), .load false 1 (.tmp 12), none, 0, none⟩,
    ⟨(some 14), .bin .add (.tmp 11) (.tmp 13), none, 0, none⟩,
    ⟨(some 15), .fieldAddr 2 (.tmp 2), none, 0, none⟩,
    ⟨(some 16), .load false 1 (.tmp 15), none, 0, none⟩,
    ⟨(some 17), .fieldAddr 2 (.tmp 3), none, 0, none⟩,
    ⟨(some 18), .load false 1 (.tmp 17), none, 0, none⟩,
    ⟨(some 19), .bin .add (.tmp 16) (.tmp 18), none, 0, none⟩,
    ⟨(some 20), .fieldAddr 3 (.tmp 2), none, 0, none⟩,
    ⟨(some 21), .load false 1 (.tmp 20), none, 0, none⟩,
    ⟨(some 22), .fieldAddr 3 (.tmp 3), none, 0, none⟩,
    ⟨(some 23), .load false 1 (.tmp 22), none, 0, none⟩,
    ⟨(some 24), .bin .add (.tmp 21) (.tmp 23), none, 0, none⟩,
    ⟨(some 25), .build [.int .i64 (0), .int .i64 (0), .int .i64 (0), .int .i64 (0)] [(0, 1, (.tmp 9)), (1, 1, (.tmp 14)), (2, 1, (.tmp 19)), (3, 1, (.tmp 24))], none, 0, none⟩,
    ⟨none, .store 4 (.tmp 4) (.tmp 25), none, 0, none⟩] []) (.ret)), [.cell true 4 4], true⟩
def s47 : Sig := ⟨(.cons (.v .res) (.cons (.v .res) .nil)), [], ((.v .res), []), []⟩
def F47 (L : Lp)  (a0 : Res) (b1 : Res) : Option Res :=
  some (Res.mk (IntKind.wrap .i64 (a0.cpu + b1.cpu)) (IntKind.wrap .i64 (a0.mem + b1.mem)) (IntKind.wrap .i64 (a0.gpu + b1.gpu)) (IntKind.wrap .i64 (a0.lic + b1.lic)))
theorem e47 (L : Lp)  (x : s47.args.den) (h : denH s47.heap) : nrun [] L n47 s47 x h = F47 L  x.1 x.2.1 := by kernel_rfl
def f47 : Res → Res → Option Res := F47 (@LN LOOPS) 
@[reducible] def t47 : Ent := ⟨47, s47, fun x h => f47 x.1 x.2.1⟩
theorem k47 : chkNF Try.prog Try.f47 n47 = true := by kernel_rfl
theorem ok47 : NOk Try.prog t47 := NOk.body (T := []) mixed nall_nil (oneEach_of (by kernel_rfl)) Try.func47 k47 (by kernel_rfl) (fun x h => e47 _  x h)
/- drayage/drayageref02.Sub -/
def n94 : NFunc := ⟨26, .seq (.region 3 [
    ⟨(some 2), .box 4 (.tmp 0), none, 0, none⟩,
    ⟨(some 3), .box 4 (.tmp 1), none, 1, none⟩,
    ⟨(some 4), .alloc [.int .i64 (0), .int .i64 (0), .int .i64 (0), .int .i64 (0)], none, 2, none⟩] []) (.seq (.region 0 [
    ⟨(some 5), .fieldAddr 0 (.tmp 2), none, 0, none⟩,
    ⟨(some 6), .load false 1 (.tmp 5), none, 0, none⟩,
    ⟨(some 7), .fieldAddr 0 (.tmp 3), none, 0, none⟩,
    ⟨(some 8), .load false 1 (.tmp 7), none, 0, none⟩,
    ⟨(some 9), .bin .sub (.tmp 6) (.tmp 8), none, 0, none⟩,
    ⟨(some 10), .fieldAddr 1 (.tmp 2), none, 0, none⟩,
    ⟨(some 11), .load false 1 (.tmp 10), none, 0, none⟩,
    ⟨(some 12), .fieldAddr 1 (.tmp 3), none, 0, none⟩,
    ⟨(some 13), .load false 1 (.tmp 12), none, 0, none⟩,
    ⟨(some 14), .bin .sub (.tmp 11) (.tmp 13), none, 0, none⟩,
    ⟨(some 15), .fieldAddr 2 (.tmp 2), none, 0, none⟩,
    ⟨(some 16), .load false 1 (.tmp 15), none, 0, none⟩,
    ⟨(some 17), .fieldAddr 2 (.tmp 3), none, 0, none⟩,
    ⟨(some 18), .load false 1 (.tmp 17), none, 0, none⟩,
    ⟨(some 19), .bin .sub (.tmp 16) (.tmp 18), none, 0, none⟩,
    ⟨(some 20), .fieldAddr 3 (.tmp 2), none, 0, none⟩,
    ⟨(some 21), .load false 1 (.tmp 20), none, 0, none⟩,
    ⟨(some 22), .fieldAddr 3 (.tmp 3), none, 0, none⟩,
    ⟨(some 23), .load false 1 (.tmp 22), none, 0, none⟩,
    ⟨(some 24), .bin .sub (.tmp 21) (.tmp 23), none, 0, none⟩,
    ⟨(some 25), .build [.int .i64 (0), .int .i64 (0), .int .i64 (0), .int .i64 (0)] [(0, 1, (.tmp 9)), (1, 1, (.tmp 14)), (2, 1, (.tmp 19)), (3, 1, (.tmp 24))], none, 0, none⟩,
    ⟨none, .store 4 (.tmp 4) (.tmp 25), none, 0, none⟩] []) (.ret)), [.cell true 4 4], true⟩
def s94 : Sig := ⟨(.cons (.v .res) (.cons (.v .res) .nil)), [], ((.v .res), []), []⟩
def F94 (L : Lp)  (a0 : Res) (b1 : Res) : Option Res :=
  some (Res.mk (IntKind.wrap .i64 (a0.cpu - b1.cpu)) (IntKind.wrap .i64 (a0.mem - b1.mem)) (IntKind.wrap .i64 (a0.gpu - b1.gpu)) (IntKind.wrap .i64 (a0.lic - b1.lic)))
theorem e94 (L : Lp)  (x : s94.args.den) (h : denH s94.heap) : nrun [] L n94 s94 x h = F94 L  x.1 x.2.1 := by kernel_rfl
def f94 : Res → Res → Option Res := F94 (@LN LOOPS) 
@[reducible] def t94 : Ent := ⟨94, s94, fun x h => f94 x.1 x.2.1⟩
theorem k94 : chkNF Try.prog Try.f94 n94 = true := by kernel_rfl
theorem ok94 : NOk Try.prog t94 := NOk.body (T := []) mixed nall_nil (oneEach_of (by kernel_rfl)) Try.func94 k94 (by kernel_rfl) (fun x h => e94 _  x h)
/- drayage/drayageref10.Turn -/
def n46 : NFunc := ⟨98, .seq (.region 2 [
    ⟨(some 5), .box 2 (.tmp 1), none, 0, none⟩,
    ⟨(some 6), .box 4 (.tmp 2), none, 1, none⟩,
    ⟨(some 8), .move (.const (.zsl)), none, 2, none⟩,
    ⟨(some 9), .move (.const (.int .i64 (0))), none, 2, none⟩] []) (.seq (.region 0 [
    ⟨(some 16), .indexArr 2 1 (.tmp 5) (.const (.int .i64 (0))), none, 0, none⟩,
    ⟨(some 17), .load false 1 (.tmp 16), none, 0, none⟩,
    ⟨(some 10), .move (.tmp 17), none, 0, none⟩] []) (.seq (.region 0 [
    ⟨(some 18), .indexArr 2 1 (.tmp 5) (.const (.int .i64 (1))), none, 0, none⟩,
    ⟨(some 19), .load false 1 (.tmp 18), none, 0, none⟩,
    ⟨(some 11), .move (.tmp 19), none, 0, none⟩] []) (.seq (.seq (.region 12 [
    ⟨(some 20), .move (.tmp 0), none, 0, none⟩,
    ⟨(some 21), .call (.func 36) [(false, (.tmp 20))] false 4, none, 0, none⟩,
    ⟨(some 22), .un .not (.tmp 21), none, 4, none⟩,
    ⟨(some 23), .move (.tmp 22), none, 4, none⟩,
    ⟨(some 24), .load true 4 (.tmp 6), (some (23, false)), 4, none⟩,
    ⟨(some 25), .call (.func 35) [(false, (.tmp 24))] false 4, (some (23, false)), 4, none⟩,
    ⟨(some 26), .un .not (.tmp 25), (some (23, false)), 8, none⟩,
    ⟨(some 27), .pick (.tmp 23) (.const (.bool true)) (.tmp 26), none, 8, none⟩,
    ⟨(some 28), .move (.tmp 27), none, 8, none⟩,
    ⟨(some 29), .move (.tmp 10), (some (28, false)), 8, none⟩,
    ⟨(some 30), .move (.tmp 0), (some (28, false)), 8, none⟩,
    ⟨(some 31), .indexSl 5 (.tmp 30) (.const (.int .i64 (0))), (some (28, false)), 8, none⟩,
    ⟨(some 32), .fieldAddr 0 (.tmp 31), (some (28, false)), 8, none⟩,
    ⟨(some 33), .load false 1 (.tmp 32), (some (28, false)), 8, none⟩,
    ⟨(some 34), .bin .lss (.tmp 29) (.tmp 33), (some (28, false)), 8, none⟩,
    ⟨(some 35), .pick (.tmp 28) (.const (.bool true)) (.tmp 34), none, 8, none⟩,
    ⟨(some 36), .move (.tmp 35), none, 8, none⟩,
    ⟨(some 37), .move (.tmp 11), (some (36, false)), 8, none⟩,
    ⟨(some 38), .move (.tmp 10), (some (36, false)), 8, none⟩,
    ⟨(some 39), .bin .leq (.tmp 37) (.tmp 38), (some (36, false)), 8, none⟩,
    ⟨(some 40), .pick (.tmp 36) (.const (.bool true)) (.tmp 39), none, 8, none⟩,
    ⟨(some 41), .move (.tmp 40), none, 8, none⟩,
    ⟨(some 42), .move (.tmp 11), (some (41, false)), 8, none⟩,
    ⟨(some 43), .call (.func 34) [(false, (.tmp 42))] false 4, (some (41, false)), 8, none⟩,
    ⟨(some 44), .un .not (.tmp 43), (some (41, false)), 12, none⟩,
    ⟨(some 45), .pick (.tmp 41) (.const (.bool true)) (.tmp 44), none, 12, none⟩] []) (.cond (.tmp 45) (.seq (.region 0 [
    ⟨(some 8), .move (.const (.zsl)), none, 0, none⟩,
    ⟨(some 9), .move (.const (.int .i64 (2))), none, 0, none⟩] []) (.ret)) (.skip))) (.seq (.region 5 [
    ⟨(some 46), .move (.tmp 0), none, 0, none⟩,
    ⟨(some 47), .move (.tmp 10), none, 0, none⟩,
    ⟨(some 48), .move (.tmp 11), none, 0, none⟩,
    ⟨(some 49), .buildSlice 1 2 true [.int .i64 (0)] [(0, (.tmp 47)), (1, (.tmp 48))], none, 0, none⟩,
    ⟨(some 50), .call (.func 89) [(false, (.tmp 46)), (false, (.tmp 49))] false 4, none, 1, none⟩,
    ⟨(some 12), .move (.tmp 50), none, 5, none⟩] []) (.seq (.region 0 [
    ⟨(some 13), .move (.const (.zsl)), none, 0, none⟩] []) (.seq (.seq (.region 0 [
    ⟨(some 14), .move (.const (.int .i64 (0))), none, 0, none⟩] []) (.block 0 (.pre [0, 3, 6, 10, 11, 12, 13, 14] [.mat 13 5 true] (.loop [0, 3, 6, 10, 11, 12, 13, 14] ⟨[(6, (.ptr 0 0 0)), (13, (.slw 1 5)), (14, (.v (.int .i64)))], [0, 3, 10, 11, 12], [.one false .res, .typed .step]⟩ (.seq (.seq (.region 0 [
    ⟨(some 51), .move (.tmp 14), none, 0, none⟩,
    ⟨(some 52), .move (.tmp 12), none, 0, none⟩,
    ⟨(some 53), .len (.tmp 52), none, 0, none⟩,
    ⟨(some 54), .bin .lss (.tmp 51) (.tmp 53), none, 0, none⟩] []) (.cond (.tmp 54) (.skip) (.exit 0))) (.seq (.block 1 (.seq (.region 5 [
    ⟨(some 57), .move (.tmp 0), none, 0, none⟩,
    ⟨(some 58), .move (.tmp 12), none, 0, none⟩,
    ⟨(some 59), .move (.tmp 14), none, 0, none⟩,
    ⟨(some 60), .indexSl 1 (.tmp 58) (.tmp 59), none, 0, none⟩,
    ⟨(some 61), .load false 1 (.tmp 60), none, 0, none⟩,
    ⟨(some 62), .call (.func 42) [(false, (.tmp 57)), (false, (.tmp 61))] false 4, none, 0, none⟩,
    ⟨(some 15), .alloc [.int .i64 (0), .int .i64 (0), .int .i64 (0), .int .i64 (0)], none, 4, none⟩,
    ⟨none, .store 4 (.tmp 15) (.tmp 62), none, 5, none⟩] []) (.seq (.meet [0, 3, 6, 10, 11, 12, 14, 15, 13] [] ⟨[(6, (.ptr 0 0 0)), (13, (.slw 1 5)), (15, (.ptr 2 0 0))], [0, 3, 10, 11, 12, 14], [.one false .res, .typed .step, .one false .res]⟩ (.seq (.meet [0, 3, 6, 10, 11, 12, 14, 15, 13, 76] [] ⟨[(6, (.ptr 0 0 0)), (13, (.slw 1 5)), (15, (.ptr 2 0 0)), (76, (.v .bool))], [0, 3, 10, 11, 12, 14], [.one false .res, .typed .step, .one false .res]⟩ (.region 0 [
    ⟨(some 63), .move (.tmp 12), none, 0, none⟩,
    ⟨(some 64), .move (.tmp 14), none, 0, none⟩,
    ⟨(some 65), .indexSl 1 (.tmp 63) (.tmp 64), none, 0, none⟩,
    ⟨(some 66), .load false 1 (.tmp 65), none, 0, none⟩,
    ⟨(some 67), .move (.tmp 10), none, 0, none⟩,
    ⟨(some 68), .bin .geq (.tmp 66) (.tmp 67), none, 0, none⟩,
    ⟨(some 69), .move (.tmp 68), none, 0, none⟩,
    ⟨(some 70), .move (.tmp 12), (some (69, true)), 0, none⟩,
    ⟨(some 71), .move (.tmp 14), (some (69, true)), 0, none⟩,
    ⟨(some 72), .indexSl 1 (.tmp 70) (.tmp 71), (some (69, true)), 0, none⟩,
    ⟨(some 73), .load false 1 (.tmp 72), (some (69, true)), 0, none⟩,
    ⟨(some 74), .move (.tmp 11), (some (69, true)), 0, none⟩,
    ⟨(some 75), .bin .lss (.tmp 73) (.tmp 74), (some (69, true)), 0, none⟩,
    ⟨(some 76), .pick (.tmp 69) (.tmp 75) (.const (.bool false)), none, 0, none⟩] [])) (.cond (.tmp 76) (.seq (.region 0 [
    ⟨(some 77), .move (.tmp 3), none, 0, none⟩] []) (.cond (.tmp 77) (.region 4 [
    ⟨(some 78), .load true 4 (.tmp 15), none, 0, none⟩,
    ⟨(some 79), .load true 4 (.tmp 6), none, 0, none⟩,
    ⟨(some 80), .call (.func 47) [(false, (.tmp 78)), (false, (.tmp 79))] false 4, none, 0, none⟩,
    ⟨none, .store 4 (.tmp 15) (.tmp 80), none, 4, none⟩] []) (.region 4 [
    ⟨(some 81), .load true 4 (.tmp 15), none, 0, none⟩,
    ⟨(some 82), .load true 4 (.tmp 6), none, 0, none⟩,
    ⟨(some 83), .call (.func 94) [(false, (.tmp 81)), (false, (.tmp 82))] false 4, none, 0, none⟩,
    ⟨none, .store 4 (.tmp 15) (.tmp 83), none, 4, none⟩] []))) (.skip)))) (.seq (.seq (.region 4 [
    ⟨(some 84), .load true 4 (.tmp 15), none, 0, none⟩,
    ⟨(some 85), .call (.func 35) [(false, (.tmp 84))] false 4, none, 0, none⟩,
    ⟨(some 86), .un .not (.tmp 85), none, 4, none⟩] []) (.cond (.tmp 86) (.seq (.region 0 [
    ⟨(some 8), .move (.const (.zsl)), none, 0, none⟩,
    ⟨(some 9), .move (.const (.int .i64 (20))), none, 0, none⟩] []) (.ret)) (.skip))) (.region 2 [
    ⟨(some 87), .move (.tmp 13), none, 0, (some ([], none))⟩,
    ⟨(some 88), .move (.tmp 12), none, 0, (some ([], none))⟩,
    ⟨(some 89), .move (.tmp 14), none, 0, (some ([], none))⟩,
    ⟨(some 90), .indexSl 1 (.tmp 88) (.tmp 89), none, 0, (some ([], none))⟩,
    ⟨(some 91), .load false 1 (.tmp 90), none, 0, (some ([], none))⟩,
    ⟨(some 92), .load true 4 (.tmp 15), none, 0, (some ([], none))⟩,
    ⟨(some 93), .build [.int .i64 (0), .int .i64 (0), .int .i64 (0), .int .i64 (0), .int .i64 (0)] [(0, 1, (.tmp 91)), (1, 4, (.tmp 92))], none, 0, (some ([], none))⟩,
    ⟨(some 94), .buildSlice 5 1 true [.int .i64 (0), .int .i64 (0), .int .i64 (0), .int .i64 (0), .int .i64 (0)] [(0, (.tmp 93))], none, 0, (some ([], none))⟩,
    ⟨(some 95), .append 5 40 true (.tmp 87) (.tmp 94), none, 1, (some ([0], none))⟩,
    ⟨(some 13), .move (.tmp 95), none, 2, (some ([0, 1], none))⟩] []))))) (.region 0 [
    ⟨(some 55), .move (.tmp 14), none, 0, none⟩,
    ⟨(some 56), .bin .add (.tmp 55) (.const (.int .i64 (1))), none, 0, none⟩,
    ⟨(some 14), .move (.tmp 56), none, 0, none⟩] []))))))) (.seq (.region 4 [
    ⟨(some 96), .move (.tmp 13), none, 0, none⟩,
    ⟨(some 97), .call (.func 43) [(false, (.tmp 96))] false 4, none, 0, none⟩,
    ⟨(some 8), .move (.tmp 97), none, 4, none⟩,
    ⟨(some 9), .move (.const (.int .i64 (0))), none, 4, none⟩] []) (.ret)))))))), [.tmp 8, .tmp 9], true⟩
def s46 : Sig := ⟨(.cons (.v (.list .step)) (.cons (.v (.pair (.int .i64) (.int .i64))) (.cons (.v .res) (.cons (.v .bool) .nil)))), [], ((.tup (.cons (.v (.list .step)) (.cons (.v (.int .i64)) .nil))), []), []⟩
def l46_0 (g35 : Res → Option Bool) (g42 : (List Step) → Int → Option Res) (g47 : Res → Res → Option Res) (g94 : Res → Res → Option Res) (g43 : (List Step) → Option (List Step)) (al0 : (List Step)) (w1 : (Int × Int)) (more3 : Bool) (r8 : (List Int)) (nx10 : ((Unit × (Unit × (Int × Unit))) × (Res × ((List Step) × Unit))) → Option ((List Step) × (Int × Unit))) (i11 : Int) (z12 : Res) (z13 : (List Step)) : Option ((List Step) × (Int × Unit)) :=
  cond (decide (i11 < (List.length r8 : Int)))
    (cond (decide (0 ≤ i11))
      (Option.bind (r8[Int.toNat i11]?) fun y14 =>
      Option.bind (g42 al0 y14) fun r15 =>
      Option.bind (α := ((Unit × (Unit × (Unit × Unit))) × (Res × ((List Step) × (Res × Unit)))))
        (Option.bind (α := ((Unit × (Unit × (Unit × (Bool × Unit)))) × (Res × ((List Step) × (Res × Unit)))))
          (cond (decide (0 ≤ i11))
            (Option.bind (r8[Int.toNat i11]?) fun y16 =>
            cond (decide (w1.1 ≤ y16))
              (cond (decide (0 ≤ i11))
                (Option.bind (r8[Int.toNat i11]?) fun y17 =>
                some (((), (), (), decide (y17 < w1.2), ()), (z12, z13, r15, ())))
                (none))
              (some (((), (), (), false, ()), (z12, z13, r15, ()))))
            (none)) fun x18 =>
        cond x18.1.2.2.2.1
          (cond more3
            (Option.bind (g47 x18.2.2.2.1 x18.2.1) fun r19 =>
            some (((), (), (), ()), (x18.2.1, x18.2.2.1, r19, ())))
            (Option.bind (g94 x18.2.2.2.1 x18.2.1) fun r20 =>
            some (((), (), (), ()), (x18.2.1, x18.2.2.1, r20, ()))))
          (some (((), (), (), ()), (x18.2.1, x18.2.2.1, x18.2.2.2.1, ())))) fun x21 =>
      Option.bind (g35 x21.2.2.2.1) fun r22 =>
      cond (!r22)
        (some ([], 20, ()))
        (cond (decide (0 ≤ i11))
          (Option.bind (r8[Int.toNat i11]?) fun y23 =>
          cond (smallB ((List.length x21.2.2.1) + 1) 40)
            (nx10 (((), (), IntKind.wrap .i64 (i11 + 1), ()), (x21.2.1, x21.2.2.1 ++ [Step.mk y23 x21.2.2.2.1], ())))
            (none))
          (none)))
      (none))
    (Option.bind (g43 z13) fun r24 =>
    some (r24, 0, ()))
def F46 (L : Lp) (g36 : (List Step) → Option Bool) (g35 : Res → Option Bool) (g34 : Int → Option Bool) (g89 : (List Step) → (List Int) → Option (List Int)) (g42 : (List Step) → Int → Option Res) (g47 : Res → Res → Option Res) (g94 : Res → Res → Option Res) (g43 : (List Step) → Option (List Step)) (al0 : (List Step)) (w1 : (Int × Int)) (need2 : Res) (more3 : Bool) : Option ((List Step) × (Int × Unit)) :=
  Option.bind (g36 al0) fun r4 =>
  cond (!r4)
    (some ([], 2, ()))
    (Option.bind (g35 need2) fun r5 =>
    cond (!r5)
      (some ([], 2, ()))
      (Option.bind (al0[0]?) fun y6 =>
      cond (decide (w1.1 < y6.at_))
        (some ([], 2, ()))
        (cond (decide (w1.2 ≤ w1.1))
          (some ([], 2, ()))
          (Option.bind (g34 w1.2) fun r7 =>
          cond (!r7)
            (some ([], 2, ()))
            (Option.bind (g89 al0 [w1.1, w1.2]) fun r8 =>
            L (fun (s9 : ((Unit × (Unit × (Int × Unit))) × (Res × ((List Step) × Unit)))) nx10 => l46_0 g35 g42 g47 g94 g43 al0 w1 more3 r8 nx10 s9.1.2.2.1 s9.2.1 s9.2.2.1) (((), (), 0, ()), (need2, [], ())))))))
theorem e46 (L : Lp) (g36 : (List Step) → Option Bool) (g35 : Res → Option Bool) (g34 : Int → Option Bool) (g89 : (List Step) → (List Int) → Option (List Int)) (g42 : (List Step) → Int → Option Res) (g47 : Res → Res → Option Res) (g94 : Res → Res → Option Res) (g43 : (List Step) → Option (List Step)) (x : s46.args.den) (h : denH s46.heap) : nrun [⟨36, s36, fun x h => g36 x.1⟩, ⟨35, s35, fun x h => g35 x.1⟩, ⟨34, s34, fun x h => g34 x.1⟩, ⟨89, s89, fun x h => g89 x.1 x.2.1⟩, ⟨42, s42, fun x h => g42 x.1 x.2.1⟩, ⟨47, s47, fun x h => g47 x.1 x.2.1⟩, ⟨94, s94, fun x h => g94 x.1 x.2.1⟩, ⟨43, s43, fun x h => g43 x.1⟩] L n46 s46 x h = F46 L g36 g35 g34 g89 g42 g47 g94 g43 x.1 x.2.1 x.2.2.1 x.2.2.2.1 := by kernel_rfl
def f46 : (List Step) → (Int × Int) → Res → Bool → Option ((List Step) × (Int × Unit)) := F46 (@LN LOOPS) f36 f35 f34 f89 f42 f47 f94 f43
@[reducible] def t46 : Ent := ⟨46, s46, fun x h => f46 x.1 x.2.1 x.2.2.1 x.2.2.2.1⟩
theorem k46 : chkNF Try.prog Try.f46 n46 = true := by kernel_rfl
theorem ok46 : NOk Try.prog t46 := NOk.body (T := [t36, t35, t34, t89, t42, t47, t94, t43]) mixed (nall_cons ok36 (nall_cons ok35 (nall_cons ok34 (nall_cons ok89 (nall_cons ok42 (nall_cons ok47 (nall_cons ok94 (nall_cons ok43 nall_nil)))))))) (oneEach_of (by kernel_rfl)) Try.func46 k46 (by kernel_rfl) (fun x h => e46 _ _ _ _ _ _ _ _ _ x h)
/- drayage/drayagelaw10.StepsTurns -/
def n9 : NFunc := ⟨72, .seq (.region 2 [
    ⟨(some 4), .box 2 (.tmp 1), none, 0, none⟩,
    ⟨(some 5), .box 4 (.tmp 2), none, 1, none⟩,
    ⟨(some 6), .move (.const (.bool false)), none, 2, none⟩] []) (.seq (.seq (.region 4 [
    ⟨(some 15), .call (.func 30) [] false 4, none, 0, none⟩,
    ⟨(some 16), .un .not (.tmp 15), none, 4, none⟩] []) (.cond (.tmp 16) (.seq (.region 0 [
    ⟨(some 6), .move (.const (.bool false)), none, 0, none⟩] []) (.ret)) (.skip))) (.seq (.seq (.region 0 [
    ⟨(some 17), .move (.tmp 0), none, 0, none⟩,
    ⟨(some 18), .len (.tmp 17), none, 0, none⟩,
    ⟨(some 19), .bin .gtr (.tmp 18) (.const (.int .i64 (40))), none, 0, none⟩] []) (.cond (.tmp 19) (.seq (.region 0 [
    ⟨(some 6), .move (.const (.bool true)), none, 0, none⟩] []) (.ret)) (.skip))) (.seq (.region 4 [
    ⟨(some 21), .move (.tmp 0), none, 0, none⟩,
    ⟨(some 22), .indexArr 2 1 (.tmp 4) (.const (.int .i64 (0))), none, 0, none⟩,
    ⟨(some 23), .load false 1 (.tmp 22), none, 0, none⟩,
    ⟨(some 24), .indexArr 2 1 (.tmp 4) (.const (.int .i64 (1))), none, 0, none⟩,
    ⟨(some 25), .load false 1 (.tmp 24), none, 0, none⟩,
    ⟨(some 26), .load true 4 (.tmp 5), none, 0, none⟩,
    ⟨(some 27), .call (.func 44) [(false, (.tmp 21)), (false, (.tmp 23)), (false, (.tmp 25)), (false, (.tmp 26))] false 4, none, 0, none⟩,
    ⟨(some 20), .move (.tmp 27), none, 4, none⟩,
    ⟨(some 28), .extract (.tmp 20) 0, none, 4, none⟩,
    ⟨(some 29), .extract (.tmp 20) 1, none, 4, none⟩,
    ⟨(some 7), .move (.tmp 28), none, 4, none⟩,
    ⟨(some 8), .move (.tmp 29), none, 4, none⟩] []) (.seq (.region 4 [
    ⟨(some 31), .move (.tmp 0), none, 0, none⟩,
    ⟨(some 32), .indexArr 2 1 (.tmp 4) (.const (.int .i64 (0))), none, 0, none⟩,
    ⟨(some 33), .load false 1 (.tmp 32), none, 0, none⟩,
    ⟨(some 34), .indexArr 2 1 (.tmp 4) (.const (.int .i64 (1))), none, 0, none⟩,
    ⟨(some 35), .load false 1 (.tmp 34), none, 0, none⟩,
    ⟨(some 36), .load true 4 (.tmp 5), none, 0, none⟩,
    ⟨(some 37), .call (.func 45) [(false, (.tmp 31)), (false, (.tmp 33)), (false, (.tmp 35)), (false, (.tmp 36))] false 4, none, 0, none⟩,
    ⟨(some 30), .move (.tmp 37), none, 4, none⟩,
    ⟨(some 38), .extract (.tmp 30) 0, none, 4, none⟩,
    ⟨(some 39), .extract (.tmp 30) 1, none, 4, none⟩,
    ⟨(some 9), .move (.tmp 38), none, 4, none⟩,
    ⟨(some 10), .move (.tmp 39), none, 4, none⟩] []) (.seq (.region 4 [
    ⟨(some 41), .move (.tmp 0), none, 0, none⟩,
    ⟨(some 42), .load true 2 (.tmp 4), none, 0, none⟩,
    ⟨(some 43), .load true 4 (.tmp 5), none, 0, none⟩,
    ⟨(some 44), .call (.func 46) [(false, (.tmp 41)), (false, (.tmp 42)), (false, (.tmp 43)), (false, (.const (.bool false)))] false 4, none, 0, none⟩,
    ⟨(some 40), .move (.tmp 44), none, 4, none⟩,
    ⟨(some 45), .extract (.tmp 40) 0, none, 4, none⟩,
    ⟨(some 46), .extract (.tmp 40) 1, none, 4, none⟩,
    ⟨(some 11), .move (.tmp 45), none, 4, none⟩,
    ⟨(some 12), .move (.tmp 46), none, 4, none⟩] []) (.seq (.region 4 [
    ⟨(some 48), .move (.tmp 0), none, 0, none⟩,
    ⟨(some 49), .load true 2 (.tmp 4), none, 0, none⟩,
    ⟨(some 50), .load true 4 (.tmp 5), none, 0, none⟩,
    ⟨(some 51), .call (.func 46) [(false, (.tmp 48)), (false, (.tmp 49)), (false, (.tmp 50)), (false, (.const (.bool true)))] false 4, none, 0, none⟩,
    ⟨(some 47), .move (.tmp 51), none, 4, none⟩,
    ⟨(some 52), .extract (.tmp 47) 0, none, 4, none⟩,
    ⟨(some 53), .extract (.tmp 47) 1, none, 4, none⟩,
    ⟨(some 13), .move (.tmp 52), none, 4, none⟩,
    ⟨(some 14), .move (.tmp 53), none, 4, none⟩] []) (.seq (.region 8 [
    ⟨(some 54), .move (.tmp 8), none, 0, none⟩,
    ⟨(some 55), .move (.tmp 12), none, 0, none⟩,
    ⟨(some 56), .bin .eql (.tmp 54) (.tmp 55), none, 0, none⟩,
    ⟨(some 57), .move (.tmp 56), none, 0, none⟩,
    ⟨(some 58), .move (.tmp 7), (some (57, true)), 0, none⟩,
    ⟨(some 59), .move (.tmp 11), (some (57, true)), 0, none⟩,
    ⟨(some 60), .call (.func 32) [(false, (.tmp 58)), (false, (.tmp 59))] false 4, (some (57, true)), 0, none⟩,
    ⟨(some 61), .pick (.tmp 57) (.tmp 60) (.const (.bool false)), none, 4, none⟩,
    ⟨(some 62), .move (.tmp 61), none, 4, none⟩,
    ⟨(some 63), .move (.tmp 10), (some (62, true)), 4, none⟩,
    ⟨(some 64), .move (.tmp 14), (some (62, true)), 4, none⟩,
    ⟨(some 65), .bin .eql (.tmp 63) (.tmp 64), (some (62, true)), 4, none⟩,
    ⟨(some 66), .pick (.tmp 62) (.tmp 65) (.const (.bool false)), none, 4, none⟩,
    ⟨(some 67), .move (.tmp 66), none, 4, none⟩,
    ⟨(some 68), .move (.tmp 9), (some (67, true)), 4, none⟩,
    ⟨(some 69), .move (.tmp 13), (some (67, true)), 4, none⟩,
    ⟨(some 70), .call (.func 32) [(false, (.tmp 68)), (false, (.tmp 69))] false 4, (some (67, true)), 4, none⟩,
    ⟨(some 71), .pick (.tmp 67) (.tmp 70) (.const (.bool false)), none, 8, none⟩,
    ⟨(some 6), .move (.tmp 71), none, 8, none⟩] []) (.ret)))))))), [.tmp 6], true⟩
def s9 : Sig := ⟨(.cons (.v (.list .step)) (.cons (.v (.pair (.int .i64) (.int .i64))) (.cons (.v .res) .nil))), [], ((.v .bool), []), []⟩
def F9 (L : Lp) (g30 : Option Bool) (g44 : (List Step) → Int → Int → Res → Option ((List Step) × (Int × Unit))) (g45 : (List Step) → Int → Int → Res → Option ((List Step) × (Int × Unit))) (g46 : (List Step) → (Int × Int) → Res → Bool → Option ((List Step) × (Int × Unit))) (g32 : (List Step) → (List Step) → Option Bool) (al0 : (List Step)) (w1 : (Int × Int)) (need2 : Res) : Option Bool :=
  Option.bind (g30) fun r3 =>
  cond (!r3)
    (some false)
    (cond (decide (40 < (List.length al0 : Int)))
      (some true)
      (Option.bind (g44 al0 w1.1 w1.2 need2) fun r4 =>
      Option.bind (g45 al0 w1.1 w1.2 need2) fun r5 =>
      Option.bind (g46 al0 w1 need2 false) fun r6 =>
      Option.bind (g46 al0 w1 need2 true) fun r7 =>
      cond (decide (r4.2.1 = r6.2.1))
        (Option.bind (g32 r4.1 r6.1) fun r8 =>
        cond r8
          (cond (decide (r5.2.1 = r7.2.1))
            (Option.bind (g32 r5.1 r7.1) fun r9 =>
            some r9)
            (some false))
          (some false))
        (some false)))
theorem e9 (L : Lp) (g30 : Option Bool) (g44 : (List Step) → Int → Int → Res → Option ((List Step) × (Int × Unit))) (g45 : (List Step) → Int → Int → Res → Option ((List Step) × (Int × Unit))) (g46 : (List Step) → (Int × Int) → Res → Bool → Option ((List Step) × (Int × Unit))) (g32 : (List Step) → (List Step) → Option Bool) (x : s9.args.den) (h : denH s9.heap) : nrun [⟨30, s30, fun x h => g30 ⟩, ⟨44, s44, fun x h => g44 x.1 x.2.1 x.2.2.1 x.2.2.2.1⟩, ⟨45, s45, fun x h => g45 x.1 x.2.1 x.2.2.1 x.2.2.2.1⟩, ⟨46, s46, fun x h => g46 x.1 x.2.1 x.2.2.1 x.2.2.2.1⟩, ⟨32, s32, fun x h => g32 x.1 x.2.1⟩] L n9 s9 x h = F9 L g30 g44 g45 g46 g32 x.1 x.2.1 x.2.2.1 := by kernel_rfl
def f9 : (List Step) → (Int × Int) → Res → Option Bool := F9 (@LN LOOPS) f30 f44 f45 f46 f32
@[reducible] def t9 : Ent := ⟨9, s9, fun x h => f9 x.1 x.2.1 x.2.2.1⟩
theorem k9 : chkNF Try.prog Try.f9 n9 = true := by kernel_rfl
theorem ok9 : NOk Try.prog t9 := NOk.body (T := [t30, t44, t45, t46, t32]) mixed (nall_cons ok30 (nall_cons ok44 (nall_cons ok45 (nall_cons ok46 (nall_cons ok32 nall_nil))))) (oneEach_of (by kernel_rfl)) Try.func9 k9 (by kernel_rfl) (fun x h => e9 _ _ _ _ _ _ x h)
end NM
end Go.Proofs.Ytgpejfddaelobaa
