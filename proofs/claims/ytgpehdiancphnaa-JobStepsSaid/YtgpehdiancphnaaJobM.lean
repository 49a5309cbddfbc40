/-
  The plain forms of the functions that the statement reaches, and that each is its function's body. (Written by program.)
-/
import Derived.Test.YtgpehdiancphnaaNmX
import Derived.Test.YtgpehdiancphnaaProg
import Derived.ProofKit
set_option linter.unusedVariables false
set_option maxRecDepth 100000
set_option maxHeartbeats 4000000
namespace Go.Proofs.Ytgpehdiancphnaa
namespace NM
open AM Go.RowKit
theorem mixed : Try.prog.follows .mixedOrders = true := by kernel_rfl
/- drayage/job.within -/
def n84 : NFunc := ⟨15, .seq (.region 0 [
    ⟨(some 6), .move (.const (.bool false)), none, 0, none⟩] []) (.seq (.region 0 [
    ⟨(some 7), .move (.tmp 1), none, 0, none⟩,
    ⟨(some 8), .move (.tmp 0), none, 0, none⟩,
    ⟨(some 9), .bin .leq (.tmp 7) (.tmp 8), none, 0, none⟩,
    ⟨(some 10), .move (.tmp 9), none, 0, none⟩,
    ⟨(some 11), .move (.tmp 0), (some (10, true)), 0, none⟩,
    ⟨(some 12), .move (.tmp 2), (some (10, true)), 0, none⟩,
    ⟨(some 13), .bin .leq (.tmp 11) (.tmp 12), (some (10, true)), 0, none⟩,
    ⟨(some 14), .pick (.tmp 10) (.tmp 13) (.const (.bool false)), none, 0, none⟩,
    ⟨(some 6), .move (.tmp 14), none, 0, none⟩] []) (.ret)), [.tmp 6], true⟩
def s84 : Sig := ⟨(.cons (.v (.int .i64)) (.cons (.v (.int .i64)) (.cons (.v (.int .i64)) .nil))), [], ((.v .bool), []), []⟩
def F84 (L : Lp)  (an0 : Int) (lo1 : Int) (hi2 : Int) : Option Bool :=
  cond (decide (lo1 ≤ an0))
    (some (decide (an0 ≤ hi2)))
    (some false)
theorem e84 (L : Lp)  (x : s84.args.den) (h : denH s84.heap) : nrun [] L n84 s84 x h = F84 L  x.1 x.2.1 x.2.2.1 := by kernel_rfl
def f84 : Int → Int → Int → Option Bool := F84 (@LN LOOPS) 
@[reducible] def t84 : Ent := ⟨84, s84, fun x h => f84 x.1 x.2.1 x.2.2.1⟩
theorem k84 : chkNF Try.prog Try.f84 n84 = true := by kernel_rfl
theorem ok84 : NOk Try.prog t84 := NOk.body (T := []) mixed nall_nil (oneEach_of (by kernel_rfl)) Try.func84 k84 (by kernel_rfl) (fun x h => e84 _  x h)
/- drayage/vec.numbers -/
def n134 : NFunc := ⟨12, .seq (.region 2 [
    ⟨(some 1), .box 4 (.tmp 0), none, 0, none⟩,
    ⟨(some 2), .alloc [.int .i64 (0), .int .i64 (0), .int .i64 (0), .int .i64 (0)], none, 1, none⟩] []) (.seq (.region 0 [
    ⟨(some 3), .fieldAddr 0 (.tmp 1), none, 0, none⟩,
    ⟨(some 4), .load false 1 (.tmp 3), none, 0, none⟩,
    ⟨(some 5), .fieldAddr 1 (.tmp 1), none, 0, none⟩,
    ⟨(some 6), .load false 1 (.tmp 5), none, 0, none⟩,
    ⟨(some 7), .fieldAddr 2 (.tmp 1), none, 0, none⟩,
    ⟨(some 8), .load false 1 (.tmp 7), none, 0, none⟩,
    ⟨(some 9), .fieldAddr 3 (.tmp 1), none, 0, none⟩,
    ⟨(some 10), .load false 1 (.tmp 9), none, 0, none⟩,
    ⟨(some 11), .build [.int .i64 (0), .int .i64 (0), .int .i64 (0), .int .i64 (0)] [(0, 1, (.tmp 4)), (1, 1, (.tmp 6)), (2, 1, (.tmp 8)), (3, 1, (.tmp 10))], none, 0, none⟩,
    ⟨none, .store 4 (.tmp 2) (.tmp 11), none, 0, none⟩] []) (.ret)), [.cell true 4 2], true⟩
def s134 : Sig := ⟨(.cons (.v .res) .nil), [], ((.v (.pair (.int .i64) (.pair (.int .i64) (.pair (.int .i64) (.int .i64))))), []), []⟩
def F134 (L : Lp)  (a0 : Res) : Option (Int × (Int × (Int × Int))) :=
  some (a0.cpu, (a0.mem, (a0.gpu, a0.lic)))
theorem e134 (L : Lp)  (x : s134.args.den) (h : denH s134.heap) : nrun [] L n134 s134 x h = F134 L  x.1 := by kernel_rfl
def f134 : Res → Option (Int × (Int × (Int × Int))) := F134 (@LN LOOPS) 
@[reducible] def t134 : Ent := ⟨134, s134, fun x h => f134 x.1⟩
theorem k134 : chkNF Try.prog Try.f134 n134 = true := by kernel_rfl
theorem ok134 : NOk Try.prog t134 := NOk.body (T := []) mixed nall_nil (oneEach_of (by kernel_rfl)) Try.func134 k134 (by kernel_rfl) (fun x h => e134 _  x h)
/- drayage/vec.Right -/
def n87 : NFunc := ⟨17, .seq (.region 1 [
    ⟨(some 1), .box 4 (.tmp 0), none, 0, none⟩,
    ⟨(some 2), .move (.const (.bool false)), none, 1, none⟩] []) (.seq (.seq (.region 4 [
    ⟨(some 5), .load true 4 (.tmp 1), none, 0, none⟩,
    ⟨(some 6), .call (.func 134) [(false, (.tmp 5))] false 4, none, 0, none⟩,
    ⟨(some 7), .move (.const (.int .i64 (0))), none, 4, none⟩] []) (.block 0 (.loopU [6, 7] 5 (.seq (.region 0 [
    ⟨(some 8), .bin .lss (.tmp 7) (.const (.int .i64 (4))), none, 0, none⟩] []) (.seq (.cond (.tmp 8) (.skip) (.exit 0)) (.seq (.block 1 (.seq (.region 0 [
    ⟨(some 9), .indexVal false 4 1 (.tmp 6) (.tmp 7), none, 0, none⟩,
    ⟨(some 4), .move (.tmp 9), none, 0, none⟩] []) (.seq (.region 0 [
    ⟨(some 10), .move (.tmp 4), none, 0, none⟩,
    ⟨(some 11), .bin .lss (.tmp 10) (.const (.int .i64 (0))), none, 0, none⟩,
    ⟨(some 12), .move (.tmp 11), none, 0, none⟩,
    ⟨(some 13), .move (.tmp 4), (some (12, false)), 0, none⟩,
    ⟨(some 14), .bin .gtr (.tmp 13) (.const (.int .i64 (1048576))), (some (12, false)), 0, none⟩,
    ⟨(some 15), .pick (.tmp 12) (.const (.bool true)) (.tmp 14), none, 0, none⟩] []) (.cond (.tmp 15) (.seq (.region 0 [
    ⟨(some 2), .move (.const (.bool false)), none, 0, none⟩] []) (.ret)) (.skip))))) (.region 0 [
    ⟨(some 16), .bin .add (.tmp 7) (.const (.int .i64 (1))), none, 0, none⟩,
    ⟨(some 7), .move (.tmp 16), none, 0, none⟩] []))))))) (.seq (.region 0 [
    ⟨(some 2), .move (.const (.bool true)), none, 0, none⟩] []) (.ret))), [.tmp 2], true⟩
def s87 : Sig := ⟨(.cons (.v .res) .nil), [], ((.v .bool), []), []⟩
def F87 (L : Lp) (g134 : Res → Option (Int × (Int × (Int × Int)))) (a0 : Res) : Option Bool :=
  Option.bind (g134 a0) fun r1 =>
  cond (decide (r1.1 < 0))
    (some false)
    (cond (decide (1048576 < r1.1))
      (some false)
      (cond (decide (r1.2.1 < 0))
        (some false)
        (cond (decide (1048576 < r1.2.1))
          (some false)
          (cond (decide (r1.2.2.1 < 0))
            (some false)
            (cond (decide (1048576 < r1.2.2.1))
              (some false)
              (cond (decide (r1.2.2.2 < 0))
                (some false)
                (cond (decide (1048576 < r1.2.2.2))
                  (some false)
                  (some true))))))))
theorem e87 (L : Lp) (g134 : Res → Option (Int × (Int × (Int × Int)))) (x : s87.args.den) (h : denH s87.heap) : nrun [⟨134, s134, fun x h => g134 x.1⟩] L n87 s87 x h = F87 L g134 x.1 := by kernel_rfl
def f87 : Res → Option Bool := F87 (@LN LOOPS) f134
@[reducible] def t87 : Ent := ⟨87, s87, fun x h => f87 x.1⟩
theorem k87 : chkNF Try.prog Try.f87 n87 = true := by kernel_rfl
theorem ok87 : NOk Try.prog t87 := NOk.body (T := [t134]) mixed (nall_cons ok134 nall_nil) (oneEach_of (by kernel_rfl)) Try.func87 k87 (by kernel_rfl) (fun x h => e87 _ _ x h)
/- drayage/job.afterRight -/
def n88 : NFunc := ⟨24, .seq (.region 1 [
    ⟨(some 1), .box 18 (.tmp 0), none, 0, none⟩,
    ⟨(some 2), .move (.const (.bool false)), none, 1, none⟩] []) (.seq (.seq (.region 0 [
    ⟨(some 5), .fieldAddr 9 (.tmp 1), none, 0, none⟩,
    ⟨(some 6), .load false 1 (.tmp 5), none, 0, none⟩,
    ⟨(some 7), .len (.tmp 6), none, 0, none⟩,
    ⟨(some 8), .bin .gtr (.tmp 7) (.const (.int .i64 (4))), none, 0, none⟩] []) (.cond (.tmp 8) (.seq (.region 0 [
    ⟨(some 2), .move (.const (.bool false)), none, 0, none⟩] []) (.ret)) (.skip))) (.seq (.seq (.region 0 [
    ⟨(some 9), .fieldAddr 9 (.tmp 1), none, 0, none⟩,
    ⟨(some 10), .load false 1 (.tmp 9), none, 0, none⟩,
    ⟨(some 11), .len (.tmp 10), none, 0, none⟩,
    ⟨(some 12), .move (.const (.int .i64 (0))), none, 0, none⟩] []) (.block 0 (.loop [1, 10, 11, 12] ⟨[(1, (.ptr 0 0 0)), (12, (.v (.int .i64)))], [10, 11], [.one false .job]⟩ (.seq (.region 0 [
    ⟨(some 13), .bin .lss (.tmp 12) (.tmp 11), none, 0, none⟩] []) (.seq (.cond (.tmp 13) (.skip) (.exit 0)) (.seq (.block 1 (.seq (.region 1 [
    ⟨(some 14), .indexSl 2 (.tmp 10) (.tmp 12), none, 0, none⟩,
    ⟨(some 15), .load true 2 (.tmp 14), none, 0, none⟩,
    ⟨(some 4), .alloc [.int .i64 (0), .bool false], none, 0, none⟩,
    ⟨none, .store 2 (.tmp 4) (.tmp 15), none, 1, none⟩] []) (.seq (.region 4 [
    ⟨(some 16), .fieldAddr 0 (.tmp 4), none, 0, none⟩,
    ⟨(some 17), .load false 1 (.tmp 16), none, 0, none⟩,
    ⟨(some 18), .fieldAddr 0 (.tmp 1), none, 0, none⟩,
    ⟨(some 19), .load false 1 (.tmp 18), none, 0, none⟩,
    ⟨(some 20), .bin .sub (.tmp 19) (.const (.int .i64 (1))), none, 0, none⟩,
    ⟨(some 21), .call (.func 84) [(false, (.tmp 17)), (false, (.const (.int .i64 (1)))), (false, (.tmp 20))] false 4, none, 0, none⟩,
    ⟨(some 22), .un .not (.tmp 21), none, 4, none⟩] []) (.cond (.tmp 22) (.seq (.region 0 [
    ⟨(some 2), .move (.const (.bool false)), none, 0, none⟩] []) (.ret)) (.skip))))) (.region 0 [
    ⟨(some 23), .bin .add (.tmp 12) (.const (.int .i64 (1))), none, 0, none⟩,
    ⟨(some 12), .move (.tmp 23), none, 0, none⟩] []))))))) (.seq (.region 0 [
    ⟨(some 2), .move (.const (.bool true)), none, 0, none⟩] []) (.ret)))), [.tmp 2], true⟩
def s88 : Sig := ⟨(.cons (.v .job) .nil), [], ((.v .bool), []), []⟩
def l88_0 (g84 : Int → Int → Int → Option Bool) (j0 : Job) (next : ((Unit × (Int × Unit)) × (Job × Unit)) → Option Bool) (z2 : Int) (z3 : Job) : Option Bool :=
  cond (decide (z2 < (List.length j0.after : Int)))
    (cond (decide (0 ≤ z2))
      (Option.bind (j0.after[Int.toNat z2]?) fun y4 =>
      Option.bind (g84 y4.job 1 (IntKind.wrap .i64 (z3.id - 1))) fun r5 =>
      cond (!r5)
        (some false)
        (next (((), IntKind.wrap .i64 (z2 + 1), ()), (z3, ()))))
      (none))
    (some true)
def F88 (L : Lp) (g84 : Int → Int → Int → Option Bool) (j0 : Job) : Option Bool :=
  cond (decide (4 < (List.length j0.after : Int)))
    (some false)
    (L (fun (s1 : ((Unit × (Int × Unit)) × (Job × Unit))) next => l88_0 g84 j0 next s1.1.2.1 s1.2.1) (((), 0, ()), (j0, ())))
theorem e88 (L : Lp) (g84 : Int → Int → Int → Option Bool) (x : s88.args.den) (h : denH s88.heap) : nrun [⟨84, s84, fun x h => g84 x.1 x.2.1 x.2.2.1⟩] L n88 s88 x h = F88 L g84 x.1 := by kernel_rfl
def f88 : Job → Option Bool := F88 (@LN LOOPS) f84
@[reducible] def t88 : Ent := ⟨88, s88, fun x h => f88 x.1⟩
theorem k88 : chkNF Try.prog Try.f88 n88 = true := by kernel_rfl
theorem ok88 : NOk Try.prog t88 := NOk.body (T := [t84]) mixed (nall_cons ok84 nall_nil) (oneEach_of (by kernel_rfl)) Try.func88 k88 (by kernel_rfl) (fun x h => e88 _ _ x h)
/- drayage/life.Name -/
def n135 : NFunc := ⟨16, .seq (.region 0 [
    ⟨(some 2), .move (.const (.str [])), none, 0, none⟩] []) (.seq (.seq (.region 0 [
    ⟨(some 3), .move (.tmp 0), none, 0, none⟩] []) (.block 0 (.seq (.region 0 [
    ⟨(some 5), .bin .eql (.tmp 3) (.const (.int .i64 (1))), none, 0, none⟩,
    ⟨(some 4), .move (.tmp 5), none, 0, none⟩] []) (.cond (.tmp 4) (.seq (.region 0 [
    ⟨(some 2), .move (.const (.str [113, 117, 101, 117, 101, 100])), none, 0, none⟩] []) (.ret)) (.seq (.region 0 [
    ⟨(some 7), .bin .eql (.tmp 3) (.const (.int .i64 (2))), none, 0, none⟩,
    ⟨(some 6), .move (.tmp 7), none, 0, none⟩] []) (.cond (.tmp 6) (.seq (.region 0 [
    ⟨(some 2), .move (.const (.str [104, 101, 108, 100])), none, 0, none⟩] []) (.ret)) (.seq (.region 0 [
    ⟨(some 9), .bin .eql (.tmp 3) (.const (.int .i64 (3))), none, 0, none⟩,
    ⟨(some 8), .move (.tmp 9), none, 0, none⟩] []) (.cond (.tmp 8) (.seq (.region 0 [
    ⟨(some 2), .move (.const (.str [114, 117, 110, 110, 105, 110, 103])), none, 0, none⟩] []) (.ret)) (.seq (.region 0 [
    ⟨(some 11), .bin .eql (.tmp 3) (.const (.int .i64 (4))), none, 0, none⟩,
    ⟨(some 10), .move (.tmp 11), none, 0, none⟩] []) (.cond (.tmp 10) (.seq (.region 0 [
    ⟨(some 2), .move (.const (.str [101, 120, 105, 116, 105, 110, 103])), none, 0, none⟩] []) (.ret)) (.seq (.region 0 [
    ⟨(some 13), .bin .eql (.tmp 3) (.const (.int .i64 (5))), none, 0, none⟩,
    ⟨(some 12), .move (.tmp 13), none, 0, none⟩] []) (.cond (.tmp 12) (.seq (.region 0 [
    ⟨(some 2), .move (.const (.str [99, 111, 109, 112, 108, 101, 116, 101, 100])), none, 0, none⟩] []) (.ret)) (.seq (.region 0 [
    ⟨(some 15), .bin .eql (.tmp 3) (.const (.int .i64 (6))), none, 0, none⟩,
    ⟨(some 14), .move (.tmp 15), none, 0, none⟩] []) (.cond (.tmp 14) (.seq (.region 0 [
    ⟨(some 2), .move (.const (.str [99, 97, 110, 99, 101, 108, 108, 101, 100])), none, 0, none⟩] []) (.ret)) (.skip))))))))))))))) (.seq (.region 0 [
    ⟨(some 2), .move (.const (.str [])), none, 0, none⟩] []) (.ret))), [.tmp 2], true⟩
def s135 : Sig := ⟨(.cons (.v (.int .i64)) .nil), [], ((.v .str), []), []⟩
def F135 (L : Lp)  (state0 : Int) : Option (List UInt8) :=
  cond (decide (state0 = 1))
    (some ([113, 117, 101, 117, 101, 100] : List UInt8))
    (cond (decide (state0 = 2))
      (some ([104, 101, 108, 100] : List UInt8))
      (cond (decide (state0 = 3))
        (some ([114, 117, 110, 110, 105, 110, 103] : List UInt8))
        (cond (decide (state0 = 4))
          (some ([101, 120, 105, 116, 105, 110, 103] : List UInt8))
          (cond (decide (state0 = 5))
            (some ([99, 111, 109, 112, 108, 101, 116, 101, 100] : List UInt8))
            (cond (decide (state0 = 6))
              (some ([99, 97, 110, 99, 101, 108, 108, 101, 100] : List UInt8))
              (some ([] : List UInt8)))))))
theorem e135 (L : Lp)  (x : s135.args.den) (h : denH s135.heap) : nrun [] L n135 s135 x h = F135 L  x.1 := by kernel_rfl
def f135 : Int → Option (List UInt8) := F135 (@LN LOOPS) 
@[reducible] def t135 : Ent := ⟨135, s135, fun x h => f135 x.1⟩
theorem k135 : chkNF Try.prog Try.f135 n135 = true := by kernel_rfl
theorem ok135 : NOk Try.prog t135 := NOk.body (T := []) mixed nall_nil (oneEach_of (by kernel_rfl)) Try.func135 k135 (by kernel_rfl) (fun x h => e135 _  x h)
/- drayage/life.Waits -/
def n133 : NFunc := ⟨9, .seq (.region 0 [
    ⟨(some 2), .move (.const (.bool false)), none, 0, none⟩] []) (.seq (.region 0 [
    ⟨(some 3), .move (.tmp 0), none, 0, none⟩,
    ⟨(some 4), .bin .eql (.tmp 3) (.const (.int .i64 (1))), none, 0, none⟩,
    ⟨(some 5), .move (.tmp 4), none, 0, none⟩,
    ⟨(some 6), .move (.tmp 0), (some (5, false)), 0, none⟩,
    ⟨(some 7), .bin .eql (.tmp 6) (.const (.int .i64 (2))), (some (5, false)), 0, none⟩,
    ⟨(some 8), .pick (.tmp 5) (.const (.bool true)) (.tmp 7), none, 0, none⟩,
    ⟨(some 2), .move (.tmp 8), none, 0, none⟩] []) (.ret)), [.tmp 2], true⟩
def s133 : Sig := ⟨(.cons (.v (.int .i64)) .nil), [], ((.v .bool), []), []⟩
def F133 (L : Lp)  (state0 : Int) : Option Bool :=
  cond (decide (state0 = 1))
    (some true)
    (some (decide (state0 = 2)))
theorem e133 (L : Lp)  (x : s133.args.den) (h : denH s133.heap) : nrun [] L n133 s133 x h = F133 L  x.1 := by kernel_rfl
def f133 : Int → Option Bool := F133 (@LN LOOPS) 
@[reducible] def t133 : Ent := ⟨133, s133, fun x h => f133 x.1⟩
theorem k133 : chkNF Try.prog Try.f133 n133 = true := by kernel_rfl
theorem ok133 : NOk Try.prog t133 := NOk.body (T := []) mixed nall_nil (oneEach_of (by kernel_rfl)) Try.func133 k133 (by kernel_rfl) (fun x h => e133 _  x h)
/- drayage/life.Over -/
def n86 : NFunc := ⟨9, .seq (.region 0 [
    ⟨(some 2), .move (.const (.bool false)), none, 0, none⟩] []) (.seq (.region 0 [
    ⟨(some 3), .move (.tmp 0), none, 0, none⟩,
    ⟨(some 4), .bin .eql (.tmp 3) (.const (.int .i64 (5))), none, 0, none⟩,
    ⟨(some 5), .move (.tmp 4), none, 0, none⟩,
    ⟨(some 6), .move (.tmp 0), (some (5, false)), 0, none⟩,
    ⟨(some 7), .bin .eql (.tmp 6) (.const (.int .i64 (6))), (some (5, false)), 0, none⟩,
    ⟨(some 8), .pick (.tmp 5) (.const (.bool true)) (.tmp 7), none, 0, none⟩,
    ⟨(some 2), .move (.tmp 8), none, 0, none⟩] []) (.ret)), [.tmp 2], true⟩
def s86 : Sig := ⟨(.cons (.v (.int .i64)) .nil), [], ((.v .bool), []), []⟩
def F86 (L : Lp)  (state0 : Int) : Option Bool :=
  cond (decide (state0 = 5))
    (some true)
    (some (decide (state0 = 6)))
theorem e86 (L : Lp)  (x : s86.args.den) (h : denH s86.heap) : nrun [] L n86 s86 x h = F86 L  x.1 := by kernel_rfl
def f86 : Int → Option Bool := F86 (@LN LOOPS) 
@[reducible] def t86 : Ent := ⟨86, s86, fun x h => f86 x.1⟩
theorem k86 : chkNF Try.prog Try.f86 n86 = true := by kernel_rfl
theorem ok86 : NOk Try.prog t86 := NOk.body (T := []) mixed nall_nil (oneEach_of (by kernel_rfl)) Try.func86 k86 (by kernel_rfl) (fun x h => e86 _  x h)
/- drayage/job.stateRight -/
def n89 : NFunc := ⟨53, .seq (.region 1 [
    ⟨(some 1), .box 18 (.tmp 0), none, 0, none⟩,
    ⟨(some 2), .move (.const (.bool false)), none, 1, none⟩] []) (.seq (.block 0 (.seq (.region 4 [
    ⟨(some 4), .fieldAddr 10 (.tmp 1), none, 0, none⟩,
    ⟨(some 5), .load false 1 (.tmp 4), none, 0, none⟩,
    ⟨(some 6), .call (.func 135) [(false, (.tmp 5))] false 4, none, 0, none⟩,
    ⟨(some 7), .bin .eql (.tmp 6) (.const (.str [])), none, 4, none⟩,
    ⟨(some 3), .move (.tmp 7), none, 4, none⟩] []) (.cond (.tmp 3) (.seq (.region 0 [
    ⟨(some 2), .move (.const (.bool false)), none, 0, none⟩] []) (.ret)) (.seq (.meet [1, 8] [] ⟨[(1, (.ptr 0 0 0)), (8, (.v .bool))], [], [.one false .job]⟩ (.region 4 [
    ⟨(some 9), .fieldAddr 15 (.tmp 1), none, 0, none⟩,
    ⟨(some 10), .load false 1 (.tmp 9), none, 0, none⟩,
    ⟨(some 11), .bin .neq (.tmp 10) (.const (.int .i64 (0))), none, 0, none⟩,
    ⟨(some 12), .move (.tmp 11), none, 0, none⟩,
    ⟨(some 13), .fieldAddr 10 (.tmp 1), (some (12, true)), 0, none⟩,
    ⟨(some 14), .load false 1 (.tmp 13), (some (12, true)), 0, none⟩,
    ⟨(some 15), .call (.func 133) [(false, (.tmp 14))] false 4, (some (12, true)), 0, none⟩,
    ⟨(some 16), .pick (.tmp 12) (.tmp 15) (.const (.bool false)), none, 4, none⟩,
    ⟨(some 8), .move (.tmp 16), none, 4, none⟩] [])) (.cond (.tmp 8) (.seq (.region 0 [
    ⟨(some 2), .move (.const (.bool false)), none, 0, none⟩] []) (.ret)) (.seq (.meet [1, 17] [] ⟨[(1, (.ptr 0 0 0)), (17, (.v .bool))], [], [.one false .job]⟩ (.region 4 [
    ⟨(some 18), .fieldAddr 16 (.tmp 1), none, 0, none⟩,
    ⟨(some 19), .load false 1 (.tmp 18), none, 0, none⟩,
    ⟨(some 20), .bin .neq (.tmp 19) (.const (.int .i64 (0))), none, 0, none⟩,
    ⟨(some 21), .move (.tmp 20), none, 0, none⟩,
    ⟨(some 22), .fieldAddr 10 (.tmp 1), (some (21, true)), 0, none⟩,
    ⟨(some 23), .load false 1 (.tmp 22), (some (21, true)), 0, none⟩,
    ⟨(some 24), .call (.func 86) [(false, (.tmp 23))] false 4, (some (21, true)), 0, none⟩,
    ⟨(some 25), .un .not (.tmp 24), (some (21, true)), 4, none⟩,
    ⟨(some 26), .pick (.tmp 21) (.tmp 25) (.const (.bool false)), none, 4, none⟩,
    ⟨(some 17), .move (.tmp 26), none, 4, none⟩] [])) (.cond (.tmp 17) (.seq (.region 0 [
    ⟨(some 2), .move (.const (.bool false)), none, 0, none⟩] []) (.ret)) (.seq (.meet [1, 27] [] ⟨[(1, (.ptr 0 0 0)), (27, (.v .bool))], [], [.one false .job]⟩ (.region 0 [
    ⟨(some 28), .fieldAddr 11 (.tmp 1), none, 0, none⟩,
    ⟨(some 29), .load false 1 (.tmp 28), none, 0, none⟩,
    ⟨(some 30), .move (.tmp 29), none, 0, none⟩,
    ⟨(some 31), .fieldAddr 10 (.tmp 1), (some (30, true)), 0, none⟩,
    ⟨(some 32), .load false 1 (.tmp 31), (some (30, true)), 0, none⟩,
    ⟨(some 33), .bin .neq (.tmp 32) (.const (.int .i64 (4))), (some (30, true)), 0, none⟩,
    ⟨(some 34), .pick (.tmp 30) (.tmp 33) (.const (.bool false)), none, 0, none⟩,
    ⟨(some 35), .move (.tmp 34), none, 0, none⟩,
    ⟨(some 36), .fieldAddr 10 (.tmp 1), (some (35, true)), 0, none⟩,
    ⟨(some 37), .load false 1 (.tmp 36), (some (35, true)), 0, none⟩,
    ⟨(some 38), .bin .neq (.tmp 37) (.const (.int .i64 (5))), (some (35, true)), 0, none⟩,
    ⟨(some 39), .pick (.tmp 35) (.tmp 38) (.const (.bool false)), none, 0, none⟩,
    ⟨(some 27), .move (.tmp 39), none, 0, none⟩] [])) (.cond (.tmp 27) (.seq (.region 0 [
    ⟨(some 2), .move (.const (.bool false)), none, 0, none⟩] []) (.ret)) (.seq (.region 0 [
    ⟨(some 41), .fieldAddr 12 (.tmp 1), none, 0, none⟩,
    ⟨(some 42), .load false 1 (.tmp 41), none, 0, none⟩,
    ⟨(some 43), .move (.tmp 42), none, 0, none⟩,
    ⟨(some 44), .fieldAddr 10 (.tmp 1), (some (43, true)), 0, none⟩,
    ⟨(some 45), .load false 1 (.tmp 44), (some (43, true)), 0, none⟩,
    ⟨(some 46), .bin .neq (.tmp 45) (.const (.int .i64 (4))), (some (43, true)), 0, none⟩,
    ⟨(some 47), .pick (.tmp 43) (.tmp 46) (.const (.bool false)), none, 0, none⟩,
    ⟨(some 48), .move (.tmp 47), none, 0, none⟩,
    ⟨(some 49), .fieldAddr 10 (.tmp 1), (some (48, true)), 0, none⟩,
    ⟨(some 50), .load false 1 (.tmp 49), (some (48, true)), 0, none⟩,
    ⟨(some 51), .bin .neq (.tmp 50) (.const (.int .i64 (6))), (some (48, true)), 0, none⟩,
    ⟨(some 52), .pick (.tmp 48) (.tmp 51) (.const (.bool false)), none, 0, none⟩,
    ⟨(some 40), .move (.tmp 52), none, 0, none⟩] []) (.cond (.tmp 40) (.seq (.region 0 [
    ⟨(some 2), .move (.const (.bool false)), none, 0, none⟩] []) (.ret)) (.skip)))))))))))) (.seq (.region 0 [
    ⟨(some 2), .move (.const (.bool true)), none, 0, none⟩] []) (.ret))), [.tmp 2], true⟩
def s89 : Sig := ⟨(.cons (.v .job) .nil), [], ((.v .bool), []), []⟩
def F89 (L : Lp) (g135 : Int → Option (List UInt8)) (g133 : Int → Option Bool) (g86 : Int → Option Bool) (j0 : Job) : Option Bool :=
  Option.bind (g135 j0.state) fun r1 =>
  cond (decide (r1 = ([] : List UInt8)))
    (some false)
    (Option.bind (α := ((Unit × (Bool × Unit)) × (Job × Unit)))
      (cond (!decide (j0.start = 0))
        (Option.bind (g133 j0.state) fun r2 =>
        some (((), r2, ()), (j0, ())))
        (some (((), false, ()), (j0, ())))) fun x3 =>
    cond x3.1.2.1
      (some false)
      (Option.bind (α := ((Unit × (Bool × Unit)) × (Job × Unit)))
        (cond (!decide (x3.2.1.fin = 0))
          (Option.bind (g86 x3.2.1.state) fun r4 =>
          some (((), !r4, ()), (x3.2.1, ())))
          (some (((), false, ()), (x3.2.1, ())))) fun x5 =>
      cond x5.1.2.1
        (some false)
        (Option.bind (α := ((Unit × (Bool × Unit)) × (Job × Unit)))
          (cond x5.2.1.ok
            (cond (!decide (x5.2.1.state = 4))
              (some (((), !decide (x5.2.1.state = 5), ()), (x5.2.1, ())))
              (some (((), false, ()), (x5.2.1, ()))))
            (some (((), false, ()), (x5.2.1, ())))) fun x6 =>
        cond x6.1.2.1
          (some false)
          (cond x6.2.1.kill
            (cond (!decide (x6.2.1.state = 4))
              (cond (!decide (x6.2.1.state = 6))
                (some false)
                (some true))
              (some true))
            (some true)))))
theorem e89 (L : Lp) (g135 : Int → Option (List UInt8)) (g133 : Int → Option Bool) (g86 : Int → Option Bool) (x : s89.args.den) (h : denH s89.heap) : nrun [⟨135, s135, fun x h => g135 x.1⟩, ⟨133, s133, fun x h => g133 x.1⟩, ⟨86, s86, fun x h => g86 x.1⟩] L n89 s89 x h = F89 L g135 g133 g86 x.1 := by kernel_rfl
def f89 : Job → Option Bool := F89 (@LN LOOPS) f135 f133 f86
@[reducible] def t89 : Ent := ⟨89, s89, fun x h => f89 x.1⟩
theorem k89 : chkNF Try.prog Try.f89 n89 = true := by kernel_rfl
theorem ok89 : NOk Try.prog t89 := NOk.body (T := [t135, t133, t86]) mixed (nall_cons ok135 (nall_cons ok133 (nall_cons ok86 nall_nil))) (oneEach_of (by kernel_rfl)) Try.func89 k89 (by kernel_rfl) (fun x h => e89 _ _ _ _ x h)
/- drayage/job.Right -/
def n29 : NFunc := ⟨72, .seq (.region 1 [
    ⟨(some 1), .box 18 (.tmp 0), none, 0, none⟩,
    ⟨(some 2), .move (.const (.bool false)), none, 1, none⟩] []) (.seq (.region 52 [
    ⟨(some 3), .fieldAddr 0 (.tmp 1), none, 0, none⟩,
    ⟨(some 4), .load false 1 (.tmp 3), none, 0, none⟩,
    ⟨(some 5), .call (.func 84) [(false, (.tmp 4)), (false, (.const (.int .i64 (1)))), (false, (.const (.int .i64 (1048576))))] false 4, none, 0, none⟩,
    ⟨(some 6), .move (.tmp 5), none, 4, none⟩,
    ⟨(some 7), .fieldAddr 1 (.tmp 1), (some (6, true)), 4, none⟩,
    ⟨(some 8), .load false 1 (.tmp 7), (some (6, true)), 4, none⟩,
    ⟨(some 9), .call (.func 84) [(false, (.tmp 8)), (false, (.const (.int .i64 (0)))), (false, (.const (.int .i64 (7))))] false 4, (some (6, true)), 4, none⟩,
    ⟨(some 10), .pick (.tmp 6) (.tmp 9) (.const (.bool false)), none, 8, none⟩,
    ⟨(some 11), .move (.tmp 10), none, 8, none⟩,
    ⟨(some 12), .fieldAddr 2 (.tmp 1), (some (11, true)), 8, none⟩,
    ⟨(some 13), .load false 1 (.tmp 12), (some (11, true)), 8, none⟩,
    ⟨(some 14), .call (.func 84) [(false, (.tmp 13)), (false, (.const (.int .i64 (0)))), (false, (.const (.int .i64 (7))))] false 4, (some (11, true)), 8, none⟩,
    ⟨(some 15), .pick (.tmp 11) (.tmp 14) (.const (.bool false)), none, 12, none⟩,
    ⟨(some 16), .move (.tmp 15), none, 12, none⟩,
    ⟨(some 17), .fieldAddr 3 (.tmp 1), (some (16, true)), 12, none⟩,
    ⟨(some 18), .load false 1 (.tmp 17), (some (16, true)), 12, none⟩,
    ⟨(some 19), .call (.func 84) [(false, (.tmp 18)), (false, (.const (.int .i64 (1)))), (false, (.const (.int .i64 (64))))] false 4, (some (16, true)), 12, none⟩,
    ⟨(some 20), .pick (.tmp 16) (.tmp 19) (.const (.bool false)), none, 16, none⟩,
    ⟨(some 21), .move (.tmp 20), none, 16, none⟩,
    ⟨(some 22), .fieldAddr 4 (.tmp 1), (some (21, true)), 16, none⟩,
    ⟨(some 23), .load true 4 (.tmp 22), (some (21, true)), 16, none⟩,
    ⟨(some 24), .call (.func 87) [(false, (.tmp 23))] false 4, (some (21, true)), 16, none⟩,
    ⟨(some 25), .pick (.tmp 21) (.tmp 24) (.const (.bool false)), none, 20, none⟩,
    ⟨(some 26), .move (.tmp 25), none, 20, none⟩,
    ⟨(some 27), .fieldAddr 4 (.tmp 1), (some (26, true)), 20, none⟩,
    ⟨(some 28), .load true 4 (.tmp 27), (some (26, true)), 20, none⟩,
    ⟨(some 29), .build [.int .i64 (0), .int .i64 (0), .int .i64 (0), .int .i64 (0)] [], (some (26, true)), 20, none⟩,
    ⟨(some 30), .eqAgg (true, [.int .i64, .int .i64, .int .i64, .int .i64]) (.tmp 28) (.tmp 29), (some (26, true)), 20, none⟩,
    ⟨(some 31), .pick (.tmp 26) (.tmp 30) (.const (.bool false)), none, 20, none⟩,
    ⟨(some 32), .move (.tmp 31), none, 20, none⟩,
    ⟨(some 33), .fieldAddr 8 (.tmp 1), (some (32, true)), 20, none⟩,
    ⟨(some 34), .load false 1 (.tmp 33), (some (32, true)), 20, none⟩,
    ⟨(some 35), .call (.func 84) [(false, (.tmp 34)), (false, (.const (.int .i64 (1)))), (false, (.const (.int .i64 (65536))))] false 4, (some (32, true)), 20, none⟩,
    ⟨(some 36), .pick (.tmp 32) (.tmp 35) (.const (.bool false)), none, 24, none⟩,
    ⟨(some 37), .move (.tmp 36), none, 24, none⟩,
    ⟨(some 38), .load true 18 (.tmp 1), (some (37, true)), 24, none⟩,
    ⟨(some 39), .call (.func 88) [(false, (.tmp 38))] false 4, (some (37, true)), 24, none⟩,
    ⟨(some 40), .pick (.tmp 37) (.tmp 39) (.const (.bool false)), none, 28, none⟩,
    ⟨(some 41), .move (.tmp 40), none, 28, none⟩,
    ⟨(some 42), .fieldAddr 13 (.tmp 1), (some (41, true)), 28, none⟩,
    ⟨(some 43), .load false 1 (.tmp 42), (some (41, true)), 28, none⟩,
    ⟨(some 44), .call (.func 84) [(false, (.tmp 43)), (false, (.const (.int .i64 (1)))), (false, (.const (.int .i64 (281474976710656))))] false 4, (some (41, true)), 28, none⟩,
    ⟨(some 45), .pick (.tmp 41) (.tmp 44) (.const (.bool false)), none, 32, none⟩,
    ⟨(some 46), .move (.tmp 45), none, 32, none⟩,
    ⟨(some 47), .fieldAddr 14 (.tmp 1), (some (46, true)), 32, none⟩,
    ⟨(some 48), .load false 1 (.tmp 47), (some (46, true)), 32, none⟩,
    ⟨(some 49), .call (.func 84) [(false, (.tmp 48)), (false, (.const (.int .i64 (0)))), (false, (.const (.int .i64 (1099511627776))))] false 4, (some (46, true)), 32, none⟩,
    ⟨(some 50), .pick (.tmp 46) (.tmp 49) (.const (.bool false)), none, 36, none⟩,
    ⟨(some 51), .move (.tmp 50), none, 36, none⟩,
    ⟨(some 52), .fieldAddr 15 (.tmp 1), (some (51, true)), 36, none⟩,
    ⟨(some 53), .load false 1 (.tmp 52), (some (51, true)), 36, none⟩,
    ⟨(some 54), .call (.func 84) [(false, (.tmp 53)), (false, (.const (.int .i64 (0)))), (false, (.const (.int .i64 (1099511627776))))] false 4, (some (51, true)), 36, none⟩,
    ⟨(some 55), .pick (.tmp 51) (.tmp 54) (.const (.bool false)), none, 40, none⟩,
    ⟨(some 56), .move (.tmp 55), none, 40, none⟩,
    ⟨(some 57), .fieldAddr 16 (.tmp 1), (some (56, true)), 40, none⟩,
    ⟨(some 58), .load false 1 (.tmp 57), (some (56, true)), 40, none⟩,
    ⟨(some 59), .call (.func 84) [(false, (.tmp 58)), (false, (.const (.int .i64 (0)))), (false, (.const (.int .i64 (1099511627776))))] false 4, (some (56, true)), 40, none⟩,
    ⟨(some 60), .pick (.tmp 56) (.tmp 59) (.const (.bool false)), none, 44, none⟩,
    ⟨(some 61), .move (.tmp 60), none, 44, none⟩,
    ⟨(some 62), .fieldAddr 17 (.tmp 1), (some (61, true)), 44, none⟩,
    ⟨(some 63), .load false 1 (.tmp 62), (some (61, true)), 44, none⟩,
    ⟨(some 64), .fieldAddr 0 (.tmp 1), (some (61, true)), 44, none⟩,
    ⟨(some 65), .load false 1 (.tmp 64), (some (61, true)), 44, none⟩,
    ⟨(some 66), .call (.func 84) [(false, (.tmp 63)), (false, (.const (.int .i64 (0)))), (false, (.tmp 65))] false 4, (some (61, true)), 44, none⟩,
    ⟨(some 67), .pick (.tmp 61) (.tmp 66) (.const (.bool false)), none, 48, none⟩,
    ⟨(some 68), .move (.tmp 67), none, 48, none⟩,
    ⟨(some 69), .load true 18 (.tmp 1), (some (68, true)), 48, none⟩,
    ⟨(some 70), .call (.func 89) [(false, (.tmp 69))] false 4, (some (68, true)), 48, none⟩,
    ⟨(some 71), .pick (.tmp 68) (.tmp 70) (.const (.bool false)), none, 52, none⟩,
    ⟨(some 2), .move (.tmp 71), none, 52, none⟩] []) (.ret)), [.tmp 2], true⟩
def s29 : Sig := ⟨(.cons (.v .job) .nil), [], ((.v .bool), []), []⟩
def F29 (L : Lp) (g84 : Int → Int → Int → Option Bool) (g87 : Res → Option Bool) (g88 : Job → Option Bool) (g89 : Job → Option Bool) (j0 : Job) : Option Bool :=
  Option.bind (g84 j0.id 1 1048576) fun r1 =>
  cond r1
    (Option.bind (g84 j0.user 0 7) fun r2 =>
    cond r2
      (Option.bind (g84 j0.queue 0 7) fun r3 =>
      cond r3
        (Option.bind (g84 j0.many 1 64) fun r4 =>
        cond r4
          (Option.bind (g87 j0.need) fun r5 =>
          cond r5
            (cond (!((decide (j0.need.cpu = 0)) && ((decide (j0.need.mem = 0)) && ((decide (j0.need.gpu = 0)) && ((decide (j0.need.lic = 0)) && true)))))
              (Option.bind (g84 j0.wall 1 65536) fun r6 =>
              cond r6
                (Option.bind (g88 j0) fun r7 =>
                cond r7
                  (Option.bind (g84 j0.version 1 281474976710656) fun r8 =>
                  cond r8
                    (Option.bind (g84 j0.born 0 1099511627776) fun r9 =>
                    cond r9
                      (Option.bind (g84 j0.start 0 1099511627776) fun r10 =>
                      cond r10
                        (Option.bind (g84 j0.fin 0 1099511627776) fun r11 =>
                        cond r11
                          (Option.bind (g84 j0.array 0 j0.id) fun r12 =>
                          cond r12
                            (Option.bind (g89 j0) fun r13 =>
                            some r13)
                            (some false))
                          (some false))
                        (some false))
                      (some false))
                    (some false))
                  (some false))
                (some false))
              (some false))
            (some false))
          (some false))
        (some false))
      (some false))
    (some false)
theorem e29 (L : Lp) (g84 : Int → Int → Int → Option Bool) (g87 : Res → Option Bool) (g88 : Job → Option Bool) (g89 : Job → Option Bool) (x : s29.args.den) (h : denH s29.heap) : nrun [⟨84, s84, fun x h => g84 x.1 x.2.1 x.2.2.1⟩, ⟨87, s87, fun x h => g87 x.1⟩, ⟨88, s88, fun x h => g88 x.1⟩, ⟨89, s89, fun x h => g89 x.1⟩] L n29 s29 x h = F29 L g84 g87 g88 g89 x.1 := by kernel_rfl
def f29 : Job → Option Bool := F29 (@LN LOOPS) f84 f87 f88 f89
@[reducible] def t29 : Ent := ⟨29, s29, fun x h => f29 x.1⟩
theorem k29 : chkNF Try.prog Try.f29 n29 = true := by kernel_rfl
theorem ok29 : NOk Try.prog t29 := NOk.body (T := [t84, t87, t88, t89]) mixed (nall_cons ok84 (nall_cons ok87 (nall_cons ok88 (nall_cons ok89 nall_nil)))) (oneEach_of (by kernel_rfl)) Try.func29 k29 (by kernel_rfl) (fun x h => e29 _ _ _ _ _ x h)
/- slices.Clone[[]drayage/api.Dep,drayage/api.Dep] -/
def n82 : NFunc := ⟨8, .seq (.region 0 [
    ⟨(some 2), .move (.const (.zsl)), none, 0, none⟩] []) (.seq (.seq (.region 0 [
    ⟨(some 3), .move (.tmp 0), none, 0, none⟩,
    ⟨(some 4), .eqI false (.tmp 3) (.const (.zsl)), none, 0, none⟩] []) (.cond (.tmp 4) (.seq (.region 0 [
    ⟨(some 2), .move (.const (.zsl)), none, 0, none⟩] []) (.ret)) (.skip))) (.seq (.region 2 [
    ⟨(some 5), .buildSlice 2 0 true [.int .i64 (0), .bool false] [], none, 0, none⟩,
    ⟨(some 6), .move (.tmp 0), none, 1, none⟩,
    ⟨(some 7), .append 2 16 true (.tmp 5) (.tmp 6), none, 1, none⟩,
    ⟨(some 2), .move (.tmp 7), none, 2, none⟩] []) (.ret))), [.tmp 2], false⟩
def s82 : Sig := ⟨(.cons (.v (.list .dep)) .nil), [], ((.slw 0 2), [.typed .dep]), []⟩
def F82 (L : Lp)  (as0 : (List Dep)) : Option (Unit × ((List Dep) × Unit)) :=
  cond (List.isEmpty as0)
    (none)
    (cond (smallB (0 + (List.length as0)) 16)
      (some ((), ([] ++ as0, ())))
      (none))
theorem e82 (L : Lp)  (x : s82.args.den) (h : denH s82.heap) : nrun [] L n82 s82 x h = F82 L  x.1 := by kernel_rfl
def f82 : (List Dep) → Option (Unit × ((List Dep) × Unit)) := cloneF (F82 (@LN LOOPS))
@[reducible] def t82 : Ent := ⟨82, s82, fun x h => f82 x.1⟩
theorem k82 : chkNF Try.prog Try.f82 n82 = true := by kernel_rfl
theorem c82 (A : Option Addr) (c : Nat) (w : World) : Calls Try.prog 82 #[.slice A 0 c] w (fun e w' => ∃ A', e = .returned (.slice A' 0 0) ∧ Go.RowKit.Below w.heap.size w w') := by
  have hq := fun (u : World) => Lib.run_eql_slice_nil (P := Try.prog) u 39 93 A 0 c 0 0 Try.underlying39
  cases A with
  | none => (go_enter Try.func82, Try.ntmps82; go_wp2; go_ret; exact ⟨_, rfl, Go.RowKit.Below.refl _ _⟩)
  | some ad => (go_enter Try.func82, Try.ntmps82; go_wp2; go_ret; exact ⟨_, rfl, (Go.RowKit.Below.refl _ _).alloc (Nat.le_refl _) _⟩)
theorem b82 : NOk Try.prog ⟨82, s82, fun x h => F82 (@LN LOOPS) x.1⟩ := NOk.body (T := []) mixed nall_nil (oneEach_of (by kernel_rfl)) Try.func82 k82 (by kernel_rfl) (fun x h => e82 _  x h)
theorem ok82 : NOk Try.prog t82 := NOk.clone (t := .dep) b82 (clone_empty .dep b82.1 c82)
/- drayage/job.New -/
def n22 : NFunc := ⟨34, .seq (.region 2 [
    ⟨(some 7), .box 17 (.tmp 3), none, 0, none⟩,
    ⟨(some 8), .alloc [.int .i64 (0), .int .i64 (0), .int .i64 (0), .int .i64 (0), .int .i64 (0), .int .i64 (0), .int .i64 (0), .int .i64 (0), .int .i64 (0), .zsl, .int .i64 (0), .bool false, .bool false, .int .i64 (0), .int .i64 (0), .int .i64 (0), .int .i64 (0), .int .i64 (0)], none, 1, none⟩,
    ⟨(some 9), .move (.const (.int .i64 (0))), none, 2, none⟩] []) (.seq (.region 1 [
    ⟨(some 11), .move (.tmp 0), none, 0, none⟩,
    ⟨(some 12), .move (.tmp 1), none, 0, none⟩,
    ⟨(some 13), .fieldAddr 4 (.tmp 7), none, 0, none⟩,
    ⟨(some 14), .load false 1 (.tmp 13), none, 0, none⟩,
    ⟨(some 15), .fieldAddr 5 (.tmp 7), none, 0, none⟩,
    ⟨(some 16), .load false 1 (.tmp 15), none, 0, none⟩,
    ⟨(some 17), .fieldAddr 6 (.tmp 7), none, 0, none⟩,
    ⟨(some 18), .load true 4 (.tmp 17), none, 0, none⟩,
    ⟨(some 19), .fieldAddr 10 (.tmp 7), none, 0, none⟩,
    ⟨(some 20), .load false 1 (.tmp 19), none, 0, none⟩,
    ⟨(some 21), .fieldAddr 12 (.tmp 7), none, 0, none⟩,
    ⟨(some 22), .load false 1 (.tmp 21), none, 0, none⟩,
    ⟨(some 23), .move (.tmp 2), none, 0, none⟩,
    ⟨(some 24), .build [.int .i64 (0), .int .i64 (0), .int .i64 (0), .int .i64 (0), .int .i64 (0), .int .i64 (0), .int .i64 (0), .int .i64 (0), .int .i64 (0), .zsl, .int .i64 (0), .bool false, .bool false, .int .i64 (0), .int .i64 (0), .int .i64 (0), .int .i64 (0), .int .i64 (0)] [(0, 1, (.tmp 11)), (1, 1, (.tmp 12)), (2, 1, (.tmp 14)), (3, 1, (.tmp 16)), (4, 4, (.tmp 18)), (8, 1, (.tmp 20)), (9, 1, (.tmp 22)), (10, 1, (.const (.int .i64 (1)))), (13, 1, (.const (.int .i64 (1)))), (14, 1, (.tmp 23))], none, 0, none⟩,
    ⟨(some 10), .alloc [.int .i64 (0), .int .i64 (0), .int .i64 (0), .int .i64 (0), .int .i64 (0), .int .i64 (0), .int .i64 (0), .int .i64 (0), .int .i64 (0), .zsl, .int .i64 (0), .bool false, .bool false, .int .i64 (0), .int .i64 (0), .int .i64 (0), .int .i64 (0), .int .i64 (0)], none, 0, none⟩,
    ⟨none, .store 18 (.tmp 10) (.tmp 24), none, 1, none⟩] []) (.seq (.seq (.region 4 [
    ⟨(some 25), .load true 18 (.tmp 10), none, 0, none⟩,
    ⟨(some 26), .call (.func 29) [(false, (.tmp 25))] false 4, none, 0, none⟩,
    ⟨(some 27), .un .not (.tmp 26), none, 4, none⟩] []) (.cond (.tmp 27) (.seq (.region 0 [
    ⟨(some 28), .build [.int .i64 (0), .int .i64 (0), .int .i64 (0), .int .i64 (0), .int .i64 (0), .int .i64 (0), .int .i64 (0), .int .i64 (0), .int .i64 (0), .zsl, .int .i64 (0), .bool false, .bool false, .int .i64 (0), .int .i64 (0), .int .i64 (0), .int .i64 (0), .int .i64 (0)] [], none, 0, none⟩,
    ⟨none, .store 18 (.tmp 8) (.tmp 28), none, 0, none⟩,
    ⟨(some 9), .move (.const (.int .i64 (2))), none, 0, none⟩] []) (.ret)) (.skip))) (.seq (.region 4 [
    ⟨(some 29), .fieldAddr 12 (.tmp 7), none, 0, none⟩,
    ⟨(some 30), .load false 1 (.tmp 29), none, 0, none⟩,
    ⟨(some 31), .call (.func 82) [(false, (.tmp 30))] false 4, none, 0, none⟩,
    ⟨(some 32), .fieldAddr 9 (.tmp 10), none, 4, none⟩,
    ⟨none, .store 1 (.tmp 32) (.tmp 31), none, 4, none⟩] []) (.seq (.region 0 [
    ⟨(some 33), .load true 18 (.tmp 10), none, 0, none⟩,
    ⟨none, .store 18 (.tmp 8) (.tmp 33), none, 0, none⟩,
    ⟨(some 9), .move (.const (.int .i64 (0))), none, 0, none⟩] []) (.ret))))), [.cell true 18 8, .tmp 9], true⟩
def s22 : Sig := ⟨(.cons (.v (.int .i64)) (.cons (.v (.int .i64)) (.cons (.v (.int .i64)) (.cons (.v .request) .nil)))), [], ((.tup (.cons (.v .job) (.cons (.v (.int .i64)) .nil))), []), []⟩
def F22 (L : Lp) (g29 : Job → Option Bool) (g82 : (List Dep) → Option (Unit × ((List Dep) × Unit))) (id0 : Int) (user1 : Int) (now2 : Int) (ar3 : Request) : Option (Job × (Int × Unit)) :=
  Option.bind (g29 (Job.mk id0 user1 ar3.queue ar3.many ar3.need ar3.wall ar3.after 1 false false 1 now2 0 0 0)) fun r4 =>
  cond (!r4)
    (some (Job.mk 0 0 0 0 (Res.mk 0 0 0 0) 0 [] 0 false false 0 0 0 0 0, 2, ()))
    (Option.bind (g82 ar3.after) fun r5 =>
    some (Job.mk id0 user1 ar3.queue ar3.many ar3.need ar3.wall r5.2.1 1 false false 1 now2 0 0 0, 0, ()))
theorem e22 (L : Lp) (g29 : Job → Option Bool) (g82 : (List Dep) → Option (Unit × ((List Dep) × Unit))) (x : s22.args.den) (h : denH s22.heap) : nrun [⟨29, s29, fun x h => g29 x.1⟩, ⟨82, s82, fun x h => g82 x.1⟩] L n22 s22 x h = F22 L g29 g82 x.1 x.2.1 x.2.2.1 x.2.2.2.1 := by kernel_rfl
def f22 : Int → Int → Int → Request → Option (Job × (Int × Unit)) := F22 (@LN LOOPS) f29 f82
@[reducible] def t22 : Ent := ⟨22, s22, fun x h => f22 x.1 x.2.1 x.2.2.1 x.2.2.2.1⟩
theorem k22 : chkNF Try.prog Try.f22 n22 = true := by kernel_rfl
theorem ok22 : NOk Try.prog t22 := NOk.body (T := [t29, t82]) mixed (nall_cons ok29 (nall_cons ok82 nall_nil)) (oneEach_of (by kernel_rfl)) Try.func22 k22 (by kernel_rfl) (fun x h => e22 _ _ _ x h)
/- drayage/life.Has -/
def n90 : NFunc := ⟨9, .seq (.region 0 [
    ⟨(some 2), .move (.const (.bool false)), none, 0, none⟩] []) (.seq (.region 0 [
    ⟨(some 3), .move (.tmp 0), none, 0, none⟩,
    ⟨(some 4), .bin .eql (.tmp 3) (.const (.int .i64 (3))), none, 0, none⟩,
    ⟨(some 5), .move (.tmp 4), none, 0, none⟩,
    ⟨(some 6), .move (.tmp 0), (some (5, false)), 0, none⟩,
    ⟨(some 7), .bin .eql (.tmp 6) (.const (.int .i64 (4))), (some (5, false)), 0, none⟩,
    ⟨(some 8), .pick (.tmp 5) (.const (.bool true)) (.tmp 7), none, 0, none⟩,
    ⟨(some 2), .move (.tmp 8), none, 0, none⟩] []) (.ret)), [.tmp 2], true⟩
def s90 : Sig := ⟨(.cons (.v (.int .i64)) .nil), [], ((.v .bool), []), []⟩
def F90 (L : Lp)  (state0 : Int) : Option Bool :=
  cond (decide (state0 = 3))
    (some true)
    (some (decide (state0 = 4)))
theorem e90 (L : Lp)  (x : s90.args.den) (h : denH s90.heap) : nrun [] L n90 s90 x h = F90 L  x.1 := by kernel_rfl
def f90 : Int → Option Bool := F90 (@LN LOOPS) 
@[reducible] def t90 : Ent := ⟨90, s90, fun x h => f90 x.1⟩
theorem k90 : chkNF Try.prog Try.f90 n90 = true := by kernel_rfl
theorem ok90 : NOk Try.prog t90 := NOk.body (T := []) mixed nall_nil (oneEach_of (by kernel_rfl)) Try.func90 k90 (by kernel_rfl) (fun x h => e90 _  x h)
/- drayage/life.Next -/
def n85 : NFunc := ⟨69, .seq (.region 0 [
    ⟨(some 4), .move (.const (.int .i64 (0))), none, 0, none⟩,
    ⟨(some 5), .move (.const (.bool false)), none, 0, none⟩] []) (.seq (.block 0 (.seq (.meet [0, 1, 6] [] ⟨[(6, (.v .bool))], [0, 1], []⟩ (.region 0 [
    ⟨(some 7), .move (.tmp 1), none, 0, none⟩,
    ⟨(some 8), .bin .eql (.tmp 7) (.const (.int .i64 (1))), none, 0, none⟩,
    ⟨(some 9), .move (.tmp 8), none, 0, none⟩,
    ⟨(some 10), .move (.tmp 0), (some (9, true)), 0, none⟩,
    ⟨(some 11), .bin .eql (.tmp 10) (.const (.int .i64 (1))), (some (9, true)), 0, none⟩,
    ⟨(some 12), .pick (.tmp 9) (.tmp 11) (.const (.bool false)), none, 0, none⟩,
    ⟨(some 6), .move (.tmp 12), none, 0, none⟩] [])) (.cond (.tmp 6) (.seq (.region 0 [
    ⟨(some 4), .move (.const (.int .i64 (2))), none, 0, none⟩,
    ⟨(some 5), .move (.const (.bool true)), none, 0, none⟩] []) (.ret)) (.seq (.meet [0, 1, 13] [] ⟨[(13, (.v .bool))], [0, 1], []⟩ (.region 0 [
    ⟨(some 14), .move (.tmp 1), none, 0, none⟩,
    ⟨(some 15), .bin .eql (.tmp 14) (.const (.int .i64 (2))), none, 0, none⟩,
    ⟨(some 16), .move (.tmp 15), none, 0, none⟩,
    ⟨(some 17), .move (.tmp 0), (some (16, true)), 0, none⟩,
    ⟨(some 18), .bin .eql (.tmp 17) (.const (.int .i64 (2))), (some (16, true)), 0, none⟩,
    ⟨(some 19), .pick (.tmp 16) (.tmp 18) (.const (.bool false)), none, 0, none⟩,
    ⟨(some 13), .move (.tmp 19), none, 0, none⟩] [])) (.cond (.tmp 13) (.seq (.region 0 [
    ⟨(some 4), .move (.const (.int .i64 (1))), none, 0, none⟩,
    ⟨(some 5), .move (.const (.bool true)), none, 0, none⟩] []) (.ret)) (.seq (.meet [0, 1, 20] [] ⟨[(20, (.v .bool))], [0, 1], []⟩ (.region 0 [
    ⟨(some 21), .move (.tmp 1), none, 0, none⟩,
    ⟨(some 22), .bin .eql (.tmp 21) (.const (.int .i64 (3))), none, 0, none⟩,
    ⟨(some 23), .move (.tmp 22), none, 0, none⟩,
    ⟨(some 24), .move (.tmp 0), (some (23, true)), 0, none⟩,
    ⟨(some 25), .bin .eql (.tmp 24) (.const (.int .i64 (1))), (some (23, true)), 0, none⟩,
    ⟨(some 26), .pick (.tmp 23) (.tmp 25) (.const (.bool false)), none, 0, none⟩,
    ⟨(some 20), .move (.tmp 26), none, 0, none⟩] [])) (.cond (.tmp 20) (.seq (.region 0 [
    ⟨(some 4), .move (.const (.int .i64 (3))), none, 0, none⟩,
    ⟨(some 5), .move (.const (.bool true)), none, 0, none⟩] []) (.ret)) (.seq (.meet [0, 1, 27] [] ⟨[(27, (.v .bool))], [0, 1], []⟩ (.region 0 [
    ⟨(some 28), .move (.tmp 1), none, 0, none⟩,
    ⟨(some 29), .bin .eql (.tmp 28) (.const (.int .i64 (4))), none, 0, none⟩,
    ⟨(some 30), .move (.tmp 29), none, 0, none⟩,
    ⟨(some 31), .move (.tmp 0), (some (30, true)), 0, none⟩,
    ⟨(some 32), .bin .eql (.tmp 31) (.const (.int .i64 (3))), (some (30, true)), 0, none⟩,
    ⟨(some 33), .pick (.tmp 30) (.tmp 32) (.const (.bool false)), none, 0, none⟩,
    ⟨(some 27), .move (.tmp 33), none, 0, none⟩] [])) (.cond (.tmp 27) (.seq (.region 0 [
    ⟨(some 4), .move (.const (.int .i64 (1))), none, 0, none⟩,
    ⟨(some 5), .move (.const (.bool true)), none, 0, none⟩] []) (.ret)) (.seq (.meet [0, 1, 34] [] ⟨[(34, (.v .bool))], [0, 1], []⟩ (.region 0 [
    ⟨(some 35), .move (.tmp 1), none, 0, none⟩,
    ⟨(some 36), .bin .eql (.tmp 35) (.const (.int .i64 (5))), none, 0, none⟩,
    ⟨(some 37), .move (.tmp 36), none, 0, none⟩,
    ⟨(some 38), .move (.tmp 0), (some (37, true)), 0, none⟩,
    ⟨(some 39), .bin .eql (.tmp 38) (.const (.int .i64 (3))), (some (37, true)), 0, none⟩,
    ⟨(some 40), .pick (.tmp 37) (.tmp 39) (.const (.bool false)), none, 0, none⟩,
    ⟨(some 34), .move (.tmp 40), none, 0, none⟩] [])) (.cond (.tmp 34) (.seq (.region 0 [
    ⟨(some 4), .move (.const (.int .i64 (4))), none, 0, none⟩,
    ⟨(some 5), .move (.const (.bool true)), none, 0, none⟩] []) (.ret)) (.seq (.meet [0, 1, 41] [] ⟨[(41, (.v .bool))], [0, 1], []⟩ (.region 0 [
    ⟨(some 42), .move (.tmp 1), none, 0, none⟩,
    ⟨(some 43), .bin .eql (.tmp 42) (.const (.int .i64 (6))), none, 0, none⟩,
    ⟨(some 44), .move (.tmp 43), none, 0, none⟩,
    ⟨(some 45), .move (.tmp 0), (some (44, true)), 0, none⟩,
    ⟨(some 46), .bin .eql (.tmp 45) (.const (.int .i64 (3))), (some (44, true)), 0, none⟩,
    ⟨(some 47), .pick (.tmp 44) (.tmp 46) (.const (.bool false)), none, 0, none⟩,
    ⟨(some 41), .move (.tmp 47), none, 0, none⟩] [])) (.cond (.tmp 41) (.seq (.region 0 [
    ⟨(some 4), .move (.const (.int .i64 (4))), none, 0, none⟩,
    ⟨(some 5), .move (.const (.bool true)), none, 0, none⟩] []) (.ret)) (.seq (.region 4 [
    ⟨(some 49), .move (.tmp 1), none, 0, none⟩,
    ⟨(some 50), .bin .eql (.tmp 49) (.const (.int .i64 (6))), none, 0, none⟩,
    ⟨(some 51), .move (.tmp 50), none, 0, none⟩,
    ⟨(some 52), .move (.tmp 0), (some (51, true)), 0, none⟩,
    ⟨(some 53), .call (.func 133) [(false, (.tmp 52))] false 4, (some (51, true)), 0, none⟩,
    ⟨(some 54), .pick (.tmp 51) (.tmp 53) (.const (.bool false)), none, 4, none⟩,
    ⟨(some 48), .move (.tmp 54), none, 4, none⟩] []) (.cond (.tmp 48) (.seq (.region 0 [
    ⟨(some 4), .move (.const (.int .i64 (6))), none, 0, none⟩,
    ⟨(some 5), .move (.const (.bool true)), none, 0, none⟩] []) (.ret)) (.seq (.region 4 [
    ⟨(some 56), .move (.tmp 1), none, 0, none⟩,
    ⟨(some 57), .bin .eql (.tmp 56) (.const (.int .i64 (7))), none, 0, none⟩,
    ⟨(some 58), .move (.tmp 57), none, 0, none⟩,
    ⟨(some 59), .move (.tmp 0), (some (58, true)), 0, none⟩,
    ⟨(some 60), .call (.func 90) [(false, (.tmp 59))] false 4, (some (58, true)), 0, none⟩,
    ⟨(some 61), .pick (.tmp 58) (.tmp 60) (.const (.bool false)), none, 4, none⟩,
    ⟨(some 55), .move (.tmp 61), none, 4, none⟩] []) (.cond (.tmp 55) (.seq (.region 0 [
    ⟨(some 4), .move (.const (.int .i64 (5))), none, 0, none⟩,
    ⟨(some 5), .move (.const (.bool true)), none, 0, none⟩] []) (.ret)) (.seq (.region 0 [
    ⟨(some 63), .move (.tmp 1), none, 0, none⟩,
    ⟨(some 64), .bin .eql (.tmp 63) (.const (.int .i64 (8))), none, 0, none⟩,
    ⟨(some 65), .move (.tmp 64), none, 0, none⟩,
    ⟨(some 66), .move (.tmp 0), (some (65, true)), 0, none⟩,
    ⟨(some 67), .bin .eql (.tmp 66) (.const (.int .i64 (4))), (some (65, true)), 0, none⟩,
    ⟨(some 68), .pick (.tmp 65) (.tmp 67) (.const (.bool false)), none, 0, none⟩,
    ⟨(some 62), .move (.tmp 68), none, 0, none⟩] []) (.cond (.tmp 62) (.seq (.region 0 [
    ⟨(some 4), .move (.const (.int .i64 (6))), none, 0, none⟩,
    ⟨(some 5), .move (.const (.bool true)), none, 0, none⟩] []) (.ret)) (.skip)))))))))))))))))))) (.seq (.region 0 [
    ⟨(some 4), .move (.const (.int .i64 (0))), none, 0, none⟩,
    ⟨(some 5), .move (.const (.bool false)), none, 0, none⟩] []) (.ret))), [.tmp 4, .tmp 5], true⟩
def s85 : Sig := ⟨(.cons (.v (.int .i64)) (.cons (.v (.int .i64)) .nil)), [], ((.tup (.cons (.v (.int .i64)) (.cons (.v .bool) .nil))), []), []⟩
def F85 (L : Lp) (g133 : Int → Option Bool) (g90 : Int → Option Bool) (state0 : Int) (what1 : Int) : Option (Int × (Bool × Unit)) :=
  Option.bind (α := ((Bool × Unit) × Unit))
    (cond (decide (what1 = 1))
      (some ((decide (state0 = 1), ()), ()))
      (some ((false, ()), ()))) fun x2 =>
  cond x2.1.1
    (some (2, true, ()))
    (Option.bind (α := ((Bool × Unit) × Unit))
      (cond (decide (what1 = 2))
        (some ((decide (state0 = 2), ()), ()))
        (some ((false, ()), ()))) fun x3 =>
    cond x3.1.1
      (some (1, true, ()))
      (Option.bind (α := ((Bool × Unit) × Unit))
        (cond (decide (what1 = 3))
          (some ((decide (state0 = 1), ()), ()))
          (some ((false, ()), ()))) fun x4 =>
      cond x4.1.1
        (some (3, true, ()))
        (Option.bind (α := ((Bool × Unit) × Unit))
          (cond (decide (what1 = 4))
            (some ((decide (state0 = 3), ()), ()))
            (some ((false, ()), ()))) fun x5 =>
        cond x5.1.1
          (some (1, true, ()))
          (Option.bind (α := ((Bool × Unit) × Unit))
            (cond (decide (what1 = 5))
              (some ((decide (state0 = 3), ()), ()))
              (some ((false, ()), ()))) fun x6 =>
          cond x6.1.1
            (some (4, true, ()))
            (Option.bind (α := ((Bool × Unit) × Unit))
              (cond (decide (what1 = 6))
                (some ((decide (state0 = 3), ()), ()))
                (some ((false, ()), ()))) fun x7 =>
            cond x7.1.1
              (some (4, true, ()))
              (cond (decide (what1 = 6))
                (Option.bind (g133 state0) fun r8 =>
                cond r8
                  (some (6, true, ()))
                  (cond (decide (what1 = 7))
                    (Option.bind (g90 state0) fun r9 =>
                    cond r9
                      (some (5, true, ()))
                      (cond (decide (what1 = 8))
                        (cond (decide (state0 = 4))
                          (some (6, true, ()))
                          (some (0, false, ())))
                        (some (0, false, ()))))
                    (cond (decide (what1 = 8))
                      (cond (decide (state0 = 4))
                        (some (6, true, ()))
                        (some (0, false, ())))
                      (some (0, false, ())))))
                (cond (decide (what1 = 7))
                  (Option.bind (g90 state0) fun r10 =>
                  cond r10
                    (some (5, true, ()))
                    (cond (decide (what1 = 8))
                      (cond (decide (state0 = 4))
                        (some (6, true, ()))
                        (some (0, false, ())))
                      (some (0, false, ()))))
                  (cond (decide (what1 = 8))
                    (cond (decide (state0 = 4))
                      (some (6, true, ()))
                      (some (0, false, ())))
                    (some (0, false, ()))))))))))
theorem e85 (L : Lp) (g133 : Int → Option Bool) (g90 : Int → Option Bool) (x : s85.args.den) (h : denH s85.heap) : nrun [⟨133, s133, fun x h => g133 x.1⟩, ⟨90, s90, fun x h => g90 x.1⟩] L n85 s85 x h = F85 L g133 g90 x.1 x.2.1 := by kernel_rfl
def f85 : Int → Int → Option (Int × (Bool × Unit)) := F85 (@LN LOOPS) f133 f90
@[reducible] def t85 : Ent := ⟨85, s85, fun x h => f85 x.1 x.2.1⟩
theorem k85 : chkNF Try.prog Try.f85 n85 = true := by kernel_rfl
theorem ok85 : NOk Try.prog t85 := NOk.body (T := [t133, t90]) mixed (nall_cons ok133 (nall_cons ok90 nall_nil)) (oneEach_of (by kernel_rfl)) Try.func85 k85 (by kernel_rfl) (fun x h => e85 _ _ _ x h)
/- drayage/job.Step -/
def n26 : NFunc := ⟨76, .seq (.region 2 [
    ⟨(some 4), .box 18 (.tmp 0), none, 0, none⟩,
    ⟨(some 8), .alloc [.int .i64 (0), .int .i64 (0), .int .i64 (0), .int .i64 (0), .int .i64 (0), .int .i64 (0), .int .i64 (0), .int .i64 (0), .int .i64 (0), .zsl, .int .i64 (0), .bool false, .bool false, .int .i64 (0), .int .i64 (0), .int .i64 (0), .int .i64 (0), .int .i64 (0)], none, 1, none⟩,
    ⟨(some 9), .move (.const (.int .i64 (0))), none, 2, none⟩] []) (.seq (.seq (.region 8 [
    ⟨(some 13), .load true 18 (.tmp 4), none, 0, none⟩,
    ⟨(some 14), .call (.func 29) [(false, (.tmp 13))] false 4, none, 0, none⟩,
    ⟨(some 15), .un .not (.tmp 14), none, 4, none⟩,
    ⟨(some 16), .move (.tmp 15), none, 4, none⟩,
    ⟨(some 17), .move (.tmp 2), (some (16, false)), 4, none⟩,
    ⟨(some 18), .call (.func 84) [(false, (.tmp 17)), (false, (.const (.int .i64 (0)))), (false, (.const (.int .i64 (1099511627776))))] false 4, (some (16, false)), 4, none⟩,
    ⟨(some 19), .un .not (.tmp 18), (some (16, false)), 8, none⟩,
    ⟨(some 20), .pick (.tmp 16) (.const (.bool true)) (.tmp 19), none, 8, none⟩] []) (.cond (.tmp 20) (.seq (.region 0 [
    ⟨(some 21), .build [.int .i64 (0), .int .i64 (0), .int .i64 (0), .int .i64 (0), .int .i64 (0), .int .i64 (0), .int .i64 (0), .int .i64 (0), .int .i64 (0), .zsl, .int .i64 (0), .bool false, .bool false, .int .i64 (0), .int .i64 (0), .int .i64 (0), .int .i64 (0), .int .i64 (0)] [], none, 0, none⟩,
    ⟨none, .store 18 (.tmp 8) (.tmp 21), none, 0, none⟩,
    ⟨(some 9), .move (.const (.int .i64 (2))), none, 0, none⟩] []) (.ret)) (.skip))) (.seq (.region 0 [
    ⟨(some 22), .fieldAddr 10 (.tmp 4), none, 0, none⟩,
    ⟨(some 23), .load false 1 (.tmp 22), none, 0, none⟩,
    ⟨(some 10), .move (.tmp 23), none, 0, none⟩] []) (.seq (.region 4 [
    ⟨(some 25), .move (.tmp 10), none, 0, none⟩,
    ⟨(some 26), .move (.tmp 1), none, 0, none⟩,
    ⟨(some 27), .call (.func 85) [(false, (.tmp 25)), (false, (.tmp 26))] false 4, none, 0, none⟩,
    ⟨(some 24), .move (.tmp 27), none, 4, none⟩,
    ⟨(some 28), .extract (.tmp 24) 0, none, 4, none⟩,
    ⟨(some 29), .extract (.tmp 24) 1, none, 4, none⟩,
    ⟨(some 11), .move (.tmp 28), none, 4, none⟩,
    ⟨(some 12), .move (.tmp 29), none, 4, none⟩] []) (.seq (.seq (.region 0 [
    ⟨(some 30), .move (.tmp 12), none, 0, none⟩,
    ⟨(some 31), .un .not (.tmp 30), none, 0, none⟩] []) (.cond (.tmp 31) (.seq (.region 0 [
    ⟨(some 32), .build [.int .i64 (0), .int .i64 (0), .int .i64 (0), .int .i64 (0), .int .i64 (0), .int .i64 (0), .int .i64 (0), .int .i64 (0), .int .i64 (0), .zsl, .int .i64 (0), .bool false, .bool false, .int .i64 (0), .int .i64 (0), .int .i64 (0), .int .i64 (0), .int .i64 (0)] [], none, 0, none⟩,
    ⟨none, .store 18 (.tmp 8) (.tmp 32), none, 0, none⟩,
    ⟨(some 9), .move (.const (.int .i64 (31))), none, 0, none⟩] []) (.ret)) (.skip))) (.seq (.seq (.region 0 [
    ⟨(some 33), .fieldAddr 13 (.tmp 4), none, 0, none⟩,
    ⟨(some 34), .load false 1 (.tmp 33), none, 0, none⟩,
    ⟨(some 35), .bin .eql (.tmp 34) (.const (.int .i64 (281474976710656))), none, 0, none⟩] []) (.cond (.tmp 35) (.seq (.region 0 [
    ⟨(some 36), .build [.int .i64 (0), .int .i64 (0), .int .i64 (0), .int .i64 (0), .int .i64 (0), .int .i64 (0), .int .i64 (0), .int .i64 (0), .int .i64 (0), .zsl, .int .i64 (0), .bool false, .bool false, .int .i64 (0), .int .i64 (0), .int .i64 (0), .int .i64 (0), .int .i64 (0)] [], none, 0, none⟩,
    ⟨none, .store 18 (.tmp 8) (.tmp 36), none, 0, none⟩,
    ⟨(some 9), .move (.const (.int .i64 (41))), none, 0, none⟩] []) (.ret)) (.skip))) (.seq (.region 4 [
    ⟨(some 37), .fieldAddr 9 (.tmp 4), none, 0, none⟩,
    ⟨(some 38), .load false 1 (.tmp 37), none, 0, none⟩,
    ⟨(some 39), .call (.func 82) [(false, (.tmp 38))] false 4, none, 0, none⟩,
    ⟨(some 40), .fieldAddr 9 (.tmp 4), none, 4, none⟩,
    ⟨none, .store 1 (.tmp 40) (.tmp 39), none, 4, none⟩] []) (.seq (.region 0 [
    ⟨(some 41), .move (.tmp 11), none, 0, none⟩,
    ⟨(some 42), .fieldAddr 10 (.tmp 4), none, 0, none⟩,
    ⟨none, .store 1 (.tmp 42) (.tmp 41), none, 0, none⟩] []) (.seq (.region 0 [
    ⟨(some 43), .fieldAddr 13 (.tmp 4), none, 0, none⟩,
    ⟨(some 44), .load false 1 (.tmp 43), none, 0, none⟩,
    ⟨(some 45), .bin .add (.tmp 44) (.const (.int .i64 (1))), none, 0, none⟩,
    ⟨(some 46), .fieldAddr 13 (.tmp 4), none, 0, none⟩,
    ⟨none, .store 1 (.tmp 46) (.tmp 45), none, 0, none⟩] []) (.seq (.seq (.region 0 [
    ⟨(some 47), .move (.tmp 1), none, 0, none⟩] []) (.block 0 (.seq (.block 6 (.seq (.block 5 (.seq (.block 4 (.seq (.block 3 (.seq (.block 2 (.seq (.block 1 (.seq (.seq (.seq (.region 0 [
    ⟨(some 49), .bin .eql (.tmp 47) (.const (.int .i64 (3))), none, 0, none⟩,
    ⟨(some 48), .move (.tmp 49), none, 0, none⟩] []) (.cond (.tmp 48) (.exit 1) (.skip))) (.seq (.seq (.region 0 [
    ⟨(some 51), .bin .eql (.tmp 47) (.const (.int .i64 (4))), none, 0, none⟩,
    ⟨(some 50), .move (.tmp 51), none, 0, none⟩] []) (.cond (.tmp 50) (.exit 2) (.skip))) (.seq (.seq (.region 0 [
    ⟨(some 53), .bin .eql (.tmp 47) (.const (.int .i64 (5))), none, 0, none⟩,
    ⟨(some 52), .move (.tmp 53), none, 0, none⟩] []) (.cond (.tmp 52) (.exit 3) (.skip))) (.seq (.seq (.region 0 [
    ⟨(some 55), .bin .eql (.tmp 47) (.const (.int .i64 (6))), none, 0, none⟩,
    ⟨(some 54), .move (.tmp 55), none, 0, none⟩] []) (.cond (.tmp 54) (.exit 4) (.skip))) (.seq (.seq (.region 0 [
    ⟨(some 57), .bin .eql (.tmp 47) (.const (.int .i64 (7))), none, 0, none⟩,
    ⟨(some 56), .move (.tmp 57), none, 0, none⟩] []) (.cond (.tmp 56) (.exit 5) (.skip))) (.seq (.region 0 [
    ⟨(some 59), .bin .eql (.tmp 47) (.const (.int .i64 (8))), none, 0, none⟩,
    ⟨(some 58), .move (.tmp 59), none, 0, none⟩] []) (.cond (.tmp 58) (.exit 6) (.skip)))))))) (.exit 0))) (.seq (.region 0 [
    ⟨(some 60), .move (.tmp 2), none, 0, none⟩,
    ⟨(some 61), .fieldAddr 15 (.tmp 4), none, 0, none⟩,
    ⟨none, .store 1 (.tmp 61) (.tmp 60), none, 0, none⟩] []) (.exit 0)))) (.seq (.region 0 [
    ⟨(some 62), .fieldAddr 15 (.tmp 4), none, 0, none⟩,
    ⟨none, .store 1 (.tmp 62) (.const (.int .i64 (0))), none, 0, none⟩] []) (.exit 0)))) (.seq (.region 0 [
    ⟨(some 63), .move (.tmp 3), none, 0, none⟩,
    ⟨(some 64), .fieldAddr 11 (.tmp 4), none, 0, none⟩,
    ⟨none, .store 1 (.tmp 64) (.tmp 63), none, 0, none⟩] []) (.exit 0)))) (.seq (.seq (.region 0 [
    ⟨(some 65), .fieldAddr 12 (.tmp 4), none, 0, none⟩,
    ⟨none, .store 1 (.tmp 65) (.const (.bool true)), none, 0, none⟩] []) (.region 0 [
    ⟨(some 66), .fieldAddr 11 (.tmp 4), none, 0, none⟩,
    ⟨none, .store 1 (.tmp 66) (.const (.bool false)), none, 0, none⟩] [])) (.exit 0)))) (.seq (.region 0 [
    ⟨(some 67), .fieldAddr 12 (.tmp 4), none, 0, none⟩,
    ⟨none, .store 1 (.tmp 67) (.const (.bool false)), none, 0, none⟩] []) (.seq (.region 0 [
    ⟨(some 68), .move (.tmp 10), none, 0, none⟩,
    ⟨(some 69), .bin .neq (.tmp 68) (.const (.int .i64 (3))), none, 0, none⟩] []) (.cond (.tmp 69) (.exit 0) (.skip)))))) (.seq (.region 0 [
    ⟨(some 70), .fieldAddr 11 (.tmp 4), none, 0, none⟩,
    ⟨none, .store 1 (.tmp 70) (.const (.bool false)), none, 0, none⟩] []) (.exit 0))))) (.seq (.seq (.region 4 [
    ⟨(some 71), .move (.tmp 11), none, 0, none⟩,
    ⟨(some 72), .call (.func 86) [(false, (.tmp 71))] false 4, none, 0, none⟩] []) (.cond (.tmp 72) (.region 0 [
    ⟨(some 73), .move (.tmp 2), none, 0, none⟩,
    ⟨(some 74), .fieldAddr 16 (.tmp 4), none, 0, none⟩,
    ⟨none, .store 1 (.tmp 74) (.tmp 73), none, 0, none⟩] []) (.skip))) (.seq (.region 0 [
    ⟨(some 75), .load true 18 (.tmp 4), none, 0, none⟩,
    ⟨none, .store 18 (.tmp 8) (.tmp 75), none, 0, none⟩,
    ⟨(some 9), .move (.const (.int .i64 (0))), none, 0, none⟩] []) (.ret)))))))))))), [.cell true 18 8, .tmp 9], true⟩
def s26 : Sig := ⟨(.cons (.v .job) (.cons (.v (.int .i64)) (.cons (.v (.int .i64)) (.cons (.v .bool) .nil)))), [], ((.tup (.cons (.v .job) (.cons (.v (.int .i64)) .nil))), []), []⟩
def F26 (L : Lp) (g29 : Job → Option Bool) (g84 : Int → Int → Int → Option Bool) (g85 : Int → Int → Option (Int × (Bool × Unit))) (g82 : (List Dep) → Option (Unit × ((List Dep) × Unit))) (g86 : Int → Option Bool) (j0 : Job) (what1 : Int) (now2 : Int) (ok3 : Bool) : Option (Job × (Int × Unit)) :=
  Option.bind (g29 j0) fun r4 =>
  cond (!r4)
    (some (Job.mk 0 0 0 0 (Res.mk 0 0 0 0) 0 [] 0 false false 0 0 0 0 0, 2, ()))
    (Option.bind (g84 now2 0 1099511627776) fun r5 =>
    cond (!r5)
      (some (Job.mk 0 0 0 0 (Res.mk 0 0 0 0) 0 [] 0 false false 0 0 0 0 0, 2, ()))
      (Option.bind (g85 j0.state what1) fun r6 =>
      cond (!r6.2.1)
        (some (Job.mk 0 0 0 0 (Res.mk 0 0 0 0) 0 [] 0 false false 0 0 0 0 0, 31, ()))
        (cond (decide (j0.version = 281474976710656))
          (some (Job.mk 0 0 0 0 (Res.mk 0 0 0 0) 0 [] 0 false false 0 0 0 0 0, 41, ()))
          (Option.bind (g82 j0.after) fun r7 =>
          cond (decide (what1 = 3))
            (Option.bind (g86 r6.1) fun r8 =>
            cond r8
              (some (Job.mk j0.id j0.user j0.queue j0.many j0.need j0.wall r7.2.1 r6.1 j0.ok j0.kill (IntKind.wrap .i64 (j0.version + 1)) j0.born now2 now2 j0.array, 0, ()))
              (some (Job.mk j0.id j0.user j0.queue j0.many j0.need j0.wall r7.2.1 r6.1 j0.ok j0.kill (IntKind.wrap .i64 (j0.version + 1)) j0.born now2 j0.fin j0.array, 0, ())))
            (cond (decide (what1 = 4))
              (Option.bind (g86 r6.1) fun r9 =>
              cond r9
                (some (Job.mk j0.id j0.user j0.queue j0.many j0.need j0.wall r7.2.1 r6.1 j0.ok j0.kill (IntKind.wrap .i64 (j0.version + 1)) j0.born 0 now2 j0.array, 0, ()))
                (some (Job.mk j0.id j0.user j0.queue j0.many j0.need j0.wall r7.2.1 r6.1 j0.ok j0.kill (IntKind.wrap .i64 (j0.version + 1)) j0.born 0 j0.fin j0.array, 0, ())))
              (cond (decide (what1 = 5))
                (Option.bind (g86 r6.1) fun r10 =>
                cond r10
                  (some (Job.mk j0.id j0.user j0.queue j0.many j0.need j0.wall r7.2.1 r6.1 ok3 j0.kill (IntKind.wrap .i64 (j0.version + 1)) j0.born j0.start now2 j0.array, 0, ()))
                  (some (Job.mk j0.id j0.user j0.queue j0.many j0.need j0.wall r7.2.1 r6.1 ok3 j0.kill (IntKind.wrap .i64 (j0.version + 1)) j0.born j0.start j0.fin j0.array, 0, ())))
                (cond (decide (what1 = 6))
                  (Option.bind (g86 r6.1) fun r11 =>
                  cond r11
                    (some (Job.mk j0.id j0.user j0.queue j0.many j0.need j0.wall r7.2.1 r6.1 false true (IntKind.wrap .i64 (j0.version + 1)) j0.born j0.start now2 j0.array, 0, ()))
                    (some (Job.mk j0.id j0.user j0.queue j0.many j0.need j0.wall r7.2.1 r6.1 false true (IntKind.wrap .i64 (j0.version + 1)) j0.born j0.start j0.fin j0.array, 0, ())))
                  (cond (decide (what1 = 7))
                    (cond (!decide (j0.state = 3))
                      (Option.bind (g86 r6.1) fun r12 =>
                      cond r12
                        (some (Job.mk j0.id j0.user j0.queue j0.many j0.need j0.wall r7.2.1 r6.1 j0.ok false (IntKind.wrap .i64 (j0.version + 1)) j0.born j0.start now2 j0.array, 0, ()))
                        (some (Job.mk j0.id j0.user j0.queue j0.many j0.need j0.wall r7.2.1 r6.1 j0.ok false (IntKind.wrap .i64 (j0.version + 1)) j0.born j0.start j0.fin j0.array, 0, ())))
                      (Option.bind (g86 r6.1) fun r13 =>
                      cond r13
                        (some (Job.mk j0.id j0.user j0.queue j0.many j0.need j0.wall r7.2.1 r6.1 false false (IntKind.wrap .i64 (j0.version + 1)) j0.born j0.start now2 j0.array, 0, ()))
                        (some (Job.mk j0.id j0.user j0.queue j0.many j0.need j0.wall r7.2.1 r6.1 false false (IntKind.wrap .i64 (j0.version + 1)) j0.born j0.start j0.fin j0.array, 0, ()))))
                    (cond (decide (what1 = 8))
                      (Option.bind (g86 r6.1) fun r14 =>
                      cond r14
                        (some (Job.mk j0.id j0.user j0.queue j0.many j0.need j0.wall r7.2.1 r6.1 false j0.kill (IntKind.wrap .i64 (j0.version + 1)) j0.born j0.start now2 j0.array, 0, ()))
                        (some (Job.mk j0.id j0.user j0.queue j0.many j0.need j0.wall r7.2.1 r6.1 false j0.kill (IntKind.wrap .i64 (j0.version + 1)) j0.born j0.start j0.fin j0.array, 0, ())))
                      (Option.bind (g86 r6.1) fun r15 =>
                      cond r15
                        (some (Job.mk j0.id j0.user j0.queue j0.many j0.need j0.wall r7.2.1 r6.1 j0.ok j0.kill (IntKind.wrap .i64 (j0.version + 1)) j0.born j0.start now2 j0.array, 0, ()))
                        (some (Job.mk j0.id j0.user j0.queue j0.many j0.need j0.wall r7.2.1 r6.1 j0.ok j0.kill (IntKind.wrap .i64 (j0.version + 1)) j0.born j0.start j0.fin j0.array, 0, ()))))))))))))
theorem e26 (L : Lp) (g29 : Job → Option Bool) (g84 : Int → Int → Int → Option Bool) (g85 : Int → Int → Option (Int × (Bool × Unit))) (g82 : (List Dep) → Option (Unit × ((List Dep) × Unit))) (g86 : Int → Option Bool) (x : s26.args.den) (h : denH s26.heap) : nrun [⟨29, s29, fun x h => g29 x.1⟩, ⟨84, s84, fun x h => g84 x.1 x.2.1 x.2.2.1⟩, ⟨85, s85, fun x h => g85 x.1 x.2.1⟩, ⟨82, s82, fun x h => g82 x.1⟩, ⟨86, s86, fun x h => g86 x.1⟩] L n26 s26 x h = F26 L g29 g84 g85 g82 g86 x.1 x.2.1 x.2.2.1 x.2.2.2.1 := by kernel_rfl
def f26 : Job → Int → Int → Bool → Option (Job × (Int × Unit)) := F26 (@LN LOOPS) f29 f84 f85 f82 f86
@[reducible] def t26 : Ent := ⟨26, s26, fun x h => f26 x.1 x.2.1 x.2.2.1 x.2.2.2.1⟩
theorem k26 : chkNF Try.prog Try.f26 n26 = true := by kernel_rfl
theorem ok26 : NOk Try.prog t26 := NOk.body (T := [t29, t84, t85, t82, t86]) mixed (nall_cons ok29 (nall_cons ok84 (nall_cons ok85 (nall_cons ok82 (nall_cons ok86 nall_nil))))) (oneEach_of (by kernel_rfl)) Try.func26 k26 (by kernel_rfl) (fun x h => e26 _ _ _ _ _ _ x h)
/- drayage/job.Until -/
def n30 : NFunc := ⟨17, .seq (.region 1 [
    ⟨(some 1), .box 18 (.tmp 0), none, 0, none⟩,
    ⟨(some 2), .move (.const (.int .i64 (0))), none, 1, none⟩] []) (.seq (.seq (.region 8 [
    ⟨(some 3), .load true 18 (.tmp 1), none, 0, none⟩,
    ⟨(some 4), .call (.func 29) [(false, (.tmp 3))] false 4, none, 0, none⟩,
    ⟨(some 5), .un .not (.tmp 4), none, 4, none⟩,
    ⟨(some 6), .move (.tmp 5), none, 4, none⟩,
    ⟨(some 7), .fieldAddr 10 (.tmp 1), (some (6, false)), 4, none⟩,
    ⟨(some 8), .load false 1 (.tmp 7), (some (6, false)), 4, none⟩,
    ⟨(some 9), .call (.func 90) [(false, (.tmp 8))] false 4, (some (6, false)), 4, none⟩,
    ⟨(some 10), .un .not (.tmp 9), (some (6, false)), 8, none⟩,
    ⟨(some 11), .pick (.tmp 6) (.const (.bool true)) (.tmp 10), none, 8, none⟩] []) (.cond (.tmp 11) (.seq (.region 0 [
    ⟨(some 2), .move (.const (.int .i64 (0))), none, 0, none⟩] []) (.ret)) (.skip))) (.seq (.region 0 [
    ⟨(some 12), .fieldAddr 15 (.tmp 1), none, 0, none⟩,
    ⟨(some 13), .load false 1 (.tmp 12), none, 0, none⟩,
    ⟨(some 14), .fieldAddr 8 (.tmp 1), none, 0, none⟩,
    ⟨(some 15), .load false 1 (.tmp 14), none, 0, none⟩,
    ⟨(some 16), .bin .add (.tmp 13) (.tmp 15), none, 0, none⟩,
    ⟨(some 2), .move (.tmp 16), none, 0, none⟩] []) (.ret))), [.tmp 2], true⟩
def s30 : Sig := ⟨(.cons (.v .job) .nil), [], ((.v (.int .i64)), []), []⟩
def F30 (L : Lp) (g29 : Job → Option Bool) (g90 : Int → Option Bool) (j0 : Job) : Option Int :=
  Option.bind (g29 j0) fun r1 =>
  cond (!r1)
    (some 0)
    (Option.bind (g90 j0.state) fun r2 =>
    cond (!r2)
      (some 0)
      (some (IntKind.wrap .i64 (j0.start + j0.wall))))
theorem e30 (L : Lp) (g29 : Job → Option Bool) (g90 : Int → Option Bool) (x : s30.args.den) (h : denH s30.heap) : nrun [⟨29, s29, fun x h => g29 x.1⟩, ⟨90, s90, fun x h => g90 x.1⟩] L n30 s30 x h = F30 L g29 g90 x.1 := by kernel_rfl
def f30 : Job → Option Int := F30 (@LN LOOPS) f29 f90
@[reducible] def t30 : Ent := ⟨30, s30, fun x h => f30 x.1⟩
theorem k30 : chkNF Try.prog Try.f30 n30 = true := by kernel_rfl
theorem ok30 : NOk Try.prog t30 := NOk.body (T := [t29, t90]) mixed (nall_cons ok29 (nall_cons ok90 nall_nil)) (oneEach_of (by kernel_rfl)) Try.func30 k30 (by kernel_rfl) (fun x h => e30 _ _ _ x h)
/- drayage/drayagelaw16.awake -/
def n21 : NFunc := ⟨47, .seq (.region 0 [
    ⟨(some 0), .move (.const (.bool false)), none, 0, none⟩] []) (.seq (.region 5 [
    ⟨(some 6), .build [.int .i64 (0), .int .i64 (0), .int .i64 (0), .int .i64 (0)] [(0, 1, (.const (.int .i64 (1))))], none, 0, none⟩,
    ⟨(some 7), .build [.int .i64 (0), .int .i64 (0), .int .i64 (0), .int .i64 (0), .int .i64 (0), .int .i64 (0), .int .i64 (0), .int .i64 (0), .int .i64 (0), .int .i64 (0), .int .i64 (0), .int .i64 (0), .zsl, .int .i64 (0), .int .i64 (0), .int .i64 (0), .int .i64 (0)] [(5, 1, (.const (.int .i64 (1)))), (6, 4, (.tmp 6)), (10, 1, (.const (.int .i64 (5))))], none, 0, none⟩,
    ⟨(some 8), .call (.func 22) [(false, (.const (.int .i64 (4)))), (false, (.const (.int .i64 (1)))), (false, (.const (.int .i64 (3)))), (false, (.tmp 7))] false 4, none, 0, none⟩,
    ⟨(some 5), .move (.tmp 8), none, 4, none⟩,
    ⟨(some 9), .extract (.tmp 5) 0, none, 4, none⟩,
    ⟨(some 10), .extract (.tmp 5) 1, none, 4, none⟩,
    ⟨(some 1), .alloc [.int .i64 (0), .int .i64 (0), .int .i64 (0), .int .i64 (0), .int .i64 (0), .int .i64 (0), .int .i64 (0), .int .i64 (0), .int .i64 (0), .zsl, .int .i64 (0), .bool false, .bool false, .int .i64 (0), .int .i64 (0), .int .i64 (0), .int .i64 (0), .int .i64 (0)], none, 4, none⟩,
    ⟨none, .store 18 (.tmp 1) (.tmp 9), none, 5, none⟩,
    ⟨(some 2), .move (.tmp 10), none, 5, none⟩] []) (.seq (.region 5 [
    ⟨(some 12), .load true 18 (.tmp 1), none, 0, none⟩,
    ⟨(some 13), .call (.func 26) [(false, (.tmp 12)), (false, (.const (.int .i64 (3)))), (false, (.const (.int .i64 (7)))), (false, (.const (.bool false)))] false 4, none, 0, none⟩,
    ⟨(some 11), .move (.tmp 13), none, 4, none⟩,
    ⟨(some 14), .extract (.tmp 11) 0, none, 4, none⟩,
    ⟨(some 15), .extract (.tmp 11) 1, none, 4, none⟩,
    ⟨(some 3), .alloc [.int .i64 (0), .int .i64 (0), .int .i64 (0), .int .i64 (0), .int .i64 (0), .int .i64 (0), .int .i64 (0), .int .i64 (0), .int .i64 (0), .zsl, .int .i64 (0), .bool false, .bool false, .int .i64 (0), .int .i64 (0), .int .i64 (0), .int .i64 (0), .int .i64 (0)], none, 4, none⟩,
    ⟨none, .store 18 (.tmp 3) (.tmp 14), none, 5, none⟩,
    ⟨(some 4), .move (.tmp 15), none, 5, none⟩] []) (.seq (.region 4 [
    ⟨(some 16), .move (.tmp 2), none, 0, none⟩,
    ⟨(some 17), .bin .eql (.tmp 16) (.const (.int .i64 (0))), none, 0, none⟩,
    ⟨(some 18), .move (.tmp 17), none, 0, none⟩,
    ⟨(some 19), .move (.tmp 4), (some (18, true)), 0, none⟩,
    ⟨(some 20), .bin .eql (.tmp 19) (.const (.int .i64 (0))), (some (18, true)), 0, none⟩,
    ⟨(some 21), .pick (.tmp 18) (.tmp 20) (.const (.bool false)), none, 0, none⟩,
    ⟨(some 22), .move (.tmp 21), none, 0, none⟩,
    ⟨(some 23), .fieldAddr 10 (.tmp 3), (some (22, true)), 0, none⟩,
    ⟨(some 24), .load false 1 (.tmp 23), (some (22, true)), 0, none⟩,
    ⟨(some 25), .bin .eql (.tmp 24) (.const (.int .i64 (3))), (some (22, true)), 0, none⟩,
    ⟨(some 26), .pick (.tmp 22) (.tmp 25) (.const (.bool false)), none, 0, none⟩,
    ⟨(some 27), .move (.tmp 26), none, 0, none⟩,
    ⟨(some 28), .fieldAddr 15 (.tmp 3), (some (27, true)), 0, none⟩,
    ⟨(some 29), .load false 1 (.tmp 28), (some (27, true)), 0, none⟩,
    ⟨(some 30), .bin .eql (.tmp 29) (.const (.int .i64 (7))), (some (27, true)), 0, none⟩,
    ⟨(some 31), .pick (.tmp 27) (.tmp 30) (.const (.bool false)), none, 0, none⟩,
    ⟨(some 32), .move (.tmp 31), none, 0, none⟩,
    ⟨(some 33), .fieldAddr 13 (.tmp 3), (some (32, true)), 0, none⟩,
    ⟨(some 34), .load false 1 (.tmp 33), (some (32, true)), 0, none⟩,
    ⟨(some 35), .bin .eql (.tmp 34) (.const (.int .i64 (2))), (some (32, true)), 0, none⟩,
    ⟨(some 36), .pick (.tmp 32) (.tmp 35) (.const (.bool false)), none, 0, none⟩,
    ⟨(some 37), .move (.tmp 36), none, 0, none⟩,
    ⟨(some 38), .fieldAddr 14 (.tmp 3), (some (37, true)), 0, none⟩,
    ⟨(some 39), .load false 1 (.tmp 38), (some (37, true)), 0, none⟩,
    ⟨(some 40), .bin .eql (.tmp 39) (.const (.int .i64 (3))), (some (37, true)), 0, none⟩,
    ⟨(some 41), .pick (.tmp 37) (.tmp 40) (.const (.bool false)), none, 0, none⟩,
    ⟨(some 42), .move (.tmp 41), none, 0, none⟩,
    ⟨(some 43), .load true 18 (.tmp 3), (some (42, true)), 0, none⟩,
    ⟨(some 44), .call (.func 30) [(false, (.tmp 43))] false 4, (some (42, true)), 0, none⟩,
    ⟨(some 45), .bin .eql (.tmp 44) (.const (.int .i64 (12))), (some (42, true)), 4, none⟩,
    ⟨(some 46), .pick (.tmp 42) (.tmp 45) (.const (.bool false)), none, 4, none⟩,
    ⟨(some 0), .move (.tmp 46), none, 4, none⟩] []) (.ret)))), [.tmp 0], true⟩
def s21 : Sig := ⟨.nil, [], ((.v .bool), []), []⟩
def F21 (L : Lp) (g22 : Int → Int → Int → Request → Option (Job × (Int × Unit))) (g26 : Job → Int → Int → Bool → Option (Job × (Int × Unit))) (g30 : Job → Option Int)  : Option Bool :=
  Option.bind (g22 4 1 3 (Request.mk 0 0 0 0 0 1 (Res.mk 1 0 0 0) 5 0 [] 0 0 0 0)) fun r0 =>
  Option.bind (g26 r0.1 3 7 false) fun r1 =>
  cond (decide (r0.2.1 = 0))
    (cond (decide (r1.2.1 = 0))
      (cond (decide (r1.1.state = 3))
        (cond (decide (r1.1.start = 7))
          (cond (decide (r1.1.version = 2))
            (cond (decide (r1.1.born = 3))
              (Option.bind (g30 r1.1) fun r2 =>
              some (decide (r2 = 12)))
              (some false))
            (some false))
          (some false))
        (some false))
      (some false))
    (some false)
theorem e21 (L : Lp) (g22 : Int → Int → Int → Request → Option (Job × (Int × Unit))) (g26 : Job → Int → Int → Bool → Option (Job × (Int × Unit))) (g30 : Job → Option Int) (x : s21.args.den) (h : denH s21.heap) : nrun [⟨22, s22, fun x h => g22 x.1 x.2.1 x.2.2.1 x.2.2.2.1⟩, ⟨26, s26, fun x h => g26 x.1 x.2.1 x.2.2.1 x.2.2.2.1⟩, ⟨30, s30, fun x h => g30 x.1⟩] L n21 s21 x h = F21 L g22 g26 g30  := by kernel_rfl
def f21 : Option Bool := F21 (@LN LOOPS) f22 f26 f30
@[reducible] def t21 : Ent := ⟨21, s21, fun x h => f21 ⟩
theorem k21 : chkNF Try.prog Try.f21 n21 = true := by kernel_rfl
theorem ok21 : NOk Try.prog t21 := NOk.body (T := [t22, t26, t30]) mixed (nall_cons ok22 (nall_cons ok26 (nall_cons ok30 nall_nil))) (oneEach_of (by kernel_rfl)) Try.func21 k21 (by kernel_rfl) (fun x h => e21 _ _ _ _ x h)
/- drayage/drayageref16.New -/
def n23 : NFunc := ⟨29, .seq (.region 2 [
    ⟨(some 7), .box 17 (.tmp 3), none, 0, none⟩,
    ⟨(some 8), .alloc [.int .i64 (0), .int .i64 (0), .int .i64 (0), .int .i64 (0), .int .i64 (0), .int .i64 (0), .int .i64 (0), .int .i64 (0), .int .i64 (0), .zsl, .int .i64 (0), .bool false, .bool false, .int .i64 (0), .int .i64 (0), .int .i64 (0), .int .i64 (0), .int .i64 (0)], none, 1, none⟩] []) (.seq (.region 1 [
    ⟨(some 10), .move (.tmp 0), none, 0, none⟩,
    ⟨(some 11), .move (.tmp 1), none, 0, none⟩,
    ⟨(some 12), .fieldAddr 4 (.tmp 7), none, 0, none⟩,
    ⟨(some 13), .load false 1 (.tmp 12), none, 0, none⟩,
    ⟨(some 14), .fieldAddr 5 (.tmp 7), none, 0, none⟩,
    ⟨(some 15), .load false 1 (.tmp 14), none, 0, none⟩,
    ⟨(some 16), .fieldAddr 10 (.tmp 7), none, 0, none⟩,
    ⟨(some 17), .load false 1 (.tmp 16), none, 0, none⟩,
    ⟨(some 18), .move (.tmp 2), none, 0, none⟩,
    ⟨(some 19), .build [.int .i64 (0), .int .i64 (0), .int .i64 (0), .int .i64 (0), .int .i64 (0), .int .i64 (0), .int .i64 (0), .int .i64 (0), .int .i64 (0), .zsl, .int .i64 (0), .bool false, .bool false, .int .i64 (0), .int .i64 (0), .int .i64 (0), .int .i64 (0), .int .i64 (0)] [(0, 1, (.tmp 10)), (1, 1, (.tmp 11)), (2, 1, (.tmp 13)), (3, 1, (.tmp 15)), (8, 1, (.tmp 17)), (10, 1, (.const (.int .i64 (1)))), (13, 1, (.const (.int .i64 (1)))), (14, 1, (.tmp 18))], none, 0, none⟩,
    ⟨(some 9), .alloc [.int .i64 (0), .int .i64 (0), .int .i64 (0), .int .i64 (0), .int .i64 (0), .int .i64 (0), .int .i64 (0), .int .i64 (0), .int .i64 (0), .zsl, .int .i64 (0), .bool false, .bool false, .int .i64 (0), .int .i64 (0), .int .i64 (0), .int .i64 (0), .int .i64 (0)], none, 0, none⟩,
    ⟨none, .store 18 (.tmp 9) (.tmp 19), none, 1, none⟩] []) (.seq (.region 0 [
    ⟨(some 20), .fieldAddr 6 (.tmp 7), none, 0, none⟩,
    ⟨(some 21), .load true 4 (.tmp 20), none, 0, none⟩,
    ⟨(some 22), .fieldAddr 4 (.tmp 9), none, 0, none⟩,
    ⟨none, .store 4 (.tmp 22) (.tmp 21), none, 0, none⟩] []) (.seq (.region 2 [
    ⟨(some 23), .buildSlice 2 0 true [.int .i64 (0), .bool false] [], none, 0, none⟩,
    ⟨(some 24), .fieldAddr 12 (.tmp 7), none, 1, none⟩,
    ⟨(some 25), .load false 1 (.tmp 24), none, 1, none⟩,
    ⟨(some 26), .append 2 16 true (.tmp 23) (.tmp 25), none, 1, none⟩,
    ⟨(some 27), .fieldAddr 9 (.tmp 9), none, 2, none⟩,
    ⟨none, .store 1 (.tmp 27) (.tmp 26), none, 2, none⟩] []) (.seq (.region 0 [
    ⟨(some 28), .load true 18 (.tmp 9), none, 0, none⟩,
    ⟨none, .store 18 (.tmp 8) (.tmp 28), none, 0, none⟩] []) (.ret))))), [.cell true 18 8], true⟩
def s23 : Sig := ⟨(.cons (.v (.int .i64)) (.cons (.v (.int .i64)) (.cons (.v (.int .i64)) (.cons (.v .request) .nil)))), [], ((.v .job), []), []⟩
def F23 (L : Lp)  (id0 : Int) (user1 : Int) (now2 : Int) (ar3 : Request) : Option Job :=
  cond (smallB (0 + (List.length ar3.after)) 16)
    (some (Job.mk id0 user1 ar3.queue ar3.many ar3.need ar3.wall ([] ++ ar3.after) 1 false false 1 now2 0 0 0))
    (none)
theorem e23 (L : Lp)  (x : s23.args.den) (h : denH s23.heap) : nrun [] L n23 s23 x h = F23 L  x.1 x.2.1 x.2.2.1 x.2.2.2.1 := by kernel_rfl
def f23 : Int → Int → Int → Request → Option Job := F23 (@LN LOOPS) 
@[reducible] def t23 : Ent := ⟨23, s23, fun x h => f23 x.1 x.2.1 x.2.2.1 x.2.2.2.1⟩
theorem k23 : chkNF Try.prog Try.f23 n23 = true := by kernel_rfl
theorem ok23 : NOk Try.prog t23 := NOk.body (T := []) mixed nall_nil (oneEach_of (by kernel_rfl)) Try.func23 k23 (by kernel_rfl) (fun x h => e23 _  x h)
/- drayage/drayageref16.in -/
def n83 : NFunc := ⟨15, .seq (.region 0 [
    ⟨(some 6), .move (.const (.bool false)), none, 0, none⟩] []) (.seq (.region 0 [
    ⟨(some 7), .move (.tmp 1), none, 0, none⟩,
    ⟨(some 8), .move (.tmp 0), none, 0, none⟩,
    ⟨(some 9), .bin .leq (.tmp 7) (.tmp 8), none, 0, none⟩,
    ⟨(some 10), .move (.tmp 9), none, 0, none⟩,
    ⟨(some 11), .move (.tmp 0), (some (10, true)), 0, none⟩,
    ⟨(some 12), .move (.tmp 2), (some (10, true)), 0, none⟩,
    ⟨(some 13), .bin .leq (.tmp 11) (.tmp 12), (some (10, true)), 0, none⟩,
    ⟨(some 14), .pick (.tmp 10) (.tmp 13) (.const (.bool false)), none, 0, none⟩,
    ⟨(some 6), .move (.tmp 14), none, 0, none⟩] []) (.ret)), [.tmp 6], true⟩
def s83 : Sig := ⟨(.cons (.v (.int .i64)) (.cons (.v (.int .i64)) (.cons (.v (.int .i64)) .nil))), [], ((.v .bool), []), []⟩
def F83 (L : Lp)  (an0 : Int) (lo1 : Int) (hi2 : Int) : Option Bool :=
  cond (decide (lo1 ≤ an0))
    (some (decide (an0 ≤ hi2)))
    (some false)
theorem e83 (L : Lp)  (x : s83.args.den) (h : denH s83.heap) : nrun [] L n83 s83 x h = F83 L  x.1 x.2.1 x.2.2.1 := by kernel_rfl
def f83 : Int → Int → Int → Option Bool := F83 (@LN LOOPS) 
@[reducible] def t83 : Ent := ⟨83, s83, fun x h => f83 x.1 x.2.1 x.2.2.1⟩
theorem k83 : chkNF Try.prog Try.f83 n83 = true := by kernel_rfl
theorem ok83 : NOk Try.prog t83 := NOk.body (T := []) mixed nall_nil (oneEach_of (by kernel_rfl)) Try.func83 k83 (by kernel_rfl) (fun x h => e83 _  x h)
/- drayage/drayageref02.right -/
def n81 : NFunc := ⟨9, .seq (.region 0 [
    ⟨(some 2), .move (.const (.bool false)), none, 0, none⟩] []) (.seq (.region 0 [
    ⟨(some 3), .move (.tmp 0), none, 0, none⟩,
    ⟨(some 4), .bin .geq (.tmp 3) (.const (.int .i64 (0))), none, 0, none⟩,
    ⟨(some 5), .move (.tmp 4), none, 0, none⟩,
    ⟨(some 6), .move (.tmp 0), (some (5, true)), 0, none⟩,
    ⟨(some 7), .bin .leq (.tmp 6) (.const (.int .i64 (1048576))), (some (5, true)), 0, none⟩,
    ⟨(some 8), .pick (.tmp 5) (.tmp 7) (.const (.bool false)), none, 0, none⟩,
    ⟨(some 2), .move (.tmp 8), none, 0, none⟩] []) (.ret)), [.tmp 2], true⟩
def s81 : Sig := ⟨(.cons (.v (.int .i64)) .nil), [], ((.v .bool), []), []⟩
def F81 (L : Lp)  (an0 : Int) : Option Bool :=
  cond (decide (0 ≤ an0))
    (some (decide (an0 ≤ 1048576)))
    (some false)
theorem e81 (L : Lp)  (x : s81.args.den) (h : denH s81.heap) : nrun [] L n81 s81 x h = F81 L  x.1 := by kernel_rfl
def f81 : Int → Option Bool := F81 (@LN LOOPS) 
@[reducible] def t81 : Ent := ⟨81, s81, fun x h => f81 x.1⟩
theorem k81 : chkNF Try.prog Try.f81 n81 = true := by kernel_rfl
theorem ok81 : NOk Try.prog t81 := NOk.body (T := []) mixed nall_nil (oneEach_of (by kernel_rfl)) Try.func81 k81 (by kernel_rfl) (fun x h => e81 _  x h)
/- drayage/drayageref02.Right -/
def n19 : NFunc := ⟨21, .seq (.region 1 [
    ⟨(some 1), .box 4 (.tmp 0), none, 0, none⟩,
    ⟨(some 2), .move (.const (.bool false)), none, 1, none⟩] []) (.seq (.region 16 [
    ⟨(some 3), .fieldAddr 0 (.tmp 1), none, 0, none⟩,
    ⟨(some 4), .load false 1 (.tmp 3), none, 0, none⟩,
    ⟨(some 5), .call (.func 81) [(false, (.tmp 4))] false 4, none, 0, none⟩,
    ⟨(some 6), .move (.tmp 5), none, 4, none⟩,
    ⟨(some 7), .fieldAddr 1 (.tmp 1), (some (6, true)), 4, none⟩,
    ⟨(some 8), .load false 1 (.tmp 7), (some (6, true)), 4, none⟩,
    ⟨(some 9), .call (.func 81) [(false, (.tmp 8))] false 4, (some (6, true)), 4, none⟩,
    ⟨(some 10), .pick (.tmp 6) (.tmp 9) (.const (.bool false)), none, 8, none⟩,
    ⟨(some 11), .move (.tmp 10), none, 8, none⟩,
    ⟨(some 12), .fieldAddr 2 (.tmp 1), (some (11, true)), 8, none⟩,
    ⟨(some 13), .load false 1 (.tmp 12), (some (11, true)), 8, none⟩,
    ⟨(some 14), .call (.func 81) [(false, (.tmp 13))] false 4, (some (11, true)), 8, none⟩,
    ⟨(some 15), .pick (.tmp 11) (.tmp 14) (.const (.bool false)), none, 12, none⟩,
    ⟨(some 16), .move (.tmp 15), none, 12, none⟩,
    ⟨(some 17), .fieldAddr 3 (.tmp 1), (some (16, true)), 12, none⟩,
    ⟨(some 18), .load false 1 (.tmp 17), (some (16, true)), 12, none⟩,
    ⟨(some 19), .call (.func 81) [(false, (.tmp 18))] false 4, (some (16, true)), 12, none⟩,
    ⟨(some 20), .pick (.tmp 16) (.tmp 19) (.const (.bool false)), none, 16, none⟩,
    ⟨(some 2), .move (.tmp 20), none, 16, none⟩] []) (.ret)), [.tmp 2], true⟩
def s19 : Sig := ⟨(.cons (.v .res) .nil), [], ((.v .bool), []), []⟩
def F19 (L : Lp) (g81 : Int → Option Bool) (a0 : Res) : Option Bool :=
  Option.bind (g81 a0.cpu) fun r1 =>
  cond r1
    (Option.bind (g81 a0.mem) fun r2 =>
    cond r2
      (Option.bind (g81 a0.gpu) fun r3 =>
      cond r3
        (Option.bind (g81 a0.lic) fun r4 =>
        some r4)
        (some false))
      (some false))
    (some false)
theorem e19 (L : Lp) (g81 : Int → Option Bool) (x : s19.args.den) (h : denH s19.heap) : nrun [⟨81, s81, fun x h => g81 x.1⟩] L n19 s19 x h = F19 L g81 x.1 := by kernel_rfl
def f19 : Res → Option Bool := F19 (@LN LOOPS) f81
@[reducible] def t19 : Ent := ⟨19, s19, fun x h => f19 x.1⟩
theorem k19 : chkNF Try.prog Try.f19 n19 = true := by kernel_rfl
theorem ok19 : NOk Try.prog t19 := NOk.body (T := [t81]) mixed (nall_cons ok81 nall_nil) (oneEach_of (by kernel_rfl)) Try.func19 k19 (by kernel_rfl) (fun x h => e19 _ _ x h)
/- drayage/drayageref02.Fits -/
def n20 : NFunc := ⟨31, .seq (.region 2 [
    ⟨(some 2), .box 4 (.tmp 0), none, 0, none⟩,
    ⟨(some 3), .box 4 (.tmp 1), none, 1, none⟩,
    ⟨(some 4), .move (.const (.bool false)), none, 2, none⟩] []) (.seq (.region 0 [
    ⟨(some 5), .fieldAddr 0 (.tmp 2), none, 0, none⟩,
    ⟨(some 6), .load false 1 (.tmp 5), none, 0, none⟩,
    ⟨(some 7), .fieldAddr 0 (.tmp 3), none, 0, none⟩,
    ⟨(some 8), .load false 1 (.tmp 7), none, 0, none⟩,
    ⟨(some 9), .bin .leq (.tmp 6) (.tmp 8), none, 0, none⟩,
    ⟨(some 10), .move (.tmp 9), none, 0, none⟩,
    ⟨(some 11), .fieldAddr 1 (.tmp 2), (some (10, true)), 0, none⟩,
    ⟨(some 12), .load false 1 (.tmp 11), (some (10, true)), 0, none⟩,
    ⟨(some 13), .fieldAddr 1 (.tmp 3), (some (10, true)), 0, none⟩,
    ⟨(some 14), .load false 1 (.tmp 13), (some (10, true)), 0, none⟩,
    ⟨(some 15), .bin .leq (.tmp 12) (.tmp 14), (some (10, true)), 0, none⟩,
    ⟨(some 16), .pick (.tmp 10) (.tmp 15) (.const (.bool false)), none, 0, none⟩,
    ⟨(some 17), .move (.tmp 16), none, 0, none⟩,
    ⟨(some 18), .fieldAddr 2 (.tmp 2), (some (17, true)), 0, none⟩,
    ⟨(some 19), .load false 1 (.tmp 18), (some (17, true)), 0, none⟩,
    ⟨(some 20), .fieldAddr 2 (.tmp 3), (some (17, true)), 0, none⟩,
    ⟨(some 21), .load false 1 (.tmp 20), (some (17, true)), 0, none⟩,
    ⟨(some 22), .bin .leq (.tmp 19) (.tmp 21), (some (17, true)), 0, none⟩,
    ⟨(some 23), .pick (.tmp 17) (.tmp 22) (.const (.bool false)), none, 0, none⟩,
    ⟨(some 24), .move (.tmp 23), none, 0, none⟩,
    ⟨(some 25), .fieldAddr 3 (.tmp 2), (some (24, true)), 0, none⟩,
    ⟨(some 26), .load false 1 (.tmp 25), (some (24, true)), 0, none⟩,
    ⟨(some 27), .fieldAddr 3 (.tmp 3), (some (24, true)), 0, none⟩,
    ⟨(some 28), .load false 1 (.tmp 27), (some (24, true)), 0, none⟩,
    ⟨(some 29), .bin .leq (.tmp 26) (.tmp 28), (some (24, true)), 0, none⟩,
    ⟨(some 30), .pick (.tmp 24) (.tmp 29) (.const (.bool false)), none, 0, none⟩,
    ⟨(some 4), .move (.tmp 30), none, 0, none⟩] []) (.ret)), [.tmp 4], true⟩
def s20 : Sig := ⟨(.cons (.v .res) (.cons (.v .res) .nil)), [], ((.v .bool), []), []⟩
def F20 (L : Lp)  (a0 : Res) (b1 : Res) : Option Bool :=
  cond (decide (a0.cpu ≤ b1.cpu))
    (cond (decide (a0.mem ≤ b1.mem))
      (cond (decide (a0.gpu ≤ b1.gpu))
        (some (decide (a0.lic ≤ b1.lic)))
        (some false))
      (some false))
    (some false)
theorem e20 (L : Lp)  (x : s20.args.den) (h : denH s20.heap) : nrun [] L n20 s20 x h = F20 L  x.1 x.2.1 := by kernel_rfl
def f20 : Res → Res → Option Bool := F20 (@LN LOOPS) 
@[reducible] def t20 : Ent := ⟨20, s20, fun x h => f20 x.1 x.2.1⟩
theorem k20 : chkNF Try.prog Try.f20 n20 = true := by kernel_rfl
theorem ok20 : NOk Try.prog t20 := NOk.body (T := []) mixed nall_nil (oneEach_of (by kernel_rfl)) Try.func20 k20 (by kernel_rfl) (fun x h => e20 _  x h)
/- drayage/drayageref16.Right -/
def n24 : NFunc := ⟨148, .seq (.region 1 [
    ⟨(some 1), .box 18 (.tmp 0), none, 0, none⟩,
    ⟨(some 2), .move (.const (.bool false)), none, 1, none⟩] []) (.seq (.seq (.region 0 [
    ⟨(some 3), .move (.const (.int .i64 (0))), none, 0, none⟩] []) (.block 0 (.loop [1, 3] ⟨[(1, (.ptr 0 0 0)), (3, (.v (.int .i64)))], [], [.one false .job]⟩ (.seq (.seq (.region 0 [
    ⟨(some 4), .move (.tmp 3), none, 0, none⟩,
    ⟨(some 5), .fieldAddr 9 (.tmp 1), none, 0, none⟩,
    ⟨(some 6), .load false 1 (.tmp 5), none, 0, none⟩,
    ⟨(some 7), .len (.tmp 6), none, 0, none⟩,
    ⟨(some 8), .bin .lss (.tmp 4) (.tmp 7), none, 0, none⟩] []) (.cond (.tmp 8) (.skip) (.exit 0))) (.seq (.block 1 (.seq (.region 4 [
    ⟨(some 11), .fieldAddr 9 (.tmp 1), none, 0, (some [])⟩,
    ⟨(some 12), .load false 1 (.tmp 11), none, 0, (some [])⟩,
    ⟨(some 13), .move (.tmp 3), none, 0, (some [])⟩,
    ⟨(some 14), .indexSl 2 (.tmp 12) (.tmp 13), none, 0, (some [])⟩,
    ⟨(some 15), .fieldAddr 0 (.tmp 14), none, 0, (some [])⟩,
    ⟨(some 16), .load false 1 (.tmp 15), none, 0, (some [])⟩,
    ⟨(some 17), .fieldAddr 0 (.tmp 1), none, 0, (some [])⟩,
    ⟨(some 18), .load false 1 (.tmp 17), none, 0, (some [])⟩,
    ⟨(some 19), .bin .sub (.tmp 18) (.const (.int .i64 (1))), none, 0, (some [])⟩,
    ⟨(some 20), .call (.func 83) [(false, (.tmp 16)), (false, (.const (.int .i64 (1)))), (false, (.tmp 19))] false 4, none, 0, (some [])⟩,
    ⟨(some 21), .un .not (.tmp 20), none, 4, (some [0, 1, 2, 3])⟩] []) (.cond (.tmp 21) (.seq (.region 0 [
    ⟨(some 2), .move (.const (.bool false)), none, 0, none⟩] []) (.ret)) (.skip)))) (.region 0 [
    ⟨(some 9), .move (.tmp 3), none, 0, none⟩,
    ⟨(some 10), .bin .add (.tmp 9) (.const (.int .i64 (1))), none, 0, none⟩,
    ⟨(some 3), .move (.tmp 10), none, 0, none⟩] [])))))) (.seq (.seq (.region 24 [
    ⟨(some 22), .fieldAddr 9 (.tmp 1), none, 0, none⟩,
    ⟨(some 23), .load false 1 (.tmp 22), none, 0, none⟩,
    ⟨(some 24), .len (.tmp 23), none, 0, none⟩,
    ⟨(some 25), .bin .gtr (.tmp 24) (.const (.int .i64 (4))), none, 0, none⟩,
    ⟨(some 26), .move (.tmp 25), none, 0, none⟩,
    ⟨(some 27), .fieldAddr 0 (.tmp 1), (some (26, false)), 0, none⟩,
    ⟨(some 28), .load false 1 (.tmp 27), (some (26, false)), 0, none⟩,
    ⟨(some 29), .call (.func 83) [(false, (.tmp 28)), (false, (.const (.int .i64 (1)))), (false, (.const (.int .i64 (1048576))))] false 4, (some (26, false)), 0, none⟩,
    ⟨(some 30), .un .not (.tmp 29), (some (26, false)), 4, none⟩,
    ⟨(some 31), .pick (.tmp 26) (.const (.bool true)) (.tmp 30), none, 4, none⟩,
    ⟨(some 32), .move (.tmp 31), none, 4, none⟩,
    ⟨(some 33), .fieldAddr 1 (.tmp 1), (some (32, false)), 4, none⟩,
    ⟨(some 34), .load false 1 (.tmp 33), (some (32, false)), 4, none⟩,
    ⟨(some 35), .call (.func 83) [(false, (.tmp 34)), (false, (.const (.int .i64 (0)))), (false, (.const (.int .i64 (7))))] false 4, (some (32, false)), 4, none⟩,
    ⟨(some 36), .un .not (.tmp 35), (some (32, false)), 8, none⟩,
    ⟨(some 37), .pick (.tmp 32) (.const (.bool true)) (.tmp 36), none, 8, none⟩,
    ⟨(some 38), .move (.tmp 37), none, 8, none⟩,
    ⟨(some 39), .fieldAddr 2 (.tmp 1), (some (38, false)), 8, none⟩,
    ⟨(some 40), .load false 1 (.tmp 39), (some (38, false)), 8, none⟩,
    ⟨(some 41), .call (.func 83) [(false, (.tmp 40)), (false, (.const (.int .i64 (0)))), (false, (.const (.int .i64 (7))))] false 4, (some (38, false)), 8, none⟩,
    ⟨(some 42), .un .not (.tmp 41), (some (38, false)), 12, none⟩,
    ⟨(some 43), .pick (.tmp 38) (.const (.bool true)) (.tmp 42), none, 12, none⟩,
    ⟨(some 44), .move (.tmp 43), none, 12, none⟩,
    ⟨(some 45), .fieldAddr 3 (.tmp 1), (some (44, false)), 12, none⟩,
    ⟨(some 46), .load false 1 (.tmp 45), (some (44, false)), 12, none⟩,
    ⟨(some 47), .call (.func 83) [(false, (.tmp 46)), (false, (.const (.int .i64 (1)))), (false, (.const (.int .i64 (64))))] false 4, (some (44, false)), 12, none⟩,
    ⟨(some 48), .un .not (.tmp 47), (some (44, false)), 16, none⟩,
    ⟨(some 49), .pick (.tmp 44) (.const (.bool true)) (.tmp 48), none, 16, none⟩,
    ⟨(some 50), .move (.tmp 49), none, 16, none⟩,
    ⟨(some 51), .fieldAddr 4 (.tmp 1), (some (50, false)), 16, none⟩,
    ⟨(some 52), .load true 4 (.tmp 51), (some (50, false)), 16, none⟩,
    ⟨(some 53), .call (.func 19) [(false, (.tmp 52))] false 4, (some (50, false)), 16, none⟩,
    ⟨(some 54), .un .not (.tmp 53), (some (50, false)), 20, none⟩,
    ⟨(some 55), .pick (.tmp 50) (.const (.bool true)) (.tmp 54), none, 20, none⟩,
    ⟨(some 56), .move (.tmp 55), none, 20, none⟩,
    ⟨(some 57), .fieldAddr 4 (.tmp 1), (some (56, false)), 20, none⟩,
    ⟨(some 58), .load true 4 (.tmp 57), (some (56, false)), 20, none⟩,
    ⟨(some 59), .build [.int .i64 (0), .int .i64 (0), .int .i64 (0), .int .i64 (0)] [], (some (56, false)), 20, none⟩,
    ⟨(some 60), .call (.func 20) [(false, (.tmp 58)), (false, (.tmp 59))] false 4, (some (56, false)), 20, none⟩,
    ⟨(some 61), .pick (.tmp 56) (.const (.bool true)) (.tmp 60), none, 24, none⟩] []) (.cond (.tmp 61) (.seq (.region 0 [
    ⟨(some 2), .move (.const (.bool false)), none, 0, none⟩] []) (.ret)) (.skip))) (.seq (.seq (.region 16 [
    ⟨(some 62), .fieldAddr 8 (.tmp 1), none, 0, none⟩,
    ⟨(some 63), .load false 1 (.tmp 62), none, 0, none⟩,
    ⟨(some 64), .call (.func 83) [(false, (.tmp 63)), (false, (.const (.int .i64 (1)))), (false, (.const (.int .i64 (65536))))] false 4, none, 0, none⟩,
    ⟨(some 65), .un .not (.tmp 64), none, 4, none⟩,
    ⟨(some 66), .move (.tmp 65), none, 4, none⟩,
    ⟨(some 67), .fieldAddr 10 (.tmp 1), (some (66, false)), 4, none⟩,
    ⟨(some 68), .load false 1 (.tmp 67), (some (66, false)), 4, none⟩,
    ⟨(some 69), .call (.func 83) [(false, (.tmp 68)), (false, (.const (.int .i64 (1)))), (false, (.const (.int .i64 (6))))] false 4, (some (66, false)), 4, none⟩,
    ⟨(some 70), .un .not (.tmp 69), (some (66, false)), 8, none⟩,
    ⟨(some 71), .pick (.tmp 66) (.const (.bool true)) (.tmp 70), none, 8, none⟩,
    ⟨(some 72), .move (.tmp 71), none, 8, none⟩,
    ⟨(some 73), .fieldAddr 13 (.tmp 1), (some (72, false)), 8, none⟩,
    ⟨(some 74), .load false 1 (.tmp 73), (some (72, false)), 8, none⟩,
    ⟨(some 75), .call (.func 83) [(false, (.tmp 74)), (false, (.const (.int .i64 (1)))), (false, (.const (.int .i64 (281474976710656))))] false 4, (some (72, false)), 8, none⟩,
    ⟨(some 76), .un .not (.tmp 75), (some (72, false)), 12, none⟩,
    ⟨(some 77), .pick (.tmp 72) (.const (.bool true)) (.tmp 76), none, 12, none⟩,
    ⟨(some 78), .move (.tmp 77), none, 12, none⟩,
    ⟨(some 79), .fieldAddr 17 (.tmp 1), (some (78, false)), 12, none⟩,
    ⟨(some 80), .load false 1 (.tmp 79), (some (78, false)), 12, none⟩,
    ⟨(some 81), .fieldAddr 0 (.tmp 1), (some (78, false)), 12, none⟩,
    ⟨(some 82), .load false 1 (.tmp 81), (some (78, false)), 12, none⟩,
    ⟨(some 83), .call (.func 83) [(false, (.tmp 80)), (false, (.const (.int .i64 (0)))), (false, (.tmp 82))] false 4, (some (78, false)), 12, none⟩,
    ⟨(some 84), .un .not (.tmp 83), (some (78, false)), 16, none⟩,
    ⟨(some 85), .pick (.tmp 78) (.const (.bool true)) (.tmp 84), none, 16, none⟩] []) (.cond (.tmp 85) (.seq (.region 0 [
    ⟨(some 2), .move (.const (.bool false)), none, 0, none⟩] []) (.ret)) (.skip))) (.seq (.seq (.region 12 [
    ⟨(some 86), .fieldAddr 14 (.tmp 1), none, 0, none⟩,
    ⟨(some 87), .load false 1 (.tmp 86), none, 0, none⟩,
    ⟨(some 88), .call (.func 83) [(false, (.tmp 87)), (false, (.const (.int .i64 (0)))), (false, (.const (.int .i64 (1099511627776))))] false 4, none, 0, none⟩,
    ⟨(some 89), .un .not (.tmp 88), none, 4, none⟩,
    ⟨(some 90), .move (.tmp 89), none, 4, none⟩,
    ⟨(some 91), .fieldAddr 15 (.tmp 1), (some (90, false)), 4, none⟩,
    ⟨(some 92), .load false 1 (.tmp 91), (some (90, false)), 4, none⟩,
    ⟨(some 93), .call (.func 83) [(false, (.tmp 92)), (false, (.const (.int .i64 (0)))), (false, (.const (.int .i64 (1099511627776))))] false 4, (some (90, false)), 4, none⟩,
    ⟨(some 94), .un .not (.tmp 93), (some (90, false)), 8, none⟩,
    ⟨(some 95), .pick (.tmp 90) (.const (.bool true)) (.tmp 94), none, 8, none⟩,
    ⟨(some 96), .move (.tmp 95), none, 8, none⟩,
    ⟨(some 97), .fieldAddr 16 (.tmp 1), (some (96, false)), 8, none⟩,
    ⟨(some 98), .load false 1 (.tmp 97), (some (96, false)), 8, none⟩,
    ⟨(some 99), .call (.func 83) [(false, (.tmp 98)), (false, (.const (.int .i64 (0)))), (false, (.const (.int .i64 (1099511627776))))] false 4, (some (96, false)), 8, none⟩,
    ⟨(some 100), .un .not (.tmp 99), (some (96, false)), 12, none⟩,
    ⟨(some 101), .pick (.tmp 96) (.const (.bool true)) (.tmp 100), none, 12, none⟩] []) (.cond (.tmp 101) (.seq (.region 0 [
    ⟨(some 2), .move (.const (.bool false)), none, 0, none⟩] []) (.ret)) (.skip))) (.seq (.join [1] [] ⟨[(1, (.ptr 0 0 0))], [], [.one false .job]⟩ (.seq (.region 0 [
    ⟨(some 102), .fieldAddr 10 (.tmp 1), none, 0, none⟩,
    ⟨(some 103), .load false 1 (.tmp 102), none, 0, none⟩,
    ⟨(some 104), .bin .leq (.tmp 103) (.const (.int .i64 (2))), none, 0, none⟩,
    ⟨(some 105), .move (.tmp 104), none, 0, none⟩,
    ⟨(some 106), .fieldAddr 15 (.tmp 1), (some (105, true)), 0, none⟩,
    ⟨(some 107), .load false 1 (.tmp 106), (some (105, true)), 0, none⟩,
    ⟨(some 108), .bin .neq (.tmp 107) (.const (.int .i64 (0))), (some (105, true)), 0, none⟩,
    ⟨(some 109), .pick (.tmp 105) (.tmp 108) (.const (.bool false)), none, 0, none⟩,
    ⟨(some 110), .move (.tmp 109), none, 0, none⟩,
    ⟨(some 111), .fieldAddr 10 (.tmp 1), (some (110, false)), 0, none⟩,
    ⟨(some 112), .load false 1 (.tmp 111), (some (110, false)), 0, none⟩,
    ⟨(some 113), .bin .leq (.tmp 112) (.const (.int .i64 (4))), (some (110, false)), 0, none⟩,
    ⟨(some 114), .move (.tmp 113), (some (110, false)), 0, none⟩,
    ⟨(some 115), .fieldAddr 16 (.tmp 1), (some (114, true)), 0, none⟩,
    ⟨(some 116), .load false 1 (.tmp 115), (some (114, true)), 0, none⟩,
    ⟨(some 117), .bin .neq (.tmp 116) (.const (.int .i64 (0))), (some (114, true)), 0, none⟩,
    ⟨(some 118), .pick (.tmp 114) (.tmp 117) (.const (.bool false)), (some (110, false)), 0, none⟩,
    ⟨(some 119), .pick (.tmp 110) (.const (.bool true)) (.tmp 118), none, 0, none⟩] []) (.cond (.tmp 119) (.seq (.region 0 [
    ⟨(some 2), .move (.const (.bool false)), none, 0, none⟩] []) (.ret)) (.skip)))) (.seq (.region 0 [
    ⟨(some 120), .fieldAddr 11 (.tmp 1), none, 0, none⟩,
    ⟨(some 121), .load false 1 (.tmp 120), none, 0, none⟩,
    ⟨(some 122), .un .not (.tmp 121), none, 0, none⟩,
    ⟨(some 123), .move (.tmp 122), none, 0, none⟩,
    ⟨(some 124), .fieldAddr 10 (.tmp 1), (some (123, false)), 0, none⟩,
    ⟨(some 125), .load false 1 (.tmp 124), (some (123, false)), 0, none⟩,
    ⟨(some 126), .bin .eql (.tmp 125) (.const (.int .i64 (4))), (some (123, false)), 0, none⟩,
    ⟨(some 127), .pick (.tmp 123) (.const (.bool true)) (.tmp 126), none, 0, none⟩,
    ⟨(some 128), .move (.tmp 127), none, 0, none⟩,
    ⟨(some 129), .fieldAddr 10 (.tmp 1), (some (128, false)), 0, none⟩,
    ⟨(some 130), .load false 1 (.tmp 129), (some (128, false)), 0, none⟩,
    ⟨(some 131), .bin .eql (.tmp 130) (.const (.int .i64 (5))), (some (128, false)), 0, none⟩,
    ⟨(some 132), .pick (.tmp 128) (.const (.bool true)) (.tmp 131), none, 0, none⟩,
    ⟨(some 133), .move (.tmp 132), none, 0, none⟩,
    ⟨(some 134), .fieldAddr 12 (.tmp 1), (some (133, true)), 0, none⟩,
    ⟨(some 135), .load false 1 (.tmp 134), (some (133, true)), 0, none⟩,
    ⟨(some 136), .un .not (.tmp 135), (some (133, true)), 0, none⟩,
    ⟨(some 137), .move (.tmp 136), (some (133, true)), 0, none⟩,
    ⟨(some 138), .fieldAddr 10 (.tmp 1), (some (137, false)), 0, none⟩,
    ⟨(some 139), .load false 1 (.tmp 138), (some (137, false)), 0, none⟩,
    ⟨(some 140), .bin .eql (.tmp 139) (.const (.int .i64 (4))), (some (137, false)), 0, none⟩,
    ⟨(some 141), .pick (.tmp 137) (.const (.bool true)) (.tmp 140), (some (133, true)), 0, none⟩,
    ⟨(some 142), .move (.tmp 141), (some (133, true)), 0, none⟩,
    ⟨(some 143), .fieldAddr 10 (.tmp 1), (some (142, false)), 0, none⟩,
    ⟨(some 144), .load false 1 (.tmp 143), (some (142, false)), 0, none⟩,
    ⟨(some 145), .bin .eql (.tmp 144) (.const (.int .i64 (6))), (some (142, false)), 0, none⟩,
    ⟨(some 146), .pick (.tmp 142) (.const (.bool true)) (.tmp 145), (some (133, true)), 0, none⟩,
    ⟨(some 147), .pick (.tmp 133) (.tmp 146) (.const (.bool false)), none, 0, none⟩,
    ⟨(some 2), .move (.tmp 147), none, 0, none⟩] []) (.ret))))))), [.tmp 2], true⟩
def s24 : Sig := ⟨(.cons (.v .job) .nil), [], ((.v .bool), []), []⟩
def l24_0 (g83 : Int → Int → Int → Option Bool) (g19 : Res → Option Bool) (g20 : Res → Res → Option Bool) (next : ((Unit × (Int × Unit)) × (Job × Unit)) → Option Bool) (i2 : Int) (z3 : Job) : Option Bool :=
  cond (decide (i2 < (List.length z3.after : Int)))
    (cond (decide (0 ≤ i2))
      (Option.bind (z3.after[Int.toNat i2]?) fun y4 =>
      Option.bind (g83 y4.job 1 (IntKind.wrap .i64 (z3.id - 1))) fun r5 =>
      cond (!r5)
        (some false)
        (next (((), IntKind.wrap .i64 (i2 + 1), ()), (z3, ()))))
      (none))
    (cond (decide (4 < (List.length z3.after : Int)))
      (some false)
      (Option.bind (g83 z3.id 1 1048576) fun r6 =>
      cond (!r6)
        (some false)
        (Option.bind (g83 z3.user 0 7) fun r7 =>
        cond (!r7)
          (some false)
          (Option.bind (g83 z3.queue 0 7) fun r8 =>
          cond (!r8)
            (some false)
            (Option.bind (g83 z3.many 1 64) fun r9 =>
            cond (!r9)
              (some false)
              (Option.bind (g19 z3.need) fun r10 =>
              cond (!r10)
                (some false)
                (Option.bind (g20 z3.need (Res.mk 0 0 0 0)) fun r11 =>
                cond r11
                  (some false)
                  (Option.bind (g83 z3.wall 1 65536) fun r12 =>
                  cond (!r12)
                    (some false)
                    (Option.bind (g83 z3.state 1 6) fun r13 =>
                    cond (!r13)
                      (some false)
                      (Option.bind (g83 z3.version 1 281474976710656) fun r14 =>
                      cond (!r14)
                        (some false)
                        (Option.bind (g83 z3.array 0 z3.id) fun r15 =>
                        cond (!r15)
                          (some false)
                          (Option.bind (g83 z3.born 0 1099511627776) fun r16 =>
                          cond (!r16)
                            (some false)
                            (Option.bind (g83 z3.start 0 1099511627776) fun r17 =>
                            cond (!r17)
                              (some false)
                              (Option.bind (g83 z3.fin 0 1099511627776) fun r18 =>
                              cond (!r18)
                                (some false)
                                (Option.bind (α := (((Unit × Unit) × (Job × Unit)) ⊕ Bool))
                                  (cond (decide (z3.state ≤ 2))
                                    (cond (!decide (z3.start = 0))
                                      (some (.inr false))
                                      (cond (decide (z3.state ≤ 4))
                                        (cond (!decide (z3.fin = 0))
                                          (some (.inr false))
                                          (some (.inl (((), ()), (z3, ())))))
                                        (some (.inl (((), ()), (z3, ()))))))
                                    (cond (decide (z3.state ≤ 4))
                                      (cond (!decide (z3.fin = 0))
                                        (some (.inr false))
                                        (some (.inl (((), ()), (z3, ())))))
                                      (some (.inl (((), ()), (z3, ())))))) (Sum.elim (fun x19 =>
                                  cond (!x19.2.1.ok)
                                    (cond (!x19.2.1.kill)
                                      (some true)
                                      (cond (decide (x19.2.1.state = 4))
                                        (some true)
                                        (some (decide (x19.2.1.state = 6)))))
                                    (cond (decide (x19.2.1.state = 4))
                                      (cond (!x19.2.1.kill)
                                        (some true)
                                        (cond (decide (x19.2.1.state = 4))
                                          (some true)
                                          (some (decide (x19.2.1.state = 6)))))
                                      (cond (decide (x19.2.1.state = 5))
                                        (cond (!x19.2.1.kill)
                                          (some true)
                                          (cond (decide (x19.2.1.state = 4))
                                            (some true)
                                            (some (decide (x19.2.1.state = 6)))))
                                        (some false)))) some))))))))))))))))
def F24 (L : Lp) (g83 : Int → Int → Int → Option Bool) (g19 : Res → Option Bool) (g20 : Res → Res → Option Bool) (j0 : Job) : Option Bool :=
  L (fun (s1 : ((Unit × (Int × Unit)) × (Job × Unit))) next => l24_0 g83 g19 g20 next s1.1.2.1 s1.2.1) (((), 0, ()), (j0, ()))
theorem e24 (L : Lp) (g83 : Int → Int → Int → Option Bool) (g19 : Res → Option Bool) (g20 : Res → Res → Option Bool) (x : s24.args.den) (h : denH s24.heap) : nrun [⟨83, s83, fun x h => g83 x.1 x.2.1 x.2.2.1⟩, ⟨19, s19, fun x h => g19 x.1⟩, ⟨20, s20, fun x h => g20 x.1 x.2.1⟩] L n24 s24 x h = F24 L g83 g19 g20 x.1 := by kernel_rfl
def f24 : Job → Option Bool := F24 (@LN LOOPS) f83 f19 f20
@[reducible] def t24 : Ent := ⟨24, s24, fun x h => f24 x.1⟩
theorem k24 : chkNF Try.prog Try.f24 n24 = true := by kernel_rfl
theorem ok24 : NOk Try.prog t24 := NOk.body (T := [t83, t19, t20]) mixed (nall_cons ok83 (nall_cons ok19 (nall_cons ok20 nall_nil))) (oneEach_of (by kernel_rfl)) Try.func24 k24 (by kernel_rfl) (fun x h => e24 _ _ _ _ x h)
/- drayage/drayageref16.Same -/
def n25 : NFunc := ⟨127, .seq (.region 2 [
    ⟨(some 2), .box 18 (.tmp 0), none, 0, none⟩,
    ⟨(some 3), .box 18 (.tmp 1), none, 1, none⟩,
    ⟨(some 4), .move (.const (.bool false)), none, 2, none⟩] []) (.seq (.seq (.region 0 [
    ⟨(some 6), .fieldAddr 9 (.tmp 2), none, 0, none⟩,
    ⟨(some 7), .load false 1 (.tmp 6), none, 0, none⟩,
    ⟨(some 8), .len (.tmp 7), none, 0, none⟩,
    ⟨(some 9), .fieldAddr 9 (.tmp 3), none, 0, none⟩,
    ⟨(some 10), .load false 1 (.tmp 9), none, 0, none⟩,
    ⟨(some 11), .len (.tmp 10), none, 0, none⟩,
    ⟨(some 12), .bin .neq (.tmp 8) (.tmp 11), none, 0, none⟩] []) (.cond (.tmp 12) (.seq (.region 0 [
    ⟨(some 4), .move (.const (.bool false)), none, 0, none⟩] []) (.ret)) (.skip))) (.seq (.seq (.region 0 [
    ⟨(some 5), .move (.const (.int .i64 (0))), none, 0, none⟩] []) (.block 0 (.loop [2, 3, 5] ⟨[(2, (.ptr 0 0 0)), (3, (.ptr 1 0 0)), (5, (.v (.int .i64)))], [], [.one false .job, .one false .job]⟩ (.seq (.seq (.region 0 [
    ⟨(some 13), .move (.tmp 5), none, 0, none⟩,
    ⟨(some 14), .fieldAddr 9 (.tmp 2), none, 0, none⟩,
    ⟨(some 15), .load false 1 (.tmp 14), none, 0, none⟩,
    ⟨(some 16), .len (.tmp 15), none, 0, none⟩,
    ⟨(some 17), .bin .lss (.tmp 13) (.tmp 16), none, 0, none⟩] []) (.cond (.tmp 17) (.skip) (.exit 0))) (.seq (.block 1 (.seq (.region 0 [
    ⟨(some 20), .fieldAddr 9 (.tmp 2), none, 0, (some [])⟩,
    ⟨(some 21), .load false 1 (.tmp 20), none, 0, (some [])⟩,
    ⟨(some 22), .move (.tmp 5), none, 0, (some [])⟩,
    ⟨(some 23), .indexSl 2 (.tmp 21) (.tmp 22), none, 0, (some [])⟩,
    ⟨(some 24), .load true 2 (.tmp 23), none, 0, (some [])⟩,
    ⟨(some 25), .fieldAddr 9 (.tmp 3), none, 0, (some [])⟩,
    ⟨(some 26), .load false 1 (.tmp 25), none, 0, (some [])⟩,
    ⟨(some 27), .move (.tmp 5), none, 0, (some [])⟩,
    ⟨(some 28), .indexSl 2 (.tmp 26) (.tmp 27), none, 0, (some [])⟩,
    ⟨(some 29), .load true 2 (.tmp 28), none, 0, (some [])⟩,
    ⟨(some 30), .eqAgg (true, [.int .i64, .bool]) (.tmp 24) (.tmp 29), none, 0, (some [])⟩] []) (.cond (.tmp 30) (.seq (.region 0 [
    ⟨(some 4), .move (.const (.bool false)), none, 0, none⟩] []) (.ret)) (.skip)))) (.region 0 [
    ⟨(some 18), .move (.tmp 5), none, 0, none⟩,
    ⟨(some 19), .bin .add (.tmp 18) (.const (.int .i64 (1))), none, 0, none⟩,
    ⟨(some 5), .move (.tmp 19), none, 0, none⟩] [])))))) (.seq (.region 0 [
    ⟨(some 31), .fieldAddr 0 (.tmp 2), none, 0, none⟩,
    ⟨(some 32), .load false 1 (.tmp 31), none, 0, none⟩,
    ⟨(some 33), .fieldAddr 0 (.tmp 3), none, 0, none⟩,
    ⟨(some 34), .load false 1 (.tmp 33), none, 0, none⟩,
    ⟨(some 35), .bin .eql (.tmp 32) (.tmp 34), none, 0, none⟩,
    ⟨(some 36), .move (.tmp 35), none, 0, none⟩,
    ⟨(some 37), .fieldAddr 1 (.tmp 2), (some (36, true)), 0, none⟩,
    ⟨(some 38), .load false 1 (.tmp 37), (some (36, true)), 0, none⟩,
    ⟨(some 39), .fieldAddr 1 (.tmp 3), (some (36, true)), 0, none⟩,
    ⟨(some 40), .load false 1 (.tmp 39), (some (36, true)), 0, none⟩,
    ⟨(some 41), .bin .eql (.tmp 38) (.tmp 40), (some (36, true)), 0, none⟩,
    ⟨(some 42), .pick (.tmp 36) (.tmp 41) (.const (.bool false)), none, 0, none⟩,
    ⟨(some 43), .move (.tmp 42), none, 0, none⟩,
    ⟨(some 44), .fieldAddr 2 (.tmp 2), (some (43, true)), 0, none⟩,
    ⟨(some 45), .load false 1 (.tmp 44), (some (43, true)), 0, none⟩,
    ⟨(some 46), .fieldAddr 2 (.tmp 3), (some (43, true)), 0, none⟩,
    ⟨(some 47), .load false 1 (.tmp 46), (some (43, true)), 0, none⟩,
    ⟨(some 48), .bin .eql (.tmp 45) (.tmp 47), (some (43, true)), 0, none⟩,
    ⟨(some 49), .pick (.tmp 43) (.tmp 48) (.const (.bool false)), none, 0, none⟩,
    ⟨(some 50), .move (.tmp 49), none, 0, none⟩,
    ⟨(some 51), .fieldAddr 3 (.tmp 2), (some (50, true)), 0, none⟩,
    ⟨(some 52), .load false 1 (.tmp 51), (some (50, true)), 0, none⟩,
    ⟨(some 53), .fieldAddr 3 (.tmp 3), (some (50, true)), 0, none⟩,
    ⟨(some 54), .load false 1 (.tmp 53), (some (50, true)), 0, none⟩,
    ⟨(some 55), .bin .eql (.tmp 52) (.tmp 54), (some (50, true)), 0, none⟩,
    ⟨(some 56), .pick (.tmp 50) (.tmp 55) (.const (.bool false)), none, 0, none⟩,
    ⟨(some 57), .move (.tmp 56), none, 0, none⟩,
    ⟨(some 58), .fieldAddr 4 (.tmp 2), (some (57, true)), 0, none⟩,
    ⟨(some 59), .load true 4 (.tmp 58), (some (57, true)), 0, none⟩,
    ⟨(some 60), .fieldAddr 4 (.tmp 3), (some (57, true)), 0, none⟩,
    ⟨(some 61), .load true 4 (.tmp 60), (some (57, true)), 0, none⟩,
    ⟨(some 62), .eqAgg (false, [.int .i64, .int .i64, .int .i64, .int .i64]) (.tmp 59) (.tmp 61), (some (57, true)), 0, none⟩,
    ⟨(some 63), .pick (.tmp 57) (.tmp 62) (.const (.bool false)), none, 0, none⟩,
    ⟨(some 64), .move (.tmp 63), none, 0, none⟩,
    ⟨(some 65), .fieldAddr 8 (.tmp 2), (some (64, true)), 0, none⟩,
    ⟨(some 66), .load false 1 (.tmp 65), (some (64, true)), 0, none⟩,
    ⟨(some 67), .fieldAddr 8 (.tmp 3), (some (64, true)), 0, none⟩,
    ⟨(some 68), .load false 1 (.tmp 67), (some (64, true)), 0, none⟩,
    ⟨(some 69), .bin .eql (.tmp 66) (.tmp 68), (some (64, true)), 0, none⟩,
    ⟨(some 70), .pick (.tmp 64) (.tmp 69) (.const (.bool false)), none, 0, none⟩,
    ⟨(some 71), .move (.tmp 70), none, 0, none⟩,
    ⟨(some 72), .fieldAddr 10 (.tmp 2), (some (71, true)), 0, none⟩,
    ⟨(some 73), .load false 1 (.tmp 72), (some (71, true)), 0, none⟩,
    ⟨(some 74), .fieldAddr 10 (.tmp 3), (some (71, true)), 0, none⟩,
    ⟨(some 75), .load false 1 (.tmp 74), (some (71, true)), 0, none⟩,
    ⟨(some 76), .bin .eql (.tmp 73) (.tmp 75), (some (71, true)), 0, none⟩,
    ⟨(some 77), .pick (.tmp 71) (.tmp 76) (.const (.bool false)), none, 0, none⟩,
    ⟨(some 78), .move (.tmp 77), none, 0, none⟩,
    ⟨(some 79), .fieldAddr 11 (.tmp 2), (some (78, true)), 0, none⟩,
    ⟨(some 80), .load false 1 (.tmp 79), (some (78, true)), 0, none⟩,
    ⟨(some 81), .fieldAddr 11 (.tmp 3), (some (78, true)), 0, none⟩,
    ⟨(some 82), .load false 1 (.tmp 81), (some (78, true)), 0, none⟩,
    ⟨(some 83), .eqB false (.tmp 80) (.tmp 82), (some (78, true)), 0, none⟩,
    ⟨(some 84), .pick (.tmp 78) (.tmp 83) (.const (.bool false)), none, 0, none⟩,
    ⟨(some 85), .move (.tmp 84), none, 0, none⟩,
    ⟨(some 86), .fieldAddr 12 (.tmp 2), (some (85, true)), 0, none⟩,
    ⟨(some 87), .load false 1 (.tmp 86), (some (85, true)), 0, none⟩,
    ⟨(some 88), .fieldAddr 12 (.tmp 3), (some (85, true)), 0, none⟩,
    ⟨(some 89), .load false 1 (.tmp 88), (some (85, true)), 0, none⟩,
    ⟨(some 90), .eqB false (.tmp 87) (.tmp 89), (some (85, true)), 0, none⟩,
    ⟨(some 91), .pick (.tmp 85) (.tmp 90) (.const (.bool false)), none, 0, none⟩,
    ⟨(some 92), .move (.tmp 91), none, 0, none⟩,
    ⟨(some 93), .fieldAddr 13 (.tmp 2), (some (92, true)), 0, none⟩,
    ⟨(some 94), .load false 1 (.tmp 93), (some (92, true)), 0, none⟩,
    ⟨(some 95), .fieldAddr 13 (.tmp 3), (some (92, true)), 0, none⟩,
    ⟨(some 96), .load false 1 (.tmp 95), (some (92, true)), 0, none⟩,
    ⟨(some 97), .bin .eql (.tmp 94) (.tmp 96), (some (92, true)), 0, none⟩,
    ⟨(some 98), .pick (.tmp 92) (.tmp 97) (.const (.bool false)), none, 0, none⟩,
    ⟨(some 99), .move (.tmp 98), none, 0, none⟩,
    ⟨(some 100), .fieldAddr 14 (.tmp 2), (some (99, true)), 0, none⟩,
    ⟨(some 101), .load false 1 (.tmp 100), (some (99, true)), 0, none⟩,
    ⟨(some 102), .fieldAddr 14 (.tmp 3), (some (99, true)), 0, none⟩,
    ⟨(some 103), .load false 1 (.tmp 102), (some (99, true)), 0, none⟩,
    ⟨(some 104), .bin .eql (.tmp 101) (.tmp 103), (some (99, true)), 0, none⟩,
    ⟨(some 105), .pick (.tmp 99) (.tmp 104) (.const (.bool false)), none, 0, none⟩,
    ⟨(some 106), .move (.tmp 105), none, 0, none⟩,
    ⟨(some 107), .fieldAddr 15 (.tmp 2), (some (106, true)), 0, none⟩,
    ⟨(some 108), .load false 1 (.tmp 107), (some (106, true)), 0, none⟩,
    ⟨(some 109), .fieldAddr 15 (.tmp 3), (some (106, true)), 0, none⟩,
    ⟨(some 110), .load false 1 (.tmp 109), (some (106, true)), 0, none⟩,
    ⟨(some 111), .bin .eql (.tmp 108) (.tmp 110), (some (106, true)), 0, none⟩,
    ⟨(some 112), .pick (.tmp 106) (.tmp 111) (.const (.bool false)), none, 0, none⟩,
    ⟨(some 113), .move (.tmp 112), none, 0, none⟩,
    ⟨(some 114), .fieldAddr 16 (.tmp 2), (some (113, true)), 0, none⟩,
    ⟨(some 115), .load false 1 (.tmp 114), (some (113, true)), 0, none⟩,
    ⟨(some 116), .fieldAddr 16 (.tmp 3), (some (113, true)), 0, none⟩,
    ⟨(some 117), .load false 1 (.tmp 116), (some (113, true)), 0, none⟩,
    ⟨(some 118), .bin .eql (.tmp 115) (.tmp 117), (some (113, true)), 0, none⟩,
    ⟨(some 119), .pick (.tmp 113) (.tmp 118) (.const (.bool false)), none, 0, none⟩,
    ⟨(some 120), .move (.tmp 119), none, 0, none⟩,
    ⟨(some 121), .fieldAddr 17 (.tmp 2), (some (120, true)), 0, none⟩,
    ⟨(some 122), .load false 1 (.tmp 121), (some (120, true)), 0, none⟩,
    ⟨(some 123), .fieldAddr 17 (.tmp 3), (some (120, true)), 0, none⟩,
    ⟨(some 124), .load false 1 (.tmp 123), (some (120, true)), 0, none⟩,
    ⟨(some 125), .bin .eql (.tmp 122) (.tmp 124), (some (120, true)), 0, none⟩,
    ⟨(some 126), .pick (.tmp 120) (.tmp 125) (.const (.bool false)), none, 0, none⟩,
    ⟨(some 4), .move (.tmp 126), none, 0, none⟩] []) (.ret)))), [.tmp 4], true⟩
def s25 : Sig := ⟨(.cons (.v .job) (.cons (.v .job) .nil)), [], ((.v .bool), []), []⟩
def l25_0  (next : ((Unit × (Unit × (Int × Unit))) × (Job × (Job × Unit))) → Option Bool) (i3 : Int) (z4 : Job) (z5 : Job) : Option Bool :=
  cond (decide (i3 < (List.length z4.after : Int)))
    (cond (decide (0 ≤ i3))
      (Option.bind (z4.after[Int.toNat i3]?) fun y6 =>
      cond (decide (0 ≤ i3))
        (Option.bind (z5.after[Int.toNat i3]?) fun y7 =>
        cond (!((decide (y6.job = y7.job)) && ((y6.ok == y7.ok) && true)))
          (some false)
          (next (((), (), IntKind.wrap .i64 (i3 + 1), ()), (z4, z5, ()))))
        (none))
      (none))
    (cond (decide (z4.id = z5.id))
      (cond (decide (z4.user = z5.user))
        (cond (decide (z4.queue = z5.queue))
          (cond (decide (z4.many = z5.many))
            (cond ((decide (z4.need.cpu = z5.need.cpu)) && ((decide (z4.need.mem = z5.need.mem)) && ((decide (z4.need.gpu = z5.need.gpu)) && ((decide (z4.need.lic = z5.need.lic)) && true))))
              (cond (decide (z4.wall = z5.wall))
                (cond (decide (z4.state = z5.state))
                  (cond (z4.ok == z5.ok)
                    (cond (z4.kill == z5.kill)
                      (cond (decide (z4.version = z5.version))
                        (cond (decide (z4.born = z5.born))
                          (cond (decide (z4.start = z5.start))
                            (cond (decide (z4.fin = z5.fin))
                              (some (decide (z4.array = z5.array)))
                              (some false))
                            (some false))
                          (some false))
                        (some false))
                      (some false))
                    (some false))
                  (some false))
                (some false))
              (some false))
            (some false))
          (some false))
        (some false))
      (some false))
def F25 (L : Lp)  (a0 : Job) (b1 : Job) : Option Bool :=
  cond (!decide ((List.length a0.after : Int) = (List.length b1.after : Int)))
    (some false)
    (L (fun (s2 : ((Unit × (Unit × (Int × Unit))) × (Job × (Job × Unit)))) next => l25_0 next s2.1.2.2.1 s2.2.1 s2.2.2.1) (((), (), 0, ()), (a0, b1, ())))
theorem e25 (L : Lp)  (x : s25.args.den) (h : denH s25.heap) : nrun [] L n25 s25 x h = F25 L  x.1 x.2.1 := by kernel_rfl
def f25 : Job → Job → Option Bool := F25 (@LN LOOPS) 
@[reducible] def t25 : Ent := ⟨25, s25, fun x h => f25 x.1 x.2.1⟩
theorem k25 : chkNF Try.prog Try.f25 n25 = true := by kernel_rfl
theorem ok25 : NOk Try.prog t25 := NOk.body (T := []) mixed nall_nil (oneEach_of (by kernel_rfl)) Try.func25 k25 (by kernel_rfl) (fun x h => e25 _  x h)
/- drayage/drayagelaw16.JobNew -/
def n4 : NFunc := ⟨50, .seq (.region 2 [
    ⟨(some 2), .box 3 (.tmp 0), none, 0, none⟩,
    ⟨(some 3), .box 17 (.tmp 1), none, 1, none⟩,
    ⟨(some 4), .move (.const (.bool false)), none, 2, none⟩] []) (.seq (.seq (.region 4 [
    ⟨(some 8), .call (.func 21) [] false 4, none, 0, none⟩,
    ⟨(some 9), .un .not (.tmp 8), none, 4, none⟩] []) (.cond (.tmp 9) (.seq (.region 0 [
    ⟨(some 4), .move (.const (.bool false)), none, 0, none⟩] []) (.ret)) (.skip))) (.seq (.seq (.region 0 [
    ⟨(some 10), .fieldAddr 12 (.tmp 3), none, 0, none⟩,
    ⟨(some 11), .load false 1 (.tmp 10), none, 0, none⟩,
    ⟨(some 12), .len (.tmp 11), none, 0, none⟩,
    ⟨(some 13), .bin .gtr (.tmp 12) (.const (.int .i64 (30))), none, 0, none⟩] []) (.cond (.tmp 13) (.seq (.region 0 [
    ⟨(some 4), .move (.const (.bool true)), none, 0, none⟩] []) (.ret)) (.skip))) (.seq (.region 5 [
    ⟨(some 15), .indexArr 3 1 (.tmp 2) (.const (.int .i64 (0))), none, 0, none⟩,
    ⟨(some 16), .load false 1 (.tmp 15), none, 0, none⟩,
    ⟨(some 17), .indexArr 3 1 (.tmp 2) (.const (.int .i64 (1))), none, 0, none⟩,
    ⟨(some 18), .load false 1 (.tmp 17), none, 0, none⟩,
    ⟨(some 19), .indexArr 3 1 (.tmp 2) (.const (.int .i64 (2))), none, 0, none⟩,
    ⟨(some 20), .load false 1 (.tmp 19), none, 0, none⟩,
    ⟨(some 21), .load true 17 (.tmp 3), none, 0, none⟩,
    ⟨(some 22), .call (.func 22) [(false, (.tmp 16)), (false, (.tmp 18)), (false, (.tmp 20)), (false, (.tmp 21))] false 4, none, 0, none⟩,
    ⟨(some 14), .move (.tmp 22), none, 4, none⟩,
    ⟨(some 23), .extract (.tmp 14) 0, none, 4, none⟩,
    ⟨(some 24), .extract (.tmp 14) 1, none, 4, none⟩,
    ⟨(some 5), .alloc [.int .i64 (0), .int .i64 (0), .int .i64 (0), .int .i64 (0), .int .i64 (0), .int .i64 (0), .int .i64 (0), .int .i64 (0), .int .i64 (0), .zsl, .int .i64 (0), .bool false, .bool false, .int .i64 (0), .int .i64 (0), .int .i64 (0), .int .i64 (0), .int .i64 (0)], none, 4, none⟩,
    ⟨none, .store 18 (.tmp 5) (.tmp 23), none, 5, none⟩,
    ⟨(some 6), .move (.tmp 24), none, 5, none⟩] []) (.seq (.region 5 [
    ⟨(some 25), .indexArr 3 1 (.tmp 2) (.const (.int .i64 (0))), none, 0, none⟩,
    ⟨(some 26), .load false 1 (.tmp 25), none, 0, none⟩,
    ⟨(some 27), .indexArr 3 1 (.tmp 2) (.const (.int .i64 (1))), none, 0, none⟩,
    ⟨(some 28), .load false 1 (.tmp 27), none, 0, none⟩,
    ⟨(some 29), .indexArr 3 1 (.tmp 2) (.const (.int .i64 (2))), none, 0, none⟩,
    ⟨(some 30), .load false 1 (.tmp 29), none, 0, none⟩,
    ⟨(some 31), .load true 17 (.tmp 3), none, 0, none⟩,
    ⟨(some 32), .call (.func 23) [(false, (.tmp 26)), (false, (.tmp 28)), (false, (.tmp 30)), (false, (.tmp 31))] false 4, none, 0, none⟩,
    ⟨(some 7), .alloc [.int .i64 (0), .int .i64 (0), .int .i64 (0), .int .i64 (0), .int .i64 (0), .int .i64 (0), .int .i64 (0), .int .i64 (0), .int .i64 (0), .zsl, .int .i64 (0), .bool false, .bool false, .int .i64 (0), .int .i64 (0), .int .i64 (0), .int .i64 (0), .int .i64 (0)], none, 4, none⟩,
    ⟨none, .store 18 (.tmp 7) (.tmp 32), none, 5, none⟩] []) (.seq (.seq (.region 4 [
    ⟨(some 33), .load true 18 (.tmp 7), none, 0, none⟩,
    ⟨(some 34), .call (.func 24) [(false, (.tmp 33))] false 4, none, 0, none⟩,
    ⟨(some 35), .un .not (.tmp 34), none, 4, none⟩] []) (.cond (.tmp 35) (.seq (.region 4 [
    ⟨(some 36), .move (.tmp 6), none, 0, none⟩,
    ⟨(some 37), .bin .eql (.tmp 36) (.const (.int .i64 (2))), none, 0, none⟩,
    ⟨(some 38), .move (.tmp 37), none, 0, none⟩,
    ⟨(some 39), .load true 18 (.tmp 5), (some (38, true)), 0, none⟩,
    ⟨(some 40), .build [.int .i64 (0), .int .i64 (0), .int .i64 (0), .int .i64 (0), .int .i64 (0), .int .i64 (0), .int .i64 (0), .int .i64 (0), .int .i64 (0), .zsl, .int .i64 (0), .bool false, .bool false, .int .i64 (0), .int .i64 (0), .int .i64 (0), .int .i64 (0), .int .i64 (0)] [], (some (38, true)), 0, none⟩,
    ⟨(some 41), .call (.func 25) [(false, (.tmp 39)), (false, (.tmp 40))] false 4, (some (38, true)), 0, none⟩,
    ⟨(some 42), .pick (.tmp 38) (.tmp 41) (.const (.bool false)), none, 4, none⟩,
    ⟨(some 4), .move (.tmp 42), none, 4, none⟩] []) (.ret)) (.skip))) (.seq (.region 4 [
    ⟨(some 43), .move (.tmp 6), none, 0, none⟩,
    ⟨(some 44), .bin .eql (.tmp 43) (.const (.int .i64 (0))), none, 0, none⟩,
    ⟨(some 45), .move (.tmp 44), none, 0, none⟩,
    ⟨(some 46), .load true 18 (.tmp 5), (some (45, true)), 0, none⟩,
    ⟨(some 47), .load true 18 (.tmp 7), (some (45, true)), 0, none⟩,
    ⟨(some 48), .call (.func 25) [(false, (.tmp 46)), (false, (.tmp 47))] false 4, (some (45, true)), 0, none⟩,
    ⟨(some 49), .pick (.tmp 45) (.tmp 48) (.const (.bool false)), none, 4, none⟩,
    ⟨(some 4), .move (.tmp 49), none, 4, none⟩] []) (.ret))))))), [.tmp 4], true⟩
def s4 : Sig := ⟨(.cons (.v (.pair (.int .i64) (.pair (.int .i64) (.int .i64)))) (.cons (.v .request) .nil)), [], ((.v .bool), []), []⟩
def F4 (L : Lp) (g21 : Option Bool) (g22 : Int → Int → Int → Request → Option (Job × (Int × Unit))) (g23 : Int → Int → Int → Request → Option Job) (g24 : Job → Option Bool) (g25 : Job → Job → Option Bool) (ax0 : (Int × (Int × Int))) (ar1 : Request) : Option Bool :=
  Option.bind (g21) fun r2 =>
  cond (!r2)
    (some false)
    (cond (decide (30 < (List.length ar1.after : Int)))
      (some true)
      (Option.bind (g22 ax0.1 ax0.2.1 ax0.2.2 ar1) fun r3 =>
      Option.bind (g23 ax0.1 ax0.2.1 ax0.2.2 ar1) fun r4 =>
      Option.bind (g24 r4) fun r5 =>
      cond (!r5)
        (cond (decide (r3.2.1 = 2))
          (Option.bind (g25 r3.1 (Job.mk 0 0 0 0 (Res.mk 0 0 0 0) 0 [] 0 false false 0 0 0 0 0)) fun r6 =>
          some r6)
          (some false))
        (cond (decide (r3.2.1 = 0))
          (Option.bind (g25 r3.1 r4) fun r7 =>
          some r7)
          (some false))))
theorem e4 (L : Lp) (g21 : Option Bool) (g22 : Int → Int → Int → Request → Option (Job × (Int × Unit))) (g23 : Int → Int → Int → Request → Option Job) (g24 : Job → Option Bool) (g25 : Job → Job → Option Bool) (x : s4.args.den) (h : denH s4.heap) : nrun [⟨21, s21, fun x h => g21 ⟩, ⟨22, s22, fun x h => g22 x.1 x.2.1 x.2.2.1 x.2.2.2.1⟩, ⟨23, s23, fun x h => g23 x.1 x.2.1 x.2.2.1 x.2.2.2.1⟩, ⟨24, s24, fun x h => g24 x.1⟩, ⟨25, s25, fun x h => g25 x.1 x.2.1⟩] L n4 s4 x h = F4 L g21 g22 g23 g24 g25 x.1 x.2.1 := by kernel_rfl
def f4 : (Int × (Int × Int)) → Request → Option Bool := F4 (@LN LOOPS) f21 f22 f23 f24 f25
@[reducible] def t4 : Ent := ⟨4, s4, fun x h => f4 x.1 x.2.1⟩
theorem k4 : chkNF Try.prog Try.f4 n4 = true := by kernel_rfl
theorem ok4 : NOk Try.prog t4 := NOk.body (T := [t21, t22, t23, t24, t25]) mixed (nall_cons ok21 (nall_cons ok22 (nall_cons ok23 (nall_cons ok24 (nall_cons ok25 nall_nil))))) (oneEach_of (by kernel_rfl)) Try.func4 k4 (by kernel_rfl) (fun x h => e4 _ _ _ _ _ _ x h)
/- drayage/drayageref15.Next -/
def n27 : NFunc := ⟨48, .seq (.region 0 [
    ⟨(some 4), .move (.const (.int .i64 (0))), none, 0, none⟩] []) (.seq (.join [] [] ⟨[], [], []⟩ (.seq (.region 0 [
    ⟨(some 5), .move (.tmp 1), none, 0, none⟩] []) (.block 0 (.seq (.region 0 [
    ⟨(some 7), .bin .eql (.tmp 5) (.const (.int .i64 (1))), none, 0, none⟩,
    ⟨(some 6), .move (.tmp 7), none, 0, none⟩] []) (.cond (.tmp 6) (.seq (.region 0 [
    ⟨(some 8), .move (.tmp 0), none, 0, none⟩,
    ⟨(some 9), .bin .eql (.tmp 8) (.const (.int .i64 (1))), none, 0, none⟩] []) (.cond (.tmp 9) (.seq (.region 0 [
    ⟨(some 4), .move (.const (.int .i64 (2))), none, 0, none⟩] []) (.ret)) (.skip))) (.seq (.region 0 [
    ⟨(some 11), .bin .eql (.tmp 5) (.const (.int .i64 (2))), none, 0, none⟩,
    ⟨(some 10), .move (.tmp 11), none, 0, none⟩] []) (.cond (.tmp 10) (.seq (.region 0 [
    ⟨(some 12), .move (.tmp 0), none, 0, none⟩,
    ⟨(some 13), .bin .eql (.tmp 12) (.const (.int .i64 (2))), none, 0, none⟩] []) (.cond (.tmp 13) (.seq (.region 0 [
    ⟨(some 4), .move (.const (.int .i64 (1))), none, 0, none⟩] []) (.ret)) (.skip))) (.seq (.region 0 [
    ⟨(some 15), .bin .eql (.tmp 5) (.const (.int .i64 (3))), none, 0, none⟩,
    ⟨(some 14), .move (.tmp 15), none, 0, none⟩] []) (.cond (.tmp 14) (.seq (.region 0 [
    ⟨(some 16), .move (.tmp 0), none, 0, none⟩,
    ⟨(some 17), .bin .eql (.tmp 16) (.const (.int .i64 (1))), none, 0, none⟩] []) (.cond (.tmp 17) (.seq (.region 0 [
    ⟨(some 4), .move (.const (.int .i64 (3))), none, 0, none⟩] []) (.ret)) (.skip))) (.seq (.region 0 [
    ⟨(some 19), .bin .eql (.tmp 5) (.const (.int .i64 (4))), none, 0, none⟩,
    ⟨(some 18), .move (.tmp 19), none, 0, none⟩] []) (.cond (.tmp 18) (.seq (.region 0 [
    ⟨(some 20), .move (.tmp 0), none, 0, none⟩,
    ⟨(some 21), .bin .eql (.tmp 20) (.const (.int .i64 (3))), none, 0, none⟩] []) (.cond (.tmp 21) (.seq (.region 0 [
    ⟨(some 4), .move (.const (.int .i64 (1))), none, 0, none⟩] []) (.ret)) (.skip))) (.seq (.region 0 [
    ⟨(some 23), .bin .eql (.tmp 5) (.const (.int .i64 (5))), none, 0, none⟩,
    ⟨(some 22), .move (.tmp 23), none, 0, none⟩] []) (.cond (.tmp 22) (.seq (.region 0 [
    ⟨(some 24), .move (.tmp 0), none, 0, none⟩,
    ⟨(some 25), .bin .eql (.tmp 24) (.const (.int .i64 (3))), none, 0, none⟩] []) (.cond (.tmp 25) (.seq (.region 0 [
    ⟨(some 4), .move (.const (.int .i64 (4))), none, 0, none⟩] []) (.ret)) (.skip))) (.seq (.region 0 [
    ⟨(some 27), .bin .eql (.tmp 5) (.const (.int .i64 (6))), none, 0, none⟩,
    ⟨(some 26), .move (.tmp 27), none, 0, none⟩] []) (.cond (.tmp 26) (.seq (.seq (.region 0 [
    ⟨(some 28), .move (.tmp 0), none, 0, none⟩,
    ⟨(some 29), .bin .eql (.tmp 28) (.const (.int .i64 (3))), none, 0, none⟩] []) (.cond (.tmp 29) (.seq (.region 0 [
    ⟨(some 4), .move (.const (.int .i64 (4))), none, 0, none⟩] []) (.ret)) (.skip))) (.seq (.region 0 [
    ⟨(some 30), .move (.tmp 0), none, 0, none⟩,
    ⟨(some 31), .bin .eql (.tmp 30) (.const (.int .i64 (1))), none, 0, none⟩,
    ⟨(some 32), .move (.tmp 31), none, 0, none⟩,
    ⟨(some 33), .move (.tmp 0), (some (32, false)), 0, none⟩,
    ⟨(some 34), .bin .eql (.tmp 33) (.const (.int .i64 (2))), (some (32, false)), 0, none⟩,
    ⟨(some 35), .pick (.tmp 32) (.const (.bool true)) (.tmp 34), none, 0, none⟩] []) (.cond (.tmp 35) (.seq (.region 0 [
    ⟨(some 4), .move (.const (.int .i64 (6))), none, 0, none⟩] []) (.ret)) (.skip)))) (.seq (.region 0 [
    ⟨(some 37), .bin .eql (.tmp 5) (.const (.int .i64 (7))), none, 0, none⟩,
    ⟨(some 36), .move (.tmp 37), none, 0, none⟩] []) (.cond (.tmp 36) (.seq (.region 0 [
    ⟨(some 38), .move (.tmp 0), none, 0, none⟩,
    ⟨(some 39), .bin .eql (.tmp 38) (.const (.int .i64 (3))), none, 0, none⟩,
    ⟨(some 40), .move (.tmp 39), none, 0, none⟩,
    ⟨(some 41), .move (.tmp 0), (some (40, false)), 0, none⟩,
    ⟨(some 42), .bin .eql (.tmp 41) (.const (.int .i64 (4))), (some (40, false)), 0, none⟩,
    ⟨(some 43), .pick (.tmp 40) (.const (.bool true)) (.tmp 42), none, 0, none⟩] []) (.cond (.tmp 43) (.seq (.region 0 [
    ⟨(some 4), .move (.const (.int .i64 (5))), none, 0, none⟩] []) (.ret)) (.skip))) (.seq (.region 0 [
    ⟨(some 45), .bin .eql (.tmp 5) (.const (.int .i64 (8))), none, 0, none⟩,
    ⟨(some 44), .move (.tmp 45), none, 0, none⟩] []) (.cond (.tmp 44) (.seq (.region 0 [
    ⟨(some 46), .move (.tmp 0), none, 0, none⟩,
    ⟨(some 47), .bin .eql (.tmp 46) (.const (.int .i64 (4))), none, 0, none⟩] []) (.cond (.tmp 47) (.seq (.region 0 [
    ⟨(some 4), .move (.const (.int .i64 (6))), none, 0, none⟩] []) (.ret)) (.skip))) (.skip)))))))))))))))))))) (.seq (.region 0 [
    ⟨(some 4), .move (.const (.int .i64 (0))), none, 0, none⟩] []) (.ret))), [.tmp 4], true⟩
def s27 : Sig := ⟨(.cons (.v (.int .i64)) (.cons (.v (.int .i64)) .nil)), [], ((.v (.int .i64)), []), []⟩
def F27 (L : Lp)  (state0 : Int) (what1 : Int) : Option Int :=
  Option.bind (α := ((Unit × Unit) ⊕ Int))
    (cond (decide (what1 = 1))
      (cond (decide (state0 = 1))
        (some (.inr 2))
        (some (.inl ((), ()))))
      (cond (decide (what1 = 2))
        (cond (decide (state0 = 2))
          (some (.inr 1))
          (some (.inl ((), ()))))
        (cond (decide (what1 = 3))
          (cond (decide (state0 = 1))
            (some (.inr 3))
            (some (.inl ((), ()))))
          (cond (decide (what1 = 4))
            (cond (decide (state0 = 3))
              (some (.inr 1))
              (some (.inl ((), ()))))
            (cond (decide (what1 = 5))
              (cond (decide (state0 = 3))
                (some (.inr 4))
                (some (.inl ((), ()))))
              (cond (decide (what1 = 6))
                (cond (decide (state0 = 3))
                  (some (.inr 4))
                  (cond (decide (state0 = 1))
                    (some (.inr 6))
                    (cond (decide (state0 = 2))
                      (some (.inr 6))
                      (some (.inl ((), ()))))))
                (cond (decide (what1 = 7))
                  (cond (decide (state0 = 3))
                    (some (.inr 5))
                    (cond (decide (state0 = 4))
                      (some (.inr 5))
                      (some (.inl ((), ())))))
                  (cond (decide (what1 = 8))
                    (cond (decide (state0 = 4))
                      (some (.inr 6))
                      (some (.inl ((), ()))))
                    (some (.inl ((), ()))))))))))) (Sum.elim (fun x2 =>
    some 0) some)
theorem e27 (L : Lp)  (x : s27.args.den) (h : denH s27.heap) : nrun [] L n27 s27 x h = F27 L  x.1 x.2.1 := by kernel_rfl
def f27 : Int → Int → Option Int := F27 (@LN LOOPS) 
@[reducible] def t27 : Ent := ⟨27, s27, fun x h => f27 x.1 x.2.1⟩
theorem k27 : chkNF Try.prog Try.f27 n27 = true := by kernel_rfl
theorem ok27 : NOk Try.prog t27 := NOk.body (T := []) mixed nall_nil (oneEach_of (by kernel_rfl)) Try.func27 k27 (by kernel_rfl) (fun x h => e27 _  x h)
/- drayage/drayageref16.Step -/
def n28 : NFunc := ⟨50, .seq (.region 2 [
    ⟨(some 4), .box 18 (.tmp 0), none, 0, none⟩,
    ⟨(some 8), .alloc [.int .i64 (0), .int .i64 (0), .int .i64 (0), .int .i64 (0), .int .i64 (0), .int .i64 (0), .int .i64 (0), .int .i64 (0), .int .i64 (0), .zsl, .int .i64 (0), .bool false, .bool false, .int .i64 (0), .int .i64 (0), .int .i64 (0), .int .i64 (0), .int .i64 (0)], none, 1, none⟩] []) (.seq (.region 0 [
    ⟨(some 10), .fieldAddr 10 (.tmp 4), none, 0, none⟩,
    ⟨(some 11), .load false 1 (.tmp 10), none, 0, none⟩,
    ⟨(some 9), .move (.tmp 11), none, 0, none⟩] []) (.seq (.region 4 [
    ⟨(some 12), .move (.tmp 9), none, 0, none⟩,
    ⟨(some 13), .move (.tmp 1), none, 0, none⟩,
    ⟨(some 14), .call (.func 27) [(false, (.tmp 12)), (false, (.tmp 13))] false 4, none, 0, none⟩,
    ⟨(some 15), .fieldAddr 10 (.tmp 4), none, 4, none⟩,
    ⟨none, .store 1 (.tmp 15) (.tmp 14), none, 4, none⟩] []) (.seq (.region 0 [
    ⟨(some 16), .fieldAddr 13 (.tmp 4), none, 0, none⟩,
    ⟨(some 17), .load false 1 (.tmp 16), none, 0, none⟩,
    ⟨(some 18), .bin .add (.tmp 17) (.const (.int .i64 (1))), none, 0, none⟩,
    ⟨(some 19), .fieldAddr 13 (.tmp 4), none, 0, none⟩,
    ⟨none, .store 1 (.tmp 19) (.tmp 18), none, 0, none⟩] []) (.seq (.meet [8, 4, 2, 1, 9, 3] [] ⟨[(4, (.ptr 0 0 0)), (8, (.ptr 1 0 0))], [1, 2, 3, 9], [.one false .job, .cell false (.cons (.v (.int .i64)) (.cons (.v (.int .i64)) (.cons (.v (.int .i64)) (.cons (.v (.int .i64)) (.cons (.v (.int .i64)) (.cons (.v (.int .i64)) (.cons (.v (.int .i64)) (.cons (.v (.int .i64)) (.cons (.v (.int .i64)) (.cons .zsl (.cons (.v (.int .i64)) (.cons (.v .bool) (.cons (.v .bool) (.cons (.v (.int .i64)) (.cons (.v (.int .i64)) (.cons (.v (.int .i64)) (.cons (.v (.int .i64)) (.cons (.v (.int .i64)) .nil))))))))))))))))))]⟩ (.seq (.region 0 [
    ⟨(some 20), .move (.tmp 1), none, 0, none⟩,
    ⟨(some 21), .bin .eql (.tmp 20) (.const (.int .i64 (3))), none, 0, none⟩] []) (.cond (.tmp 21) (.region 0 [
    ⟨(some 22), .move (.tmp 2), none, 0, none⟩,
    ⟨(some 23), .fieldAddr 15 (.tmp 4), none, 0, none⟩,
    ⟨none, .store 1 (.tmp 23) (.tmp 22), none, 0, none⟩] []) (.skip)))) (.seq (.meet [8, 4, 2, 1, 9, 3] [] ⟨[(4, (.ptr 0 0 0)), (8, (.ptr 1 0 0))], [1, 2, 3, 9], [.one false .job, .cell false (.cons (.v (.int .i64)) (.cons (.v (.int .i64)) (.cons (.v (.int .i64)) (.cons (.v (.int .i64)) (.cons (.v (.int .i64)) (.cons (.v (.int .i64)) (.cons (.v (.int .i64)) (.cons (.v (.int .i64)) (.cons (.v (.int .i64)) (.cons .zsl (.cons (.v (.int .i64)) (.cons (.v .bool) (.cons (.v .bool) (.cons (.v (.int .i64)) (.cons (.v (.int .i64)) (.cons (.v (.int .i64)) (.cons (.v (.int .i64)) (.cons (.v (.int .i64)) .nil))))))))))))))))))]⟩ (.seq (.region 0 [
    ⟨(some 24), .move (.tmp 1), none, 0, none⟩,
    ⟨(some 25), .bin .eql (.tmp 24) (.const (.int .i64 (4))), none, 0, none⟩] []) (.cond (.tmp 25) (.region 0 [
    ⟨(some 26), .fieldAddr 15 (.tmp 4), none, 0, none⟩,
    ⟨none, .store 1 (.tmp 26) (.const (.int .i64 (0))), none, 0, none⟩] []) (.skip)))) (.seq (.meet [8, 4, 2, 1, 9] [] ⟨[(4, (.ptr 0 0 0)), (8, (.ptr 1 0 0))], [1, 2, 9], [.one false .job, .cell false (.cons (.v (.int .i64)) (.cons (.v (.int .i64)) (.cons (.v (.int .i64)) (.cons (.v (.int .i64)) (.cons (.v (.int .i64)) (.cons (.v (.int .i64)) (.cons (.v (.int .i64)) (.cons (.v (.int .i64)) (.cons (.v (.int .i64)) (.cons .zsl (.cons (.v (.int .i64)) (.cons (.v .bool) (.cons (.v .bool) (.cons (.v (.int .i64)) (.cons (.v (.int .i64)) (.cons (.v (.int .i64)) (.cons (.v (.int .i64)) (.cons (.v (.int .i64)) .nil))))))))))))))))))]⟩ (.seq (.region 0 [
    ⟨(some 27), .move (.tmp 1), none, 0, none⟩,
    ⟨(some 28), .bin .eql (.tmp 27) (.const (.int .i64 (5))), none, 0, none⟩] []) (.cond (.tmp 28) (.region 0 [
    ⟨(some 29), .move (.tmp 3), none, 0, none⟩,
    ⟨(some 30), .fieldAddr 11 (.tmp 4), none, 0, none⟩,
    ⟨none, .store 1 (.tmp 30) (.tmp 29), none, 0, none⟩] []) (.skip)))) (.seq (.meet [8, 4, 2, 1, 9] [] ⟨[(4, (.ptr 0 0 0)), (8, (.ptr 1 0 0))], [1, 2, 9], [.one false .job, .cell false (.cons (.v (.int .i64)) (.cons (.v (.int .i64)) (.cons (.v (.int .i64)) (.cons (.v (.int .i64)) (.cons (.v (.int .i64)) (.cons (.v (.int .i64)) (.cons (.v (.int .i64)) (.cons (.v (.int .i64)) (.cons (.v (.int .i64)) (.cons .zsl (.cons (.v (.int .i64)) (.cons (.v .bool) (.cons (.v .bool) (.cons (.v (.int .i64)) (.cons (.v (.int .i64)) (.cons (.v (.int .i64)) (.cons (.v (.int .i64)) (.cons (.v (.int .i64)) .nil))))))))))))))))))]⟩ (.seq (.region 0 [
    ⟨(some 31), .move (.tmp 1), none, 0, none⟩,
    ⟨(some 32), .bin .eql (.tmp 31) (.const (.int .i64 (6))), none, 0, none⟩] []) (.cond (.tmp 32) (.seq (.region 0 [
    ⟨(some 33), .fieldAddr 12 (.tmp 4), none, 0, none⟩,
    ⟨none, .store 1 (.tmp 33) (.const (.bool true)), none, 0, none⟩] []) (.region 0 [
    ⟨(some 34), .fieldAddr 11 (.tmp 4), none, 0, none⟩,
    ⟨none, .store 1 (.tmp 34) (.const (.bool false)), none, 0, none⟩] [])) (.skip)))) (.seq (.meet [8, 4, 2, 1] [] ⟨[(4, (.ptr 0 0 0)), (8, (.ptr 1 0 0))], [1, 2], [.one false .job, .cell false (.cons (.v (.int .i64)) (.cons (.v (.int .i64)) (.cons (.v (.int .i64)) (.cons (.v (.int .i64)) (.cons (.v (.int .i64)) (.cons (.v (.int .i64)) (.cons (.v (.int .i64)) (.cons (.v (.int .i64)) (.cons (.v (.int .i64)) (.cons .zsl (.cons (.v (.int .i64)) (.cons (.v .bool) (.cons (.v .bool) (.cons (.v (.int .i64)) (.cons (.v (.int .i64)) (.cons (.v (.int .i64)) (.cons (.v (.int .i64)) (.cons (.v (.int .i64)) .nil))))))))))))))))))]⟩ (.seq (.region 0 [
    ⟨(some 35), .move (.tmp 1), none, 0, none⟩,
    ⟨(some 36), .bin .eql (.tmp 35) (.const (.int .i64 (7))), none, 0, none⟩] []) (.cond (.tmp 36) (.seq (.region 0 [
    ⟨(some 37), .fieldAddr 12 (.tmp 4), none, 0, none⟩,
    ⟨none, .store 1 (.tmp 37) (.const (.bool false)), none, 0, none⟩] []) (.seq (.region 0 [
    ⟨(some 38), .move (.tmp 9), none, 0, none⟩,
    ⟨(some 39), .bin .eql (.tmp 38) (.const (.int .i64 (3))), none, 0, none⟩] []) (.cond (.tmp 39) (.region 0 [
    ⟨(some 40), .fieldAddr 11 (.tmp 4), none, 0, none⟩,
    ⟨none, .store 1 (.tmp 40) (.const (.bool false)), none, 0, none⟩] []) (.skip)))) (.skip)))) (.seq (.seq (.region 0 [
    ⟨(some 41), .move (.tmp 1), none, 0, none⟩,
    ⟨(some 42), .bin .eql (.tmp 41) (.const (.int .i64 (8))), none, 0, none⟩] []) (.cond (.tmp 42) (.region 0 [
    ⟨(some 43), .fieldAddr 11 (.tmp 4), none, 0, none⟩,
    ⟨none, .store 1 (.tmp 43) (.const (.bool false)), none, 0, none⟩] []) (.skip))) (.seq (.seq (.region 0 [
    ⟨(some 44), .fieldAddr 10 (.tmp 4), none, 0, none⟩,
    ⟨(some 45), .load false 1 (.tmp 44), none, 0, none⟩,
    ⟨(some 46), .bin .geq (.tmp 45) (.const (.int .i64 (5))), none, 0, none⟩] []) (.cond (.tmp 46) (.region 0 [
    ⟨(some 47), .move (.tmp 2), none, 0, none⟩,
    ⟨(some 48), .fieldAddr 16 (.tmp 4), none, 0, none⟩,
    ⟨none, .store 1 (.tmp 48) (.tmp 47), none, 0, none⟩] []) (.skip))) (.seq (.region 0 [
    ⟨(some 49), .load true 18 (.tmp 4), none, 0, none⟩,
    ⟨none, .store 18 (.tmp 8) (.tmp 49), none, 0, none⟩] []) (.ret)))))))))))), [.cell true 18 8], true⟩
def s28 : Sig := ⟨(.cons (.v .job) (.cons (.v (.int .i64)) (.cons (.v (.int .i64)) (.cons (.v .bool) .nil)))), [], ((.v .job), []), []⟩
def F28 (L : Lp) (g27 : Int → Int → Option Int) (j0 : Job) (what1 : Int) (now2 : Int) (ok3 : Bool) : Option Job :=
  Option.bind (g27 j0.state what1) fun r4 =>
  Option.bind (α := ((Unit × (Unit × Unit)) × (Job × ((Int × (Int × (Int × (Int × (Int × (Int × (Int × (Int × (Int × (Unit × (Int × (Bool × (Bool × (Int × (Int × (Int × (Int × (Int × Unit)))))))))))))))))) × Unit))))
    (cond (decide (what1 = 3))
      (some (((), (), ()), (Job.mk j0.id j0.user j0.queue j0.many j0.need j0.wall j0.after r4 j0.ok j0.kill (IntKind.wrap .i64 (j0.version + 1)) j0.born now2 j0.fin j0.array, (0, 0, 0, 0, 0, 0, 0, 0, 0, (), 0, false, false, 0, 0, 0, 0, 0, ()), ())))
      (some (((), (), ()), (Job.mk j0.id j0.user j0.queue j0.many j0.need j0.wall j0.after r4 j0.ok j0.kill (IntKind.wrap .i64 (j0.version + 1)) j0.born j0.start j0.fin j0.array, (0, 0, 0, 0, 0, 0, 0, 0, 0, (), 0, false, false, 0, 0, 0, 0, 0, ()), ())))) fun x5 =>
  Option.bind (α := ((Unit × (Unit × Unit)) × (Job × ((Int × (Int × (Int × (Int × (Int × (Int × (Int × (Int × (Int × (Unit × (Int × (Bool × (Bool × (Int × (Int × (Int × (Int × (Int × Unit)))))))))))))))))) × Unit))))
    (cond (decide (what1 = 4))
      (some (((), (), ()), (Job.mk x5.2.1.id x5.2.1.user x5.2.1.queue x5.2.1.many x5.2.1.need x5.2.1.wall x5.2.1.after x5.2.1.state x5.2.1.ok x5.2.1.kill x5.2.1.version x5.2.1.born 0 x5.2.1.fin x5.2.1.array, (x5.2.2.1.1, x5.2.2.1.2.1, x5.2.2.1.2.2.1, x5.2.2.1.2.2.2.1, x5.2.2.1.2.2.2.2.1, x5.2.2.1.2.2.2.2.2.1, x5.2.2.1.2.2.2.2.2.2.1, x5.2.2.1.2.2.2.2.2.2.2.1, x5.2.2.1.2.2.2.2.2.2.2.2.1, (), x5.2.2.1.2.2.2.2.2.2.2.2.2.2.1, x5.2.2.1.2.2.2.2.2.2.2.2.2.2.2.1, x5.2.2.1.2.2.2.2.2.2.2.2.2.2.2.2.1, x5.2.2.1.2.2.2.2.2.2.2.2.2.2.2.2.2.1, x5.2.2.1.2.2.2.2.2.2.2.2.2.2.2.2.2.2.1, x5.2.2.1.2.2.2.2.2.2.2.2.2.2.2.2.2.2.2.1, x5.2.2.1.2.2.2.2.2.2.2.2.2.2.2.2.2.2.2.2.1, x5.2.2.1.2.2.2.2.2.2.2.2.2.2.2.2.2.2.2.2.2.1, ()), ())))
      (some (((), (), ()), (x5.2.1, (x5.2.2.1.1, x5.2.2.1.2.1, x5.2.2.1.2.2.1, x5.2.2.1.2.2.2.1, x5.2.2.1.2.2.2.2.1, x5.2.2.1.2.2.2.2.2.1, x5.2.2.1.2.2.2.2.2.2.1, x5.2.2.1.2.2.2.2.2.2.2.1, x5.2.2.1.2.2.2.2.2.2.2.2.1, (), x5.2.2.1.2.2.2.2.2.2.2.2.2.2.1, x5.2.2.1.2.2.2.2.2.2.2.2.2.2.2.1, x5.2.2.1.2.2.2.2.2.2.2.2.2.2.2.2.1, x5.2.2.1.2.2.2.2.2.2.2.2.2.2.2.2.2.1, x5.2.2.1.2.2.2.2.2.2.2.2.2.2.2.2.2.2.1, x5.2.2.1.2.2.2.2.2.2.2.2.2.2.2.2.2.2.2.1, x5.2.2.1.2.2.2.2.2.2.2.2.2.2.2.2.2.2.2.2.1, x5.2.2.1.2.2.2.2.2.2.2.2.2.2.2.2.2.2.2.2.2.1, ()), ())))) fun x6 =>
  Option.bind (α := ((Unit × (Unit × Unit)) × (Job × ((Int × (Int × (Int × (Int × (Int × (Int × (Int × (Int × (Int × (Unit × (Int × (Bool × (Bool × (Int × (Int × (Int × (Int × (Int × Unit)))))))))))))))))) × Unit))))
    (cond (decide (what1 = 5))
      (some (((), (), ()), (Job.mk x6.2.1.id x6.2.1.user x6.2.1.queue x6.2.1.many x6.2.1.need x6.2.1.wall x6.2.1.after x6.2.1.state ok3 x6.2.1.kill x6.2.1.version x6.2.1.born x6.2.1.start x6.2.1.fin x6.2.1.array, (x6.2.2.1.1, x6.2.2.1.2.1, x6.2.2.1.2.2.1, x6.2.2.1.2.2.2.1, x6.2.2.1.2.2.2.2.1, x6.2.2.1.2.2.2.2.2.1, x6.2.2.1.2.2.2.2.2.2.1, x6.2.2.1.2.2.2.2.2.2.2.1, x6.2.2.1.2.2.2.2.2.2.2.2.1, (), x6.2.2.1.2.2.2.2.2.2.2.2.2.2.1, x6.2.2.1.2.2.2.2.2.2.2.2.2.2.2.1, x6.2.2.1.2.2.2.2.2.2.2.2.2.2.2.2.1, x6.2.2.1.2.2.2.2.2.2.2.2.2.2.2.2.2.1, x6.2.2.1.2.2.2.2.2.2.2.2.2.2.2.2.2.2.1, x6.2.2.1.2.2.2.2.2.2.2.2.2.2.2.2.2.2.2.1, x6.2.2.1.2.2.2.2.2.2.2.2.2.2.2.2.2.2.2.2.1, x6.2.2.1.2.2.2.2.2.2.2.2.2.2.2.2.2.2.2.2.2.1, ()), ())))
      (some (((), (), ()), (x6.2.1, (x6.2.2.1.1, x6.2.2.1.2.1, x6.2.2.1.2.2.1, x6.2.2.1.2.2.2.1, x6.2.2.1.2.2.2.2.1, x6.2.2.1.2.2.2.2.2.1, x6.2.2.1.2.2.2.2.2.2.1, x6.2.2.1.2.2.2.2.2.2.2.1, x6.2.2.1.2.2.2.2.2.2.2.2.1, (), x6.2.2.1.2.2.2.2.2.2.2.2.2.2.1, x6.2.2.1.2.2.2.2.2.2.2.2.2.2.2.1, x6.2.2.1.2.2.2.2.2.2.2.2.2.2.2.2.1, x6.2.2.1.2.2.2.2.2.2.2.2.2.2.2.2.2.1, x6.2.2.1.2.2.2.2.2.2.2.2.2.2.2.2.2.2.1, x6.2.2.1.2.2.2.2.2.2.2.2.2.2.2.2.2.2.2.1, x6.2.2.1.2.2.2.2.2.2.2.2.2.2.2.2.2.2.2.2.1, x6.2.2.1.2.2.2.2.2.2.2.2.2.2.2.2.2.2.2.2.2.1, ()), ())))) fun x7 =>
  Option.bind (α := ((Unit × (Unit × Unit)) × (Job × ((Int × (Int × (Int × (Int × (Int × (Int × (Int × (Int × (Int × (Unit × (Int × (Bool × (Bool × (Int × (Int × (Int × (Int × (Int × Unit)))))))))))))))))) × Unit))))
    (cond (decide (what1 = 6))
      (some (((), (), ()), (Job.mk x7.2.1.id x7.2.1.user x7.2.1.queue x7.2.1.many x7.2.1.need x7.2.1.wall x7.2.1.after x7.2.1.state false true x7.2.1.version x7.2.1.born x7.2.1.start x7.2.1.fin x7.2.1.array, (x7.2.2.1.1, x7.2.2.1.2.1, x7.2.2.1.2.2.1, x7.2.2.1.2.2.2.1, x7.2.2.1.2.2.2.2.1, x7.2.2.1.2.2.2.2.2.1, x7.2.2.1.2.2.2.2.2.2.1, x7.2.2.1.2.2.2.2.2.2.2.1, x7.2.2.1.2.2.2.2.2.2.2.2.1, (), x7.2.2.1.2.2.2.2.2.2.2.2.2.2.1, x7.2.2.1.2.2.2.2.2.2.2.2.2.2.2.1, x7.2.2.1.2.2.2.2.2.2.2.2.2.2.2.2.1, x7.2.2.1.2.2.2.2.2.2.2.2.2.2.2.2.2.1, x7.2.2.1.2.2.2.2.2.2.2.2.2.2.2.2.2.2.1, x7.2.2.1.2.2.2.2.2.2.2.2.2.2.2.2.2.2.2.1, x7.2.2.1.2.2.2.2.2.2.2.2.2.2.2.2.2.2.2.2.1, x7.2.2.1.2.2.2.2.2.2.2.2.2.2.2.2.2.2.2.2.2.1, ()), ())))
      (some (((), (), ()), (x7.2.1, (x7.2.2.1.1, x7.2.2.1.2.1, x7.2.2.1.2.2.1, x7.2.2.1.2.2.2.1, x7.2.2.1.2.2.2.2.1, x7.2.2.1.2.2.2.2.2.1, x7.2.2.1.2.2.2.2.2.2.1, x7.2.2.1.2.2.2.2.2.2.2.1, x7.2.2.1.2.2.2.2.2.2.2.2.1, (), x7.2.2.1.2.2.2.2.2.2.2.2.2.2.1, x7.2.2.1.2.2.2.2.2.2.2.2.2.2.2.1, x7.2.2.1.2.2.2.2.2.2.2.2.2.2.2.2.1, x7.2.2.1.2.2.2.2.2.2.2.2.2.2.2.2.2.1, x7.2.2.1.2.2.2.2.2.2.2.2.2.2.2.2.2.2.1, x7.2.2.1.2.2.2.2.2.2.2.2.2.2.2.2.2.2.2.1, x7.2.2.1.2.2.2.2.2.2.2.2.2.2.2.2.2.2.2.2.1, x7.2.2.1.2.2.2.2.2.2.2.2.2.2.2.2.2.2.2.2.2.1, ()), ())))) fun x8 =>
  Option.bind (α := ((Unit × (Unit × Unit)) × (Job × ((Int × (Int × (Int × (Int × (Int × (Int × (Int × (Int × (Int × (Unit × (Int × (Bool × (Bool × (Int × (Int × (Int × (Int × (Int × Unit)))))))))))))))))) × Unit))))
    (cond (decide (what1 = 7))
      (cond (decide (j0.state = 3))
        (some (((), (), ()), (Job.mk x8.2.1.id x8.2.1.user x8.2.1.queue x8.2.1.many x8.2.1.need x8.2.1.wall x8.2.1.after x8.2.1.state false false x8.2.1.version x8.2.1.born x8.2.1.start x8.2.1.fin x8.2.1.array, (x8.2.2.1.1, x8.2.2.1.2.1, x8.2.2.1.2.2.1, x8.2.2.1.2.2.2.1, x8.2.2.1.2.2.2.2.1, x8.2.2.1.2.2.2.2.2.1, x8.2.2.1.2.2.2.2.2.2.1, x8.2.2.1.2.2.2.2.2.2.2.1, x8.2.2.1.2.2.2.2.2.2.2.2.1, (), x8.2.2.1.2.2.2.2.2.2.2.2.2.2.1, x8.2.2.1.2.2.2.2.2.2.2.2.2.2.2.1, x8.2.2.1.2.2.2.2.2.2.2.2.2.2.2.2.1, x8.2.2.1.2.2.2.2.2.2.2.2.2.2.2.2.2.1, x8.2.2.1.2.2.2.2.2.2.2.2.2.2.2.2.2.2.1, x8.2.2.1.2.2.2.2.2.2.2.2.2.2.2.2.2.2.2.1, x8.2.2.1.2.2.2.2.2.2.2.2.2.2.2.2.2.2.2.2.1, x8.2.2.1.2.2.2.2.2.2.2.2.2.2.2.2.2.2.2.2.2.1, ()), ())))
        (some (((), (), ()), (Job.mk x8.2.1.id x8.2.1.user x8.2.1.queue x8.2.1.many x8.2.1.need x8.2.1.wall x8.2.1.after x8.2.1.state x8.2.1.ok false x8.2.1.version x8.2.1.born x8.2.1.start x8.2.1.fin x8.2.1.array, (x8.2.2.1.1, x8.2.2.1.2.1, x8.2.2.1.2.2.1, x8.2.2.1.2.2.2.1, x8.2.2.1.2.2.2.2.1, x8.2.2.1.2.2.2.2.2.1, x8.2.2.1.2.2.2.2.2.2.1, x8.2.2.1.2.2.2.2.2.2.2.1, x8.2.2.1.2.2.2.2.2.2.2.2.1, (), x8.2.2.1.2.2.2.2.2.2.2.2.2.2.1, x8.2.2.1.2.2.2.2.2.2.2.2.2.2.2.1, x8.2.2.1.2.2.2.2.2.2.2.2.2.2.2.2.1, x8.2.2.1.2.2.2.2.2.2.2.2.2.2.2.2.2.1, x8.2.2.1.2.2.2.2.2.2.2.2.2.2.2.2.2.2.1, x8.2.2.1.2.2.2.2.2.2.2.2.2.2.2.2.2.2.2.1, x8.2.2.1.2.2.2.2.2.2.2.2.2.2.2.2.2.2.2.2.1, x8.2.2.1.2.2.2.2.2.2.2.2.2.2.2.2.2.2.2.2.2.1, ()), ()))))
      (some (((), (), ()), (x8.2.1, (x8.2.2.1.1, x8.2.2.1.2.1, x8.2.2.1.2.2.1, x8.2.2.1.2.2.2.1, x8.2.2.1.2.2.2.2.1, x8.2.2.1.2.2.2.2.2.1, x8.2.2.1.2.2.2.2.2.2.1, x8.2.2.1.2.2.2.2.2.2.2.1, x8.2.2.1.2.2.2.2.2.2.2.2.1, (), x8.2.2.1.2.2.2.2.2.2.2.2.2.2.1, x8.2.2.1.2.2.2.2.2.2.2.2.2.2.2.1, x8.2.2.1.2.2.2.2.2.2.2.2.2.2.2.2.1, x8.2.2.1.2.2.2.2.2.2.2.2.2.2.2.2.2.1, x8.2.2.1.2.2.2.2.2.2.2.2.2.2.2.2.2.2.1, x8.2.2.1.2.2.2.2.2.2.2.2.2.2.2.2.2.2.2.1, x8.2.2.1.2.2.2.2.2.2.2.2.2.2.2.2.2.2.2.2.1, x8.2.2.1.2.2.2.2.2.2.2.2.2.2.2.2.2.2.2.2.2.1, ()), ())))) fun x9 =>
  cond (decide (what1 = 8))
    (cond (decide (5 ≤ x9.2.1.state))
      (some (Job.mk x9.2.1.id x9.2.1.user x9.2.1.queue x9.2.1.many x9.2.1.need x9.2.1.wall x9.2.1.after x9.2.1.state false x9.2.1.kill x9.2.1.version x9.2.1.born x9.2.1.start now2 x9.2.1.array))
      (some (Job.mk x9.2.1.id x9.2.1.user x9.2.1.queue x9.2.1.many x9.2.1.need x9.2.1.wall x9.2.1.after x9.2.1.state false x9.2.1.kill x9.2.1.version x9.2.1.born x9.2.1.start x9.2.1.fin x9.2.1.array)))
    (cond (decide (5 ≤ x9.2.1.state))
      (some (Job.mk x9.2.1.id x9.2.1.user x9.2.1.queue x9.2.1.many x9.2.1.need x9.2.1.wall x9.2.1.after x9.2.1.state x9.2.1.ok x9.2.1.kill x9.2.1.version x9.2.1.born x9.2.1.start now2 x9.2.1.array))
      (some x9.2.1))
theorem e28 (L : Lp) (g27 : Int → Int → Option Int) (x : s28.args.den) (h : denH s28.heap) : nrun [⟨27, s27, fun x h => g27 x.1 x.2.1⟩] L n28 s28 x h = F28 L g27 x.1 x.2.1 x.2.2.1 x.2.2.2.1 := by kernel_rfl
def f28 : Job → Int → Int → Bool → Option Job := F28 (@LN LOOPS) f27
@[reducible] def t28 : Ent := ⟨28, s28, fun x h => f28 x.1 x.2.1 x.2.2.1 x.2.2.2.1⟩
theorem k28 : chkNF Try.prog Try.f28 n28 = true := by kernel_rfl
theorem ok28 : NOk Try.prog t28 := NOk.body (T := [t27]) mixed (nall_cons ok27 nall_nil) (oneEach_of (by kernel_rfl)) Try.func28 k28 (by kernel_rfl) (fun x h => e28 _ _ x h)
/- drayage/drayagelaw16.JobSteps -/
def n5 : NFunc := ⟨116, .seq (.region 2 [
    ⟨(some 3), .box 18 (.tmp 0), none, 0, none⟩,
    ⟨(some 5), .box 2 (.tmp 2), none, 1, none⟩,
    ⟨(some 6), .move (.const (.bool false)), none, 2, none⟩] []) (.seq (.seq (.region 4 [
    ⟨(some 12), .call (.func 21) [] false 4, none, 0, none⟩,
    ⟨(some 13), .un .not (.tmp 12), none, 4, none⟩] []) (.cond (.tmp 13) (.seq (.region 0 [
    ⟨(some 6), .move (.const (.bool false)), none, 0, none⟩] []) (.ret)) (.skip))) (.seq (.seq (.region 0 [
    ⟨(some 14), .fieldAddr 9 (.tmp 3), none, 0, none⟩,
    ⟨(some 15), .load false 1 (.tmp 14), none, 0, none⟩,
    ⟨(some 16), .len (.tmp 15), none, 0, none⟩,
    ⟨(some 17), .bin .gtr (.tmp 16) (.const (.int .i64 (30))), none, 0, none⟩,
    ⟨(some 18), .move (.tmp 17), none, 0, none⟩,
    ⟨(some 19), .move (.tmp 1), (some (18, false)), 0, none⟩,
    ⟨(some 20), .len (.tmp 19), (some (18, false)), 0, none⟩,
    ⟨(some 21), .bin .gtr (.tmp 20) (.const (.int .i64 (60))), (some (18, false)), 0, none⟩,
    ⟨(some 22), .pick (.tmp 18) (.const (.bool true)) (.tmp 21), none, 0, none⟩] []) (.cond (.tmp 22) (.seq (.region 0 [
    ⟨(some 6), .move (.const (.bool true)), none, 0, none⟩] []) (.ret)) (.skip))) (.seq (.region 0 [
    ⟨(some 23), .indexArr 2 1 (.tmp 5) (.const (.int .i64 (0))), none, 0, none⟩,
    ⟨(some 24), .load false 1 (.tmp 23), none, 0, none⟩,
    ⟨(some 7), .move (.tmp 24), none, 0, none⟩] []) (.seq (.seq (.region 0 [
    ⟨(some 25), .move (.tmp 1), none, 0, none⟩,
    ⟨(some 26), .len (.tmp 25), none, 0, none⟩,
    ⟨(some 27), .move (.const (.int .i64 (0))), none, 0, none⟩] []) (.block 0 (.loop [3, 5, 7, 25, 26, 27] ⟨[(3, (.ptr 0 0 0)), (5, (.ptr 1 0 0)), (27, (.v (.int .i64)))], [7, 25, 26], [.one false .job, .one false (.pair (.int .i64) (.int .i64))]⟩ (.seq (.region 0 [
    ⟨(some 28), .bin .lss (.tmp 27) (.tmp 26), none, 0, none⟩] []) (.seq (.cond (.tmp 28) (.skip) (.exit 0)) (.seq (.block 1 (.seq (.region 0 [
    ⟨(some 29), .indexSl 1 (.tmp 25) (.tmp 27), none, 0, none⟩,
    ⟨(some 30), .load false 1 (.tmp 29), none, 0, none⟩,
    ⟨(some 9), .move (.tmp 30), none, 0, none⟩] []) (.seq (.region 5 [
    ⟨(some 32), .load true 18 (.tmp 3), none, 0, none⟩,
    ⟨(some 33), .move (.tmp 9), none, 0, none⟩,
    ⟨(some 34), .move (.tmp 7), none, 0, none⟩,
    ⟨(some 35), .indexArr 2 1 (.tmp 5) (.const (.int .i64 (1))), none, 0, none⟩,
    ⟨(some 36), .load false 1 (.tmp 35), none, 0, none⟩,
    ⟨(some 37), .bin .rem (.tmp 36) (.const (.int .i64 (2))), none, 0, none⟩,
    ⟨(some 38), .bin .eql (.tmp 37) (.const (.int .i64 (0))), none, 0, none⟩,
    ⟨(some 39), .call (.func 26) [(false, (.tmp 32)), (false, (.tmp 33)), (false, (.tmp 34)), (false, (.tmp 38))] false 4, none, 0, none⟩,
    ⟨(some 31), .move (.tmp 39), none, 4, none⟩,
    ⟨(some 40), .extract (.tmp 31) 0, none, 4, none⟩,
    ⟨(some 41), .extract (.tmp 31) 1, none, 4, none⟩,
    ⟨(some 10), .alloc [.int .i64 (0), .int .i64 (0), .int .i64 (0), .int .i64 (0), .int .i64 (0), .int .i64 (0), .int .i64 (0), .int .i64 (0), .int .i64 (0), .zsl, .int .i64 (0), .bool false, .bool false, .int .i64 (0), .int .i64 (0), .int .i64 (0), .int .i64 (0), .int .i64 (0)], none, 4, none⟩,
    ⟨none, .store 18 (.tmp 10) (.tmp 40), none, 5, none⟩,
    ⟨(some 11), .move (.tmp 41), none, 5, none⟩] []) (.seq (.block 2 (.seq (.meet [10, 11, 3, 5, 7, 25, 26, 27, 9, 42] [] ⟨[(3, (.ptr 0 0 0)), (5, (.ptr 1 0 0)), (10, (.ptr 2 0 0)), (42, (.v .bool))], [7, 9, 11, 25, 26, 27], [.one false .job, .one false (.pair (.int .i64) (.int .i64)), .one false .job]⟩ (.region 4 [
    ⟨(some 43), .load true 18 (.tmp 3), none, 0, none⟩,
    ⟨(some 44), .call (.func 24) [(false, (.tmp 43))] false 4, none, 0, none⟩,
    ⟨(some 45), .un .not (.tmp 44), none, 4, none⟩,
    ⟨(some 46), .move (.tmp 45), none, 4, none⟩,
    ⟨(some 47), .move (.tmp 7), (some (46, false)), 4, none⟩,
    ⟨(some 48), .bin .lss (.tmp 47) (.const (.int .i64 (0))), (some (46, false)), 4, none⟩,
    ⟨(some 49), .pick (.tmp 46) (.const (.bool true)) (.tmp 48), none, 4, none⟩,
    ⟨(some 50), .move (.tmp 49), none, 4, none⟩,
    ⟨(some 51), .move (.tmp 7), (some (50, false)), 4, none⟩,
    ⟨(some 52), .bin .gtr (.tmp 51) (.const (.int .i64 (1099511627776))), (some (50, false)), 4, none⟩,
    ⟨(some 53), .pick (.tmp 50) (.const (.bool true)) (.tmp 52), none, 4, none⟩,
    ⟨(some 42), .move (.tmp 53), none, 4, none⟩] [])) (.cond (.tmp 42) (.seq (.region 4 [
    ⟨(some 54), .move (.tmp 11), none, 0, none⟩,
    ⟨(some 55), .bin .eql (.tmp 54) (.const (.int .i64 (2))), none, 0, none⟩,
    ⟨(some 56), .move (.tmp 55), none, 0, none⟩,
    ⟨(some 57), .load true 18 (.tmp 10), (some (56, true)), 0, none⟩,
    ⟨(some 58), .build [.int .i64 (0), .int .i64 (0), .int .i64 (0), .int .i64 (0), .int .i64 (0), .int .i64 (0), .int .i64 (0), .int .i64 (0), .int .i64 (0), .zsl, .int .i64 (0), .bool false, .bool false, .int .i64 (0), .int .i64 (0), .int .i64 (0), .int .i64 (0), .int .i64 (0)] [], (some (56, true)), 0, none⟩,
    ⟨(some 59), .call (.func 25) [(false, (.tmp 57)), (false, (.tmp 58))] false 4, (some (56, true)), 0, none⟩,
    ⟨(some 60), .pick (.tmp 56) (.tmp 59) (.const (.bool false)), none, 4, none⟩,
    ⟨(some 6), .move (.tmp 60), none, 4, none⟩] []) (.ret)) (.seq (.region 4 [
    ⟨(some 62), .fieldAddr 10 (.tmp 3), none, 0, none⟩,
    ⟨(some 63), .load false 1 (.tmp 62), none, 0, none⟩,
    ⟨(some 64), .move (.tmp 9), none, 0, none⟩,
    ⟨(some 65), .call (.func 27) [(false, (.tmp 63)), (false, (.tmp 64))] false 4, none, 0, none⟩,
    ⟨(some 66), .bin .eql (.tmp 65) (.const (.int .i64 (0))), none, 4, none⟩,
    ⟨(some 61), .move (.tmp 66), none, 4, none⟩] []) (.cond (.tmp 61) (.seq (.seq (.region 4 [
    ⟨(some 67), .move (.tmp 11), none, 0, none⟩,
    ⟨(some 68), .bin .neq (.tmp 67) (.const (.int .i64 (31))), none, 0, none⟩,
    ⟨(some 69), .move (.tmp 68), none, 0, none⟩,
    ⟨(some 70), .load true 18 (.tmp 10), (some (69, false)), 0, none⟩,
    ⟨(some 71), .build [.int .i64 (0), .int .i64 (0), .int .i64 (0), .int .i64 (0), .int .i64 (0), .int .i64 (0), .int .i64 (0), .int .i64 (0), .int .i64 (0), .zsl, .int .i64 (0), .bool false, .bool false, .int .i64 (0), .int .i64 (0), .int .i64 (0), .int .i64 (0), .int .i64 (0)] [], (some (69, false)), 0, none⟩,
    ⟨(some 72), .call (.func 25) [(false, (.tmp 70)), (false, (.tmp 71))] false 4, (some (69, false)), 0, none⟩,
    ⟨(some 73), .un .not (.tmp 72), (some (69, false)), 4, none⟩,
    ⟨(some 74), .pick (.tmp 69) (.const (.bool true)) (.tmp 73), none, 4, none⟩] []) (.cond (.tmp 74) (.seq (.region 0 [
    ⟨(some 6), .move (.const (.bool false)), none, 0, none⟩] []) (.ret)) (.skip))) (.exit 1)) (.seq (.region 0 [
    ⟨(some 76), .fieldAddr 13 (.tmp 3), none, 0, none⟩,
    ⟨(some 77), .load false 1 (.tmp 76), none, 0, none⟩,
    ⟨(some 78), .bin .eql (.tmp 77) (.const (.int .i64 (281474976710656))), none, 0, none⟩,
    ⟨(some 75), .move (.tmp 78), none, 0, none⟩] []) (.cond (.tmp 75) (.seq (.region 4 [
    ⟨(some 79), .move (.tmp 11), none, 0, none⟩,
    ⟨(some 80), .bin .eql (.tmp 79) (.const (.int .i64 (41))), none, 0, none⟩,
    ⟨(some 81), .move (.tmp 80), none, 0, none⟩,
    ⟨(some 82), .load true 18 (.tmp 10), (some (81, true)), 0, none⟩,
    ⟨(some 83), .build [.int .i64 (0), .int .i64 (0), .int .i64 (0), .int .i64 (0), .int .i64 (0), .int .i64 (0), .int .i64 (0), .int .i64 (0), .int .i64 (0), .zsl, .int .i64 (0), .bool false, .bool false, .int .i64 (0), .int .i64 (0), .int .i64 (0), .int .i64 (0), .int .i64 (0)] [], (some (81, true)), 0, none⟩,
    ⟨(some 84), .call (.func 25) [(false, (.tmp 82)), (false, (.tmp 83))] false 4, (some (81, true)), 0, none⟩,
    ⟨(some 85), .pick (.tmp 81) (.tmp 84) (.const (.bool false)), none, 4, none⟩,
    ⟨(some 6), .move (.tmp 85), none, 4, none⟩] []) (.ret)) (.skip)))))))) (.seq (.seq (.region 12 [
    ⟨(some 86), .move (.tmp 11), none, 0, (some [])⟩,
    ⟨(some 87), .bin .neq (.tmp 86) (.const (.int .i64 (0))), none, 0, (some [])⟩,
    ⟨(some 88), .move (.tmp 87), none, 0, (some [])⟩,
    ⟨(some 89), .load true 18 (.tmp 10), (some (88, false)), 0, (some [])⟩,
    ⟨(some 90), .load true 18 (.tmp 3), (some (88, false)), 0, (some [])⟩,
    ⟨(some 91), .move (.tmp 9), (some (88, false)), 0, (some [])⟩,
    ⟨(some 92), .move (.tmp 7), (some (88, false)), 0, (some [])⟩,
    ⟨(some 93), .indexArr 2 1 (.tmp 5) (.const (.int .i64 (1))), (some (88, false)), 0, (some [])⟩,
    ⟨(some 94), .load false 1 (.tmp 93), (some (88, false)), 0, (some [])⟩,
    ⟨(some 95), .bin .rem (.tmp 94) (.const (.int .i64 (2))), (some (88, false)), 0, (some [])⟩,
    ⟨(some 96), .bin .eql (.tmp 95) (.const (.int .i64 (0))), (some (88, false)), 0, (some [])⟩,
    ⟨(some 97), .call (.func 28) [(false, (.tmp 90)), (false, (.tmp 91)), (false, (.tmp 92)), (false, (.tmp 96))] true 4, (some (88, false)), 0, (some [])⟩,
    ⟨(some 98), .call (.func 25) [(false, (.tmp 89)), (false, (.tmp 97))] false 4, (some (88, false)), 4, (some [0, 1, 2, 3])⟩,
    ⟨(some 99), .un .not (.tmp 98), (some (88, false)), 8, (some [0, 1, 2, 3, 4, 5, 6, 7])⟩,
    ⟨(some 100), .pick (.tmp 88) (.const (.bool true)) (.tmp 99), none, 8, (some [0, 1, 2, 3, 4, 5, 6, 7])⟩,
    ⟨(some 101), .move (.tmp 100), none, 8, (some [0, 1, 2, 3, 4, 5, 6, 7])⟩,
    ⟨(some 102), .load true 18 (.tmp 10), (some (101, false)), 8, (some [0, 1, 2, 3, 4, 5, 6, 7])⟩,
    ⟨(some 103), .call (.func 29) [(false, (.tmp 102))] false 4, (some (101, false)), 8, (some [0, 1, 2, 3, 4, 5, 6, 7])⟩,
    ⟨(some 104), .un .not (.tmp 103), (some (101, false)), 12, (some [0, 1, 2, 3, 4, 5, 6, 7, 8, 9, 10, 11])⟩,
    ⟨(some 105), .pick (.tmp 101) (.const (.bool true)) (.tmp 104), none, 12, (some [0, 1, 2, 3, 4, 5, 6, 7, 8, 9, 10, 11])⟩,
    ⟨(some 106), .move (.tmp 105), none, 12, (some [0, 1, 2, 3, 4, 5, 6, 7, 8, 9, 10, 11])⟩,
    ⟨(some 107), .fieldAddr 13 (.tmp 10), (some (106, false)), 12, (some [0, 1, 2, 3, 4, 5, 6, 7, 8, 9, 10, 11])⟩,
    ⟨(some 108), .load false 1 (.tmp 107), (some (106, false)), 12, (some [0, 1, 2, 3, 4, 5, 6, 7, 8, 9, 10, 11])⟩,
    ⟨(some 109), .fieldAddr 13 (.tmp 3), (some (106, false)), 12, (some [0, 1, 2, 3, 4, 5, 6, 7, 8, 9, 10, 11])⟩,
    ⟨(some 110), .load false 1 (.tmp 109), (some (106, false)), 12, (some [0, 1, 2, 3, 4, 5, 6, 7, 8, 9, 10, 11])⟩,
    ⟨(some 111), .bin .add (.tmp 110) (.const (.int .i64 (1))), (some (106, false)), 12, (some [0, 1, 2, 3, 4, 5, 6, 7, 8, 9, 10, 11])⟩,
    ⟨(some 112), .bin .neq (.tmp 108) (.tmp 111), (some (106, false)), 12, (some [0, 1, 2, 3, 4, 5, 6, 7, 8, 9, 10, 11])⟩,
    ⟨(some 113), .pick (.tmp 106) (.const (.bool true)) (.tmp 112), none, 12, (some [0, 1, 2, 3, 4, 5, 6, 7, 8, 9, 10, 11])⟩] []) (.cond (.tmp 113) (.seq (.region 0 [
    ⟨(some 6), .move (.const (.bool false)), none, 0, none⟩] []) (.ret)) (.skip))) (.region 0 [
    ⟨(some 114), .load true 18 (.tmp 10), none, 0, none⟩,
    ⟨none, .store 18 (.tmp 3) (.tmp 114), none, 0, none⟩] [])))))) (.region 0 [
    ⟨(some 115), .bin .add (.tmp 27) (.const (.int .i64 (1))), none, 0, none⟩,
    ⟨(some 27), .move (.tmp 115), none, 0, none⟩] []))))))) (.seq (.region 0 [
    ⟨(some 6), .move (.const (.bool true)), none, 0, none⟩] []) (.ret)))))), [.tmp 6], true⟩
def s5 : Sig := ⟨(.cons (.v .job) (.cons (.v (.list (.int .i64))) (.cons (.v (.pair (.int .i64) (.int .i64))) .nil))), [], ((.v .bool), []), []⟩
def l5_0 (g26 : Job → Int → Int → Bool → Option (Job × (Int × Unit))) (g24 : Job → Option Bool) (g25 : Job → Job → Option Bool) (g27 : Int → Int → Option Int) (g28 : Job → Int → Int → Bool → Option Job) (g29 : Job → Option Bool) (al1 : (List Int)) (ax2 : (Int × Int)) (next : ((Unit × (Unit × (Int × Unit))) × (Job × ((Int × Int) × Unit))) → Option Bool) (z5 : Int) (z6 : Job) (z7 : (Int × Int)) : Option Bool :=
  cond (decide (z5 < (List.length al1 : Int)))
    (cond (decide (0 ≤ z5))
      (Option.bind (al1[Int.toNat z5]?) fun y8 =>
      Option.bind (g26 z6 y8 ax2.1 (decide ((Int.tmod z7.2 2) = 0))) fun r9 =>
      Option.bind (α := ((Unit × (Unit × (Unit × (Bool × Unit)))) × (Job × ((Int × Int) × (Job × Unit)))))
        (Option.bind (g24 z6) fun r10 =>
        cond (!r10)
          (some (((), (), (), true, ()), (z6, z7, r9.1, ())))
          (cond (decide (ax2.1 < 0))
            (some (((), (), (), true, ()), (z6, z7, r9.1, ())))
            (some (((), (), (), decide (1099511627776 < ax2.1), ()), (z6, z7, r9.1, ()))))) fun x11 =>
      cond x11.1.2.2.2.1
        (cond (decide (r9.2.1 = 2))
          (Option.bind (g25 x11.2.2.2.1 (Job.mk 0 0 0 0 (Res.mk 0 0 0 0) 0 [] 0 false false 0 0 0 0 0)) fun r12 =>
          some r12)
          (some false))
        (Option.bind (g27 x11.2.1.state y8) fun r13 =>
        cond (decide (r13 = 0))
          (cond (!decide (r9.2.1 = 31))
            (some false)
            (Option.bind (g25 x11.2.2.2.1 (Job.mk 0 0 0 0 (Res.mk 0 0 0 0) 0 [] 0 false false 0 0 0 0 0)) fun r14 =>
            cond (!r14)
              (some false)
              (next (((), (), IntKind.wrap .i64 (z5 + 1), ()), (x11.2.1, x11.2.2.1, ())))))
          (cond (decide (x11.2.1.version = 281474976710656))
            (cond (decide (r9.2.1 = 41))
              (Option.bind (g25 x11.2.2.2.1 (Job.mk 0 0 0 0 (Res.mk 0 0 0 0) 0 [] 0 false false 0 0 0 0 0)) fun r15 =>
              some r15)
              (some false))
            (cond (!decide (r9.2.1 = 0))
              (some false)
              (Option.bind (g28 x11.2.1 y8 ax2.1 (decide ((Int.tmod x11.2.2.1.2 2) = 0))) fun r16 =>
              Option.bind (g25 x11.2.2.2.1 r16) fun r17 =>
              cond (!r17)
                (some false)
                (Option.bind (g29 x11.2.2.2.1) fun r18 =>
                cond (!r18)
                  (some false)
                  (cond (!decide (x11.2.2.2.1.version = (IntKind.wrap .i64 (x11.2.1.version + 1))))
                    (some false)
                    (next (((), (), IntKind.wrap .i64 (z5 + 1), ()), (x11.2.2.2.1, x11.2.2.1, ()))))))))))
      (none))
    (some true)
def F5 (L : Lp) (g21 : Option Bool) (g26 : Job → Int → Int → Bool → Option (Job × (Int × Unit))) (g24 : Job → Option Bool) (g25 : Job → Job → Option Bool) (g27 : Int → Int → Option Int) (g28 : Job → Int → Int → Bool → Option Job) (g29 : Job → Option Bool) (j0 : Job) (al1 : (List Int)) (ax2 : (Int × Int)) : Option Bool :=
  Option.bind (g21) fun r3 =>
  cond (!r3)
    (some false)
    (cond (decide (30 < (List.length j0.after : Int)))
      (some true)
      (cond (decide (60 < (List.length al1 : Int)))
        (some true)
        (L (fun (s4 : ((Unit × (Unit × (Int × Unit))) × (Job × ((Int × Int) × Unit)))) next => l5_0 g26 g24 g25 g27 g28 g29 al1 ax2 next s4.1.2.2.1 s4.2.1 s4.2.2.1) (((), (), 0, ()), (j0, ax2, ())))))
theorem e5 (L : Lp) (g21 : Option Bool) (g26 : Job → Int → Int → Bool → Option (Job × (Int × Unit))) (g24 : Job → Option Bool) (g25 : Job → Job → Option Bool) (g27 : Int → Int → Option Int) (g28 : Job → Int → Int → Bool → Option Job) (g29 : Job → Option Bool) (x : s5.args.den) (h : denH s5.heap) : nrun [⟨21, s21, fun x h => g21 ⟩, ⟨26, s26, fun x h => g26 x.1 x.2.1 x.2.2.1 x.2.2.2.1⟩, ⟨24, s24, fun x h => g24 x.1⟩, ⟨25, s25, fun x h => g25 x.1 x.2.1⟩, ⟨27, s27, fun x h => g27 x.1 x.2.1⟩, ⟨28, s28, fun x h => g28 x.1 x.2.1 x.2.2.1 x.2.2.2.1⟩, ⟨29, s29, fun x h => g29 x.1⟩] L n5 s5 x h = F5 L g21 g26 g24 g25 g27 g28 g29 x.1 x.2.1 x.2.2.1 := by kernel_rfl
def f5 : Job → (List Int) → (Int × Int) → Option Bool := F5 (@LN LOOPS) f21 f26 f24 f25 f27 f28 f29
@[reducible] def t5 : Ent := ⟨5, s5, fun x h => f5 x.1 x.2.1 x.2.2.1⟩
theorem k5 : chkNF Try.prog Try.f5 n5 = true := by kernel_rfl
theorem ok5 : NOk Try.prog t5 := NOk.body (T := [t21, t26, t24, t25, t27, t28, t29]) mixed (nall_cons ok21 (nall_cons ok26 (nall_cons ok24 (nall_cons ok25 (nall_cons ok27 (nall_cons ok28 (nall_cons ok29 nall_nil))))))) (oneEach_of (by kernel_rfl)) Try.func5 k5 (by kernel_rfl) (fun x h => e5 _ _ _ _ _ _ _ _ x h)
/- drayage/drayageref16.Until -/
def n31 : NFunc := ⟨20, .seq (.region 1 [
    ⟨(some 1), .box 18 (.tmp 0), none, 0, none⟩,
    ⟨(some 2), .move (.const (.int .i64 (0))), none, 1, none⟩] []) (.seq (.seq (.region 4 [
    ⟨(some 3), .load true 18 (.tmp 1), none, 0, none⟩,
    ⟨(some 4), .call (.func 24) [(false, (.tmp 3))] false 4, none, 0, none⟩,
    ⟨(some 5), .move (.tmp 4), none, 4, none⟩,
    ⟨(some 6), .fieldAddr 10 (.tmp 1), (some (5, true)), 4, none⟩,
    ⟨(some 7), .load false 1 (.tmp 6), (some (5, true)), 4, none⟩,
    ⟨(some 8), .bin .eql (.tmp 7) (.const (.int .i64 (3))), (some (5, true)), 4, none⟩,
    ⟨(some 9), .move (.tmp 8), (some (5, true)), 4, none⟩,
    ⟨(some 10), .fieldAddr 10 (.tmp 1), (some (9, false)), 4, none⟩,
    ⟨(some 11), .load false 1 (.tmp 10), (some (9, false)), 4, none⟩,
    ⟨(some 12), .bin .eql (.tmp 11) (.const (.int .i64 (4))), (some (9, false)), 4, none⟩,
    ⟨(some 13), .pick (.tmp 9) (.const (.bool true)) (.tmp 12), (some (5, true)), 4, none⟩,
    ⟨(some 14), .pick (.tmp 5) (.tmp 13) (.const (.bool false)), none, 4, none⟩] []) (.cond (.tmp 14) (.seq (.region 0 [
    ⟨(some 15), .fieldAddr 15 (.tmp 1), none, 0, none⟩,
    ⟨(some 16), .load false 1 (.tmp 15), none, 0, none⟩,
    ⟨(some 17), .fieldAddr 8 (.tmp 1), none, 0, none⟩,
    ⟨(some 18), .load false 1 (.tmp 17), none, 0, none⟩,
    ⟨(some 19), .bin .add (.tmp 16) (.tmp 18), none, 0, none⟩,
    ⟨(some 2), .move (.tmp 19), none, 0, none⟩] []) (.ret)) (.skip))) (.seq (.region 0 [
    ⟨(some 2), .move (.const (.int .i64 (0))), none, 0, none⟩] []) (.ret))), [.tmp 2], true⟩
def s31 : Sig := ⟨(.cons (.v .job) .nil), [], ((.v (.int .i64)), []), []⟩
def F31 (L : Lp) (g24 : Job → Option Bool) (j0 : Job) : Option Int :=
  Option.bind (g24 j0) fun r1 =>
  cond r1
    (cond (decide (j0.state = 3))
      (some (IntKind.wrap .i64 (j0.start + j0.wall)))
      (cond (decide (j0.state = 4))
        (some (IntKind.wrap .i64 (j0.start + j0.wall)))
        (some 0)))
    (some 0)
theorem e31 (L : Lp) (g24 : Job → Option Bool) (x : s31.args.den) (h : denH s31.heap) : nrun [⟨24, s24, fun x h => g24 x.1⟩] L n31 s31 x h = F31 L g24 x.1 := by kernel_rfl
def f31 : Job → Option Int := F31 (@LN LOOPS) f24
@[reducible] def t31 : Ent := ⟨31, s31, fun x h => f31 x.1⟩
theorem k31 : chkNF Try.prog Try.f31 n31 = true := by kernel_rfl
theorem ok31 : NOk Try.prog t31 := NOk.body (T := [t24]) mixed (nall_cons ok24 nall_nil) (oneEach_of (by kernel_rfl)) Try.func31 k31 (by kernel_rfl) (fun x h => e31 _ _ x h)
/- drayage/job.Charge -/
def n32 : NFunc := ⟨18, .seq (.region 1 [
    ⟨(some 1), .box 18 (.tmp 0), none, 0, none⟩,
    ⟨(some 2), .move (.const (.int .i64 (0))), none, 1, none⟩] []) (.seq (.seq (.region 8 [
    ⟨(some 3), .load true 18 (.tmp 1), none, 0, none⟩,
    ⟨(some 4), .call (.func 29) [(false, (.tmp 3))] false 4, none, 0, none⟩,
    ⟨(some 5), .un .not (.tmp 4), none, 4, none⟩,
    ⟨(some 6), .move (.tmp 5), none, 4, none⟩,
    ⟨(some 7), .fieldAddr 10 (.tmp 1), (some (6, false)), 4, none⟩,
    ⟨(some 8), .load false 1 (.tmp 7), (some (6, false)), 4, none⟩,
    ⟨(some 9), .call (.func 90) [(false, (.tmp 8))] false 4, (some (6, false)), 4, none⟩,
    ⟨(some 10), .un .not (.tmp 9), (some (6, false)), 8, none⟩,
    ⟨(some 11), .pick (.tmp 6) (.const (.bool true)) (.tmp 10), none, 8, none⟩] []) (.cond (.tmp 11) (.seq (.region 0 [
    ⟨(some 2), .move (.const (.int .i64 (0))), none, 0, none⟩] []) (.ret)) (.skip))) (.seq (.region 0 [
    ⟨(some 12), .fieldAddr 3 (.tmp 1), none, 0, none⟩,
    ⟨(some 13), .load false 1 (.tmp 12), none, 0, none⟩,
    ⟨(some 14), .fieldAddr 4 (.tmp 1), none, 0, none⟩,
    ⟨(some 15), .fieldAddr 0 (.tmp 14), none, 0, none⟩,
    ⟨(some 16), .load false 1 (.tmp 15), none, 0, none⟩,
    ⟨(some 17), .bin .mul (.tmp 13) (.tmp 16), none, 0, none⟩,
    ⟨(some 2), .move (.tmp 17), none, 0, none⟩] []) (.ret))), [.tmp 2], true⟩
def s32 : Sig := ⟨(.cons (.v .job) .nil), [], ((.v (.int .i64)), []), []⟩
def F32 (L : Lp) (g29 : Job → Option Bool) (g90 : Int → Option Bool) (j0 : Job) : Option Int :=
  Option.bind (g29 j0) fun r1 =>
  cond (!r1)
    (some 0)
    (Option.bind (g90 j0.state) fun r2 =>
    cond (!r2)
      (some 0)
      (some (IntKind.wrap .i64 (j0.many * j0.need.cpu))))
theorem e32 (L : Lp) (g29 : Job → Option Bool) (g90 : Int → Option Bool) (x : s32.args.den) (h : denH s32.heap) : nrun [⟨29, s29, fun x h => g29 x.1⟩, ⟨90, s90, fun x h => g90 x.1⟩] L n32 s32 x h = F32 L g29 g90 x.1 := by kernel_rfl
def f32 : Job → Option Int := F32 (@LN LOOPS) f29 f90
@[reducible] def t32 : Ent := ⟨32, s32, fun x h => f32 x.1⟩
theorem k32 : chkNF Try.prog Try.f32 n32 = true := by kernel_rfl
theorem ok32 : NOk Try.prog t32 := NOk.body (T := [t29, t90]) mixed (nall_cons ok29 (nall_cons ok90 nall_nil)) (oneEach_of (by kernel_rfl)) Try.func32 k32 (by kernel_rfl) (fun x h => e32 _ _ _ x h)
/- drayage/drayageref16.Charge -/
def n33 : NFunc := ⟨21, .seq (.region 1 [
    ⟨(some 1), .box 18 (.tmp 0), none, 0, none⟩,
    ⟨(some 2), .move (.const (.int .i64 (0))), none, 1, none⟩] []) (.seq (.seq (.region 4 [
    ⟨(some 3), .load true 18 (.tmp 1), none, 0, none⟩,
    ⟨(some 4), .call (.func 24) [(false, (.tmp 3))] false 4, none, 0, none⟩,
    ⟨(some 5), .move (.tmp 4), none, 4, none⟩,
    ⟨(some 6), .fieldAddr 10 (.tmp 1), (some (5, true)), 4, none⟩,
    ⟨(some 7), .load false 1 (.tmp 6), (some (5, true)), 4, none⟩,
    ⟨(some 8), .bin .eql (.tmp 7) (.const (.int .i64 (3))), (some (5, true)), 4, none⟩,
    ⟨(some 9), .move (.tmp 8), (some (5, true)), 4, none⟩,
    ⟨(some 10), .fieldAddr 10 (.tmp 1), (some (9, false)), 4, none⟩,
    ⟨(some 11), .load false 1 (.tmp 10), (some (9, false)), 4, none⟩,
    ⟨(some 12), .bin .eql (.tmp 11) (.const (.int .i64 (4))), (some (9, false)), 4, none⟩,
    ⟨(some 13), .pick (.tmp 9) (.const (.bool true)) (.tmp 12), (some (5, true)), 4, none⟩,
    ⟨(some 14), .pick (.tmp 5) (.tmp 13) (.const (.bool false)), none, 4, none⟩] []) (.cond (.tmp 14) (.seq (.region 0 [
    ⟨(some 15), .fieldAddr 3 (.tmp 1), none, 0, none⟩,
    ⟨(some 16), .load false 1 (.tmp 15), none, 0, none⟩,
    ⟨(some 17), .fieldAddr 4 (.tmp 1), none, 0, none⟩,
    ⟨(some 18), .fieldAddr 0 (.tmp 17), none, 0, none⟩,
    ⟨(some 19), .load false 1 (.tmp 18), none, 0, none⟩,
    ⟨(some 20), .bin .mul (.tmp 16) (.tmp 19), none, 0, none⟩,
    ⟨(some 2), .move (.tmp 20), none, 0, none⟩] []) (.ret)) (.skip))) (.seq (.region 0 [
    ⟨(some 2), .move (.const (.int .i64 (0))), none, 0, none⟩] []) (.ret))), [.tmp 2], true⟩
def s33 : Sig := ⟨(.cons (.v .job) .nil), [], ((.v (.int .i64)), []), []⟩
def F33 (L : Lp) (g24 : Job → Option Bool) (j0 : Job) : Option Int :=
  Option.bind (g24 j0) fun r1 =>
  cond r1
    (cond (decide (j0.state = 3))
      (some (IntKind.wrap .i64 (j0.many * j0.need.cpu)))
      (cond (decide (j0.state = 4))
        (some (IntKind.wrap .i64 (j0.many * j0.need.cpu)))
        (some 0)))
    (some 0)
theorem e33 (L : Lp) (g24 : Job → Option Bool) (x : s33.args.den) (h : denH s33.heap) : nrun [⟨24, s24, fun x h => g24 x.1⟩] L n33 s33 x h = F33 L g24 x.1 := by kernel_rfl
def f33 : Job → Option Int := F33 (@LN LOOPS) f24
@[reducible] def t33 : Ent := ⟨33, s33, fun x h => f33 x.1⟩
theorem k33 : chkNF Try.prog Try.f33 n33 = true := by kernel_rfl
theorem ok33 : NOk Try.prog t33 := NOk.body (T := [t24]) mixed (nall_cons ok24 nall_nil) (oneEach_of (by kernel_rfl)) Try.func33 k33 (by kernel_rfl) (fun x h => e33 _ _ x h)
/- slices.Equal[[]drayage/api.Dep,drayage/api.Dep] -/
def n91 : NFunc := ⟨26, .seq (.region 0 [
    ⟨(some 4), .move (.const (.bool false)), none, 0, none⟩] []) (.seq (.seq (.region 0 [
    ⟨(some 6), .move (.tmp 0), none, 0, none⟩,
    ⟨(some 7), .len (.tmp 6), none, 0, none⟩,
    ⟨(some 8), .move (.tmp 1), none, 0, none⟩,
    ⟨(some 9), .len (.tmp 8), none, 0, none⟩,
    ⟨(some 10), .bin .neq (.tmp 7) (.tmp 9), none, 0, none⟩] []) (.cond (.tmp 10) (.seq (.region 0 [
    ⟨(some 4), .move (.const (.bool false)), none, 0, none⟩] []) (.ret)) (.skip))) (.seq (.seq (.region 0 [
    ⟨(some 11), .move (.tmp 0), none, 0, none⟩,
    ⟨(some 12), .len (.tmp 11), none, 0, none⟩,
    ⟨(some 13), .move (.const (.int .i64 (0))), none, 0, none⟩] []) (.block 0 (.loop [0, 1, 12, 13] ⟨[(13, (.v (.int .i64)))], [0, 1, 12], []⟩ (.seq (.region 0 [
    ⟨(some 14), .bin .lss (.tmp 13) (.tmp 12), none, 0, none⟩] []) (.seq (.cond (.tmp 14) (.skip) (.exit 0)) (.seq (.block 1 (.seq (.region 0 [
    ⟨(some 15), .move (.tmp 13), none, 0, none⟩,
    ⟨(some 5), .move (.tmp 15), none, 0, none⟩] []) (.seq (.region 0 [
    ⟨(some 16), .move (.tmp 0), none, 0, (some [])⟩,
    ⟨(some 17), .move (.tmp 5), none, 0, (some [])⟩,
    ⟨(some 18), .indexSl 2 (.tmp 16) (.tmp 17), none, 0, (some [])⟩,
    ⟨(some 19), .load true 2 (.tmp 18), none, 0, (some [])⟩,
    ⟨(some 20), .move (.tmp 1), none, 0, (some [])⟩,
    ⟨(some 21), .move (.tmp 5), none, 0, (some [])⟩,
    ⟨(some 22), .indexSl 2 (.tmp 20) (.tmp 21), none, 0, (some [])⟩,
    ⟨(some 23), .load true 2 (.tmp 22), none, 0, (some [])⟩,
    ⟨(some 24), .eqAgg (true, [.int .i64, .bool]) (.tmp 19) (.tmp 23), none, 0, (some [])⟩] []) (.cond (.tmp 24) (.seq (.region 0 [
    ⟨(some 4), .move (.const (.bool false)), none, 0, none⟩] []) (.ret)) (.skip))))) (.region 0 [
    ⟨(some 25), .bin .add (.tmp 13) (.const (.int .i64 (1))), none, 0, none⟩,
    ⟨(some 13), .move (.tmp 25), none, 0, none⟩] []))))))) (.seq (.region 0 [
    ⟨(some 4), .move (.const (.bool true)), none, 0, none⟩] []) (.ret)))), [.tmp 4], false⟩
def s91 : Sig := ⟨(.cons (.v (.list .dep)) (.cons (.v (.list .dep)) .nil)), [], ((.v .bool), []), []⟩
def l91_0 (as0 : (List Dep)) (as1 : (List Dep)) (next : ((Int × Unit) × Unit) → Option Bool) (z3 : Int) : Option Bool :=
  cond (decide (z3 < (List.length as0 : Int)))
    (cond (decide (0 ≤ z3))
      (Option.bind (as0[Int.toNat z3]?) fun y4 =>
      cond (decide (0 ≤ z3))
        (Option.bind (as1[Int.toNat z3]?) fun y5 =>
        cond (!((decide (y4.job = y5.job)) && ((y4.ok == y5.ok) && true)))
          (some false)
          (next ((IntKind.wrap .i64 (z3 + 1), ()), ())))
        (none))
      (none))
    (some true)
def F91 (L : Lp)  (as0 : (List Dep)) (as1 : (List Dep)) : Option Bool :=
  cond (!decide ((List.length as0 : Int) = (List.length as1 : Int)))
    (some false)
    (L (fun (s2 : ((Int × Unit) × Unit)) next => l91_0 as0 as1 next s2.1.1) ((0, ()), ()))
theorem e91 (L : Lp)  (x : s91.args.den) (h : denH s91.heap) : nrun [] L n91 s91 x h = F91 L  x.1 x.2.1 := by kernel_rfl
def f91 : (List Dep) → (List Dep) → Option Bool := F91 (@LN LOOPS) 
@[reducible] def t91 : Ent := ⟨91, s91, fun x h => f91 x.1 x.2.1⟩
theorem k91 : chkNF Try.prog Try.f91 n91 = true := by kernel_rfl
theorem ok91 : NOk Try.prog t91 := NOk.body (T := []) mixed nall_nil (oneEach_of (by kernel_rfl)) Try.func91 k91 (by kernel_rfl) (fun x h => e91 _  x h)
/- drayage/job.Same -/
def n34 : NFunc := ⟨108, .seq (.region 2 [
    ⟨(some 2), .box 18 (.tmp 0), none, 0, none⟩,
    ⟨(some 3), .box 18 (.tmp 1), none, 1, none⟩,
    ⟨(some 4), .move (.const (.bool false)), none, 2, none⟩] []) (.seq (.region 4 [
    ⟨(some 5), .fieldAddr 0 (.tmp 2), none, 0, none⟩,
    ⟨(some 6), .load false 1 (.tmp 5), none, 0, none⟩,
    ⟨(some 7), .fieldAddr 0 (.tmp 3), none, 0, none⟩,
    ⟨(some 8), .load false 1 (.tmp 7), none, 0, none⟩,
    ⟨(some 9), .bin .eql (.tmp 6) (.tmp 8), none, 0, none⟩,
    ⟨(some 10), .move (.tmp 9), none, 0, none⟩,
    ⟨(some 11), .fieldAddr 1 (.tmp 2), (some (10, true)), 0, none⟩,
    ⟨(some 12), .load false 1 (.tmp 11), (some (10, true)), 0, none⟩,
    ⟨(some 13), .fieldAddr 1 (.tmp 3), (some (10, true)), 0, none⟩,
    ⟨(some 14), .load false 1 (.tmp 13), (some (10, true)), 0, none⟩,
    ⟨(some 15), .bin .eql (.tmp 12) (.tmp 14), (some (10, true)), 0, none⟩,
    ⟨(some 16), .pick (.tmp 10) (.tmp 15) (.const (.bool false)), none, 0, none⟩,
    ⟨(some 17), .move (.tmp 16), none, 0, none⟩,
    ⟨(some 18), .fieldAddr 2 (.tmp 2), (some (17, true)), 0, none⟩,
    ⟨(some 19), .load false 1 (.tmp 18), (some (17, true)), 0, none⟩,
    ⟨(some 20), .fieldAddr 2 (.tmp 3), (some (17, true)), 0, none⟩,
    ⟨(some 21), .load false 1 (.tmp 20), (some (17, true)), 0, none⟩,
    ⟨(some 22), .bin .eql (.tmp 19) (.tmp 21), (some (17, true)), 0, none⟩,
    ⟨(some 23), .pick (.tmp 17) (.tmp 22) (.const (.bool false)), none, 0, none⟩,
    ⟨(some 24), .move (.tmp 23), none, 0, none⟩,
    ⟨(some 25), .fieldAddr 3 (.tmp 2), (some (24, true)), 0, none⟩,
    ⟨(some 26), .load false 1 (.tmp 25), (some (24, true)), 0, none⟩,
    ⟨(some 27), .fieldAddr 3 (.tmp 3), (some (24, true)), 0, none⟩,
    ⟨(some 28), .load false 1 (.tmp 27), (some (24, true)), 0, none⟩,
    ⟨(some 29), .bin .eql (.tmp 26) (.tmp 28), (some (24, true)), 0, none⟩,
    ⟨(some 30), .pick (.tmp 24) (.tmp 29) (.const (.bool false)), none, 0, none⟩,
    ⟨(some 31), .move (.tmp 30), none, 0, none⟩,
    ⟨(some 32), .fieldAddr 4 (.tmp 2), (some (31, true)), 0, none⟩,
    ⟨(some 33), .load true 4 (.tmp 32), (some (31, true)), 0, none⟩,
    ⟨(some 34), .fieldAddr 4 (.tmp 3), (some (31, true)), 0, none⟩,
    ⟨(some 35), .load true 4 (.tmp 34), (some (31, true)), 0, none⟩,
    ⟨(some 36), .eqAgg (false, [.int .i64, .int .i64, .int .i64, .int .i64]) (.tmp 33) (.tmp 35), (some (31, true)), 0, none⟩,
    ⟨(some 37), .pick (.tmp 31) (.tmp 36) (.const (.bool false)), none, 0, none⟩,
    ⟨(some 38), .move (.tmp 37), none, 0, none⟩,
    ⟨(some 39), .fieldAddr 8 (.tmp 2), (some (38, true)), 0, none⟩,
    ⟨(some 40), .load false 1 (.tmp 39), (some (38, true)), 0, none⟩,
    ⟨(some 41), .fieldAddr 8 (.tmp 3), (some (38, true)), 0, none⟩,
    ⟨(some 42), .load false 1 (.tmp 41), (some (38, true)), 0, none⟩,
    ⟨(some 43), .bin .eql (.tmp 40) (.tmp 42), (some (38, true)), 0, none⟩,
    ⟨(some 44), .pick (.tmp 38) (.tmp 43) (.const (.bool false)), none, 0, none⟩,
    ⟨(some 45), .move (.tmp 44), none, 0, none⟩,
    ⟨(some 46), .fieldAddr 9 (.tmp 2), (some (45, true)), 0, none⟩,
    ⟨(some 47), .load false 1 (.tmp 46), (some (45, true)), 0, none⟩,
    ⟨(some 48), .fieldAddr 9 (.tmp 3), (some (45, true)), 0, none⟩,
    ⟨(some 49), .load false 1 (.tmp 48), (some (45, true)), 0, none⟩,
    ⟨(some 50), .call (.func 91) [(false, (.tmp 47)), (false, (.tmp 49))] false 4, (some (45, true)), 0, none⟩,
    ⟨(some 51), .pick (.tmp 45) (.tmp 50) (.const (.bool false)), none, 4, none⟩,
    ⟨(some 52), .move (.tmp 51), none, 4, none⟩,
    ⟨(some 53), .fieldAddr 10 (.tmp 2), (some (52, true)), 4, none⟩,
    ⟨(some 54), .load false 1 (.tmp 53), (some (52, true)), 4, none⟩,
    ⟨(some 55), .fieldAddr 10 (.tmp 3), (some (52, true)), 4, none⟩,
    ⟨(some 56), .load false 1 (.tmp 55), (some (52, true)), 4, none⟩,
    ⟨(some 57), .bin .eql (.tmp 54) (.tmp 56), (some (52, true)), 4, none⟩,
    ⟨(some 58), .pick (.tmp 52) (.tmp 57) (.const (.bool false)), none, 4, none⟩,
    ⟨(some 59), .move (.tmp 58), none, 4, none⟩,
    ⟨(some 60), .fieldAddr 11 (.tmp 2), (some (59, true)), 4, none⟩,
    ⟨(some 61), .load false 1 (.tmp 60), (some (59, true)), 4, none⟩,
    ⟨(some 62), .fieldAddr 11 (.tmp 3), (some (59, true)), 4, none⟩,
    ⟨(some 63), .load false 1 (.tmp 62), (some (59, true)), 4, none⟩,
    ⟨(some 64), .eqB false (.tmp 61) (.tmp 63), (some (59, true)), 4, none⟩,
    ⟨(some 65), .pick (.tmp 59) (.tmp 64) (.const (.bool false)), none, 4, none⟩,
    ⟨(some 66), .move (.tmp 65), none, 4, none⟩,
    ⟨(some 67), .fieldAddr 12 (.tmp 2), (some (66, true)), 4, none⟩,
    ⟨(some 68), .load false 1 (.tmp 67), (some (66, true)), 4, none⟩,
    ⟨(some 69), .fieldAddr 12 (.tmp 3), (some (66, true)), 4, none⟩,
    ⟨(some 70), .load false 1 (.tmp 69), (some (66, true)), 4, none⟩,
    ⟨(some 71), .eqB false (.tmp 68) (.tmp 70), (some (66, true)), 4, none⟩,
    ⟨(some 72), .pick (.tmp 66) (.tmp 71) (.const (.bool false)), none, 4, none⟩,
    ⟨(some 73), .move (.tmp 72), none, 4, none⟩,
    ⟨(some 74), .fieldAddr 13 (.tmp 2), (some (73, true)), 4, none⟩,
    ⟨(some 75), .load false 1 (.tmp 74), (some (73, true)), 4, none⟩,
    ⟨(some 76), .fieldAddr 13 (.tmp 3), (some (73, true)), 4, none⟩,
    ⟨(some 77), .load false 1 (.tmp 76), (some (73, true)), 4, none⟩,
    ⟨(some 78), .bin .eql (.tmp 75) (.tmp 77), (some (73, true)), 4, none⟩,
    ⟨(some 79), .pick (.tmp 73) (.tmp 78) (.const (.bool false)), none, 4, none⟩,
    ⟨(some 80), .move (.tmp 79), none, 4, none⟩,
    ⟨(some 81), .fieldAddr 14 (.tmp 2), (some (80, true)), 4, none⟩,
    ⟨(some 82), .load false 1 (.tmp 81), (some (80, true)), 4, none⟩,
    ⟨(some 83), .fieldAddr 14 (.tmp 3), (some (80, true)), 4, none⟩,
    ⟨(some 84), .load false 1 (.tmp 83), (some (80, true)), 4, none⟩,
    ⟨(some 85), .bin .eql (.tmp 82) (.tmp 84), (some (80, true)), 4, none⟩,
    ⟨(some 86), .pick (.tmp 80) (.tmp 85) (.const (.bool false)), none, 4, none⟩,
    ⟨(some 87), .move (.tmp 86), none, 4, none⟩,
    ⟨(some 88), .fieldAddr 15 (.tmp 2), (some (87, true)), 4, none⟩,
    ⟨(some 89), .load false 1 (.tmp 88), (some (87, true)), 4, none⟩,
    ⟨(some 90), .fieldAddr 15 (.tmp 3), (some (87, true)), 4, none⟩,
    ⟨(some 91), .load false 1 (.tmp 90), (some (87, true)), 4, none⟩,
    ⟨(some 92), .bin .eql (.tmp 89) (.tmp 91), (some (87, true)), 4, none⟩,
    ⟨(some 93), .pick (.tmp 87) (.tmp 92) (.const (.bool false)), none, 4, none⟩,
    ⟨(some 94), .move (.tmp 93), none, 4, none⟩,
    ⟨(some 95), .fieldAddr 16 (.tmp 2), (some (94, true)), 4, none⟩,
    ⟨(some 96), .load false 1 (.tmp 95), (some (94, true)), 4, none⟩,
    ⟨(some 97), .fieldAddr 16 (.tmp 3), (some (94, true)), 4, none⟩,
    ⟨(some 98), .load false 1 (.tmp 97), (some (94, true)), 4, none⟩,
    ⟨(some 99), .bin .eql (.tmp 96) (.tmp 98), (some (94, true)), 4, none⟩,
    ⟨(some 100), .pick (.tmp 94) (.tmp 99) (.const (.bool false)), none, 4, none⟩,
    ⟨(some 101), .move (.tmp 100), none, 4, none⟩,
    ⟨(some 102), .fieldAddr 17 (.tmp 2), (some (101, true)), 4, none⟩,
    ⟨(some 103), .load false 1 (.tmp 102), (some (101, true)), 4, none⟩,
    ⟨(some 104), .fieldAddr 17 (.tmp 3), (some (101, true)), 4, none⟩,
    ⟨(some 105), .load false 1 (.tmp 104), (some (101, true)), 4, none⟩,
    ⟨(some 106), .bin .eql (.tmp 103) (.tmp 105), (some (101, true)), 4, none⟩,
    ⟨(some 107), .pick (.tmp 101) (.tmp 106) (.const (.bool false)), none, 4, none⟩,
    ⟨(some 4), .move (.tmp 107), none, 4, none⟩] []) (.ret)), [.tmp 4], true⟩
def s34 : Sig := ⟨(.cons (.v .job) (.cons (.v .job) .nil)), [], ((.v .bool), []), []⟩
def F34 (L : Lp) (g91 : (List Dep) → (List Dep) → Option Bool) (a0 : Job) (b1 : Job) : Option Bool :=
  cond (decide (a0.id = b1.id))
    (cond (decide (a0.user = b1.user))
      (cond (decide (a0.queue = b1.queue))
        (cond (decide (a0.many = b1.many))
          (cond ((decide (a0.need.cpu = b1.need.cpu)) && ((decide (a0.need.mem = b1.need.mem)) && ((decide (a0.need.gpu = b1.need.gpu)) && ((decide (a0.need.lic = b1.need.lic)) && true))))
            (cond (decide (a0.wall = b1.wall))
              (Option.bind (g91 a0.after b1.after) fun r2 =>
              cond r2
                (cond (decide (a0.state = b1.state))
                  (cond (a0.ok == b1.ok)
                    (cond (a0.kill == b1.kill)
                      (cond (decide (a0.version = b1.version))
                        (cond (decide (a0.born = b1.born))
                          (cond (decide (a0.start = b1.start))
                            (cond (decide (a0.fin = b1.fin))
                              (some (decide (a0.array = b1.array)))
                              (some false))
                            (some false))
                          (some false))
                        (some false))
                      (some false))
                    (some false))
                  (some false))
                (some false))
              (some false))
            (some false))
          (some false))
        (some false))
      (some false))
    (some false)
theorem e34 (L : Lp) (g91 : (List Dep) → (List Dep) → Option Bool) (x : s34.args.den) (h : denH s34.heap) : nrun [⟨91, s91, fun x h => g91 x.1 x.2.1⟩] L n34 s34 x h = F34 L g91 x.1 x.2.1 := by kernel_rfl
def f34 : Job → Job → Option Bool := F34 (@LN LOOPS) f91
@[reducible] def t34 : Ent := ⟨34, s34, fun x h => f34 x.1 x.2.1⟩
theorem k34 : chkNF Try.prog Try.f34 n34 = true := by kernel_rfl
theorem ok34 : NOk Try.prog t34 := NOk.body (T := [t91]) mixed (nall_cons ok91 nall_nil) (oneEach_of (by kernel_rfl)) Try.func34 k34 (by kernel_rfl) (fun x h => e34 _ _ x h)
/- drayage/drayagelaw16.JobRight -/
def n6 : NFunc := ⟨50, .seq (.region 2 [
    ⟨(some 2), .box 18 (.tmp 0), none, 0, none⟩,
    ⟨(some 3), .box 18 (.tmp 1), none, 1, none⟩,
    ⟨(some 4), .move (.const (.bool false)), none, 2, none⟩] []) (.seq (.seq (.region 4 [
    ⟨(some 5), .call (.func 21) [] false 4, none, 0, none⟩,
    ⟨(some 6), .un .not (.tmp 5), none, 4, none⟩] []) (.cond (.tmp 6) (.seq (.region 0 [
    ⟨(some 4), .move (.const (.bool false)), none, 0, none⟩] []) (.ret)) (.skip))) (.seq (.seq (.region 0 [
    ⟨(some 7), .fieldAddr 9 (.tmp 2), none, 0, none⟩,
    ⟨(some 8), .load false 1 (.tmp 7), none, 0, none⟩,
    ⟨(some 9), .len (.tmp 8), none, 0, none⟩,
    ⟨(some 10), .bin .gtr (.tmp 9) (.const (.int .i64 (30))), none, 0, none⟩,
    ⟨(some 11), .move (.tmp 10), none, 0, none⟩,
    ⟨(some 12), .fieldAddr 9 (.tmp 3), (some (11, false)), 0, none⟩,
    ⟨(some 13), .load false 1 (.tmp 12), (some (11, false)), 0, none⟩,
    ⟨(some 14), .len (.tmp 13), (some (11, false)), 0, none⟩,
    ⟨(some 15), .bin .gtr (.tmp 14) (.const (.int .i64 (30))), (some (11, false)), 0, none⟩,
    ⟨(some 16), .pick (.tmp 11) (.const (.bool true)) (.tmp 15), none, 0, none⟩] []) (.cond (.tmp 16) (.seq (.region 0 [
    ⟨(some 4), .move (.const (.bool true)), none, 0, none⟩] []) (.ret)) (.skip))) (.seq (.region 36 [
    ⟨(some 17), .load true 18 (.tmp 2), none, 0, (some [])⟩,
    ⟨(some 18), .call (.func 29) [(false, (.tmp 17))] true 4, none, 0, (some [])⟩,
    ⟨(some 19), .load true 18 (.tmp 2), none, 4, (some [])⟩,
    ⟨(some 20), .call (.func 24) [(false, (.tmp 19))] false 4, none, 4, (some [0, 1, 2, 3])⟩,
    ⟨(some 21), .eqB false (.tmp 18) (.tmp 20), none, 8, (some [0, 1, 2, 3, 4, 5, 6, 7])⟩,
    ⟨(some 22), .move (.tmp 21), none, 8, (some [0, 1, 2, 3, 4, 5, 6, 7])⟩,
    ⟨(some 23), .load true 18 (.tmp 2), (some (22, true)), 8, (some [0, 1, 2, 3, 4, 5, 6, 7])⟩,
    ⟨(some 24), .call (.func 30) [(false, (.tmp 23))] true 4, (some (22, true)), 8, (some [0, 1, 2, 3, 4, 5, 6, 7])⟩,
    ⟨(some 25), .load true 18 (.tmp 2), (some (22, true)), 12, (some [0, 1, 2, 3, 4, 5, 6, 7])⟩,
    ⟨(some 26), .call (.func 31) [(false, (.tmp 25))] false 4, (some (22, true)), 12, (some [0, 1, 2, 3, 4, 5, 6, 7, 8, 9, 10, 11])⟩,
    ⟨(some 27), .bin .eql (.tmp 24) (.tmp 26), (some (22, true)), 16, (some [0, 1, 2, 3, 4, 5, 6, 7, 8, 9, 10, 11, 12, 13, 14, 15])⟩,
    ⟨(some 28), .pick (.tmp 22) (.tmp 27) (.const (.bool false)), none, 16, (some [0, 1, 2, 3, 4, 5, 6, 7, 8, 9, 10, 11, 12, 13, 14, 15])⟩,
    ⟨(some 29), .move (.tmp 28), none, 16, (some [0, 1, 2, 3, 4, 5, 6, 7, 8, 9, 10, 11, 12, 13, 14, 15])⟩,
    ⟨(some 30), .load true 18 (.tmp 2), (some (29, true)), 16, (some [0, 1, 2, 3, 4, 5, 6, 7, 8, 9, 10, 11, 12, 13, 14, 15])⟩,
    ⟨(some 31), .call (.func 32) [(false, (.tmp 30))] true 4, (some (29, true)), 16, (some [0, 1, 2, 3, 4, 5, 6, 7, 8, 9, 10, 11, 12, 13, 14, 15])⟩,
    ⟨(some 32), .load true 18 (.tmp 2), (some (29, true)), 20, (some [0, 1, 2, 3, 4, 5, 6, 7, 8, 9, 10, 11, 12, 13, 14, 15])⟩,
    ⟨(some 33), .call (.func 33) [(false, (.tmp 32))] false 4, (some (29, true)), 20, (some [0, 1, 2, 3, 4, 5, 6, 7, 8, 9, 10, 11, 12, 13, 14, 15, 16, 17, 18, 19])⟩,
    ⟨(some 34), .bin .eql (.tmp 31) (.tmp 33), (some (29, true)), 24, (some [0, 1, 2, 3, 4, 5, 6, 7, 8, 9, 10, 11, 12, 13, 14, 15, 16, 17, 18, 19, 20, 21, 22, 23])⟩,
    ⟨(some 35), .pick (.tmp 29) (.tmp 34) (.const (.bool false)), none, 24, (some [0, 1, 2, 3, 4, 5, 6, 7, 8, 9, 10, 11, 12, 13, 14, 15, 16, 17, 18, 19, 20, 21, 22, 23])⟩,
    ⟨(some 36), .move (.tmp 35), none, 24, (some [0, 1, 2, 3, 4, 5, 6, 7, 8, 9, 10, 11, 12, 13, 14, 15, 16, 17, 18, 19, 20, 21, 22, 23])⟩,
    ⟨(some 37), .load true 18 (.tmp 2), (some (36, true)), 24, (some [0, 1, 2, 3, 4, 5, 6, 7, 8, 9, 10, 11, 12, 13, 14, 15, 16, 17, 18, 19, 20, 21, 22, 23])⟩,
    ⟨(some 38), .load true 18 (.tmp 3), (some (36, true)), 24, (some [0, 1, 2, 3, 4, 5, 6, 7, 8, 9, 10, 11, 12, 13, 14, 15, 16, 17, 18, 19, 20, 21, 22, 23])⟩,
    ⟨(some 39), .call (.func 34) [(false, (.tmp 37)), (false, (.tmp 38))] true 4, (some (36, true)), 24, (some [0, 1, 2, 3, 4, 5, 6, 7, 8, 9, 10, 11, 12, 13, 14, 15, 16, 17, 18, 19, 20, 21, 22, 23])⟩,
    ⟨(some 40), .load true 18 (.tmp 2), (some (36, true)), 28, (some [0, 1, 2, 3, 4, 5, 6, 7, 8, 9, 10, 11, 12, 13, 14, 15, 16, 17, 18, 19, 20, 21, 22, 23])⟩,
    ⟨(some 41), .load true 18 (.tmp 3), (some (36, true)), 28, (some [0, 1, 2, 3, 4, 5, 6, 7, 8, 9, 10, 11, 12, 13, 14, 15, 16, 17, 18, 19, 20, 21, 22, 23])⟩,
    ⟨(some 42), .call (.func 25) [(false, (.tmp 40)), (false, (.tmp 41))] false 4, (some (36, true)), 28, (some [0, 1, 2, 3, 4, 5, 6, 7, 8, 9, 10, 11, 12, 13, 14, 15, 16, 17, 18, 19, 20, 21, 22, 23, 24, 25, 26, 27])⟩,
    ⟨(some 43), .eqB false (.tmp 39) (.tmp 42), (some (36, true)), 32, (some [0, 1, 2, 3, 4, 5, 6, 7, 8, 9, 10, 11, 12, 13, 14, 15, 16, 17, 18, 19, 20, 21, 22, 23, 24, 25, 26, 27, 28, 29, 30, 31])⟩,
    ⟨(some 44), .pick (.tmp 36) (.tmp 43) (.const (.bool false)), none, 32, (some [0, 1, 2, 3, 4, 5, 6, 7, 8, 9, 10, 11, 12, 13, 14, 15, 16, 17, 18, 19, 20, 21, 22, 23, 24, 25, 26, 27, 28, 29, 30, 31])⟩,
    ⟨(some 45), .move (.tmp 44), none, 32, (some [0, 1, 2, 3, 4, 5, 6, 7, 8, 9, 10, 11, 12, 13, 14, 15, 16, 17, 18, 19, 20, 21, 22, 23, 24, 25, 26, 27, 28, 29, 30, 31])⟩,
    ⟨(some 46), .load true 18 (.tmp 2), (some (45, true)), 32, (some [0, 1, 2, 3, 4, 5, 6, 7, 8, 9, 10, 11, 12, 13, 14, 15, 16, 17, 18, 19, 20, 21, 22, 23, 24, 25, 26, 27, 28, 29, 30, 31])⟩,
    ⟨(some 47), .load true 18 (.tmp 2), (some (45, true)), 32, (some [0, 1, 2, 3, 4, 5, 6, 7, 8, 9, 10, 11, 12, 13, 14, 15, 16, 17, 18, 19, 20, 21, 22, 23, 24, 25, 26, 27, 28, 29, 30, 31])⟩,
    ⟨(some 48), .call (.func 34) [(false, (.tmp 46)), (false, (.tmp 47))] false 4, (some (45, true)), 32, (some [0, 1, 2, 3, 4, 5, 6, 7, 8, 9, 10, 11, 12, 13, 14, 15, 16, 17, 18, 19, 20, 21, 22, 23, 24, 25, 26, 27, 28, 29, 30, 31])⟩,
    ⟨(some 49), .pick (.tmp 45) (.tmp 48) (.const (.bool false)), none, 36, (some [0, 1, 2, 3, 4, 5, 6, 7, 8, 9, 10, 11, 12, 13, 14, 15, 16, 17, 18, 19, 20, 21, 22, 23, 24, 25, 26, 27, 28, 29, 30, 31, 32, 33, 34, 35])⟩,
    ⟨(some 4), .move (.tmp 49), none, 36, (some [0, 1, 2, 3, 4, 5, 6, 7, 8, 9, 10, 11, 12, 13, 14, 15, 16, 17, 18, 19, 20, 21, 22, 23, 24, 25, 26, 27, 28, 29, 30, 31, 32, 33, 34, 35])⟩] []) (.ret)))), [.tmp 4], true⟩
def s6 : Sig := ⟨(.cons (.v .job) (.cons (.v .job) .nil)), [], ((.v .bool), []), []⟩
def F6 (L : Lp) (g21 : Option Bool) (g29 : Job → Option Bool) (g24 : Job → Option Bool) (g30 : Job → Option Int) (g31 : Job → Option Int) (g32 : Job → Option Int) (g33 : Job → Option Int) (g34 : Job → Job → Option Bool) (g25 : Job → Job → Option Bool) (a0 : Job) (b1 : Job) : Option Bool :=
  Option.bind (g21) fun r2 =>
  cond (!r2)
    (some false)
    (cond (decide (30 < (List.length a0.after : Int)))
      (some true)
      (cond (decide (30 < (List.length b1.after : Int)))
        (some true)
        (Option.bind (g29 a0) fun r3 =>
        Option.bind (g24 a0) fun r4 =>
        cond (r3 == r4)
          (Option.bind (g30 a0) fun r5 =>
          Option.bind (g31 a0) fun r6 =>
          cond (decide (r5 = r6))
            (Option.bind (g32 a0) fun r7 =>
            Option.bind (g33 a0) fun r8 =>
            cond (decide (r7 = r8))
              (Option.bind (g34 a0 b1) fun r9 =>
              Option.bind (g25 a0 b1) fun r10 =>
              cond (r9 == r10)
                (Option.bind (g34 a0 a0) fun r11 =>
                some r11)
                (some false))
              (some false))
            (some false))
          (some false))))
theorem e6 (L : Lp) (g21 : Option Bool) (g29 : Job → Option Bool) (g24 : Job → Option Bool) (g30 : Job → Option Int) (g31 : Job → Option Int) (g32 : Job → Option Int) (g33 : Job → Option Int) (g34 : Job → Job → Option Bool) (g25 : Job → Job → Option Bool) (x : s6.args.den) (h : denH s6.heap) : nrun [⟨21, s21, fun x h => g21 ⟩, ⟨29, s29, fun x h => g29 x.1⟩, ⟨24, s24, fun x h => g24 x.1⟩, ⟨30, s30, fun x h => g30 x.1⟩, ⟨31, s31, fun x h => g31 x.1⟩, ⟨32, s32, fun x h => g32 x.1⟩, ⟨33, s33, fun x h => g33 x.1⟩, ⟨34, s34, fun x h => g34 x.1 x.2.1⟩, ⟨25, s25, fun x h => g25 x.1 x.2.1⟩] L n6 s6 x h = F6 L g21 g29 g24 g30 g31 g32 g33 g34 g25 x.1 x.2.1 := by kernel_rfl
def f6 : Job → Job → Option Bool := F6 (@LN LOOPS) f21 f29 f24 f30 f31 f32 f33 f34 f25
@[reducible] def t6 : Ent := ⟨6, s6, fun x h => f6 x.1 x.2.1⟩
theorem k6 : chkNF Try.prog Try.f6 n6 = true := by kernel_rfl
theorem ok6 : NOk Try.prog t6 := NOk.body (T := [t21, t29, t24, t30, t31, t32, t33, t34, t25]) mixed (nall_cons ok21 (nall_cons ok29 (nall_cons ok24 (nall_cons ok30 (nall_cons ok31 (nall_cons ok32 (nall_cons ok33 (nall_cons ok34 (nall_cons ok25 nall_nil))))))))) (oneEach_of (by kernel_rfl)) Try.func6 k6 (by kernel_rfl) (fun x h => e6 _ _ _ _ _ _ _ _ _ _ x h)
end NM
end Go.Proofs.Ytgpehdiancphnaa
