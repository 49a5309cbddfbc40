/-
  The plain forms of the functions that the statement reaches, and that each is its function's body. (Written by program.)
-/
import Derived.Test.YtgpejfddaelobaaNmX
import Derived.Test.YtgpejfddaelobaaProg
import Derived.ProofKit
set_option linter.unusedVariables false
set_option maxRecDepth 100000
set_option maxHeartbeats 4000000
namespace Go.Proofs.Ytgpejfddaelobaa
namespace NM
open AM Go.RowKit
theorem mixed : Try.prog.follows .mixedOrders = true := by kernel_rfl
/- drayage/reply.Refusal -/
def n68 : NFunc := ⟨8, .seq (.region 1 [
    ⟨(some 4), .alloc [.int .i64 (0), .int .i64 (0), .int .i64 (0), .int .i64 (0), .zsl], none, 0, none⟩] []) (.seq (.region 0 [
    ⟨(some 5), .move (.tmp 0), none, 0, none⟩,
    ⟨(some 6), .move (.tmp 1), none, 0, none⟩,
    ⟨(some 7), .build [.int .i64 (0), .int .i64 (0), .int .i64 (0), .int .i64 (0), .zsl] [(0, 1, (.tmp 5)), (1, 1, (.tmp 6))], none, 0, none⟩,
    ⟨none, .store 5 (.tmp 4) (.tmp 7), none, 0, none⟩] []) (.ret)), [.cell true 5 4], true⟩
def s68 : Sig := ⟨(.cons (.v (.int .i64)) (.cons (.v (.int .i64)) .nil)), [], ((.v .reply), []), []⟩
def F68 (L : Lp)  (key0 : Int) (ae1 : Int) : Option Reply :=
  some (Reply.mk key0 ae1 0 0 [])
theorem e68 (L : Lp)  (x : s68.args.den) (h : denH s68.heap) : nrun [] L n68 s68 x h = F68 L  x.1 x.2.1 := by kernel_rfl
def f68 : Int → Int → Option Reply := F68 (@LN LOOPS) 
@[reducible] def t68 : Ent := ⟨68, s68, fun x h => f68 x.1 x.2.1⟩
theorem k68 : chkNF Try.prog Try.f68 n68 = true := by kernel_rfl
theorem ok68 : NOk Try.prog t68 := NOk.body (T := []) mixed nall_nil (oneEach_of (by kernel_rfl)) Try.func68 k68 (by kernel_rfl) (fun x h => e68 _  x h)
/- drayage/reply.greatest -/
def n70 : NFunc := ⟨2, .seq (.region 1 [
    ⟨(some 0), .alloc [.int .i64 (0), .int .i64 (0), .int .i64 (0), .int .i64 (0)], none, 0, none⟩] []) (.seq (.region 0 [
    ⟨(some 1), .build [.int .i64 (0), .int .i64 (0), .int .i64 (0), .int .i64 (0)] [(0, 1, (.const (.int .i64 (1073741824)))), (1, 1, (.const (.int .i64 (99)))), (2, 1, (.const (.int .i64 (281474976710656)))), (3, 1, (.const (.int .i64 (281474976710656))))], none, 0, none⟩,
    ⟨none, .store 4 (.tmp 0) (.tmp 1), none, 0, none⟩] []) (.ret)), [.cell true 4 0], true⟩
def s70 : Sig := ⟨.nil, [], ((.v (.pair (.int .i64) (.pair (.int .i64) (.pair (.int .i64) (.int .i64))))), []), []⟩
def F70 (L : Lp)   : Option (Int × (Int × (Int × Int))) :=
  some (1073741824, (99, (281474976710656, 281474976710656)))
theorem e70 (L : Lp)  (x : s70.args.den) (h : denH s70.heap) : nrun [] L n70 s70 x h = F70 L   := by kernel_rfl
def f70 : Option (Int × (Int × (Int × Int))) := F70 (@LN LOOPS) 
@[reducible] def t70 : Ent := ⟨70, s70, fun x h => f70 ⟩
theorem k70 : chkNF Try.prog Try.f70 n70 = true := by kernel_rfl
theorem ok70 : NOk Try.prog t70 := NOk.body (T := []) mixed nall_nil (oneEach_of (by kernel_rfl)) Try.func70 k70 (by kernel_rfl) (fun x h => e70 _  x h)
/- drayage/reply.first -/
def n78 : NFunc := ⟨12, .seq (.region 2 [
    ⟨(some 1), .box 5 (.tmp 0), none, 0, none⟩,
    ⟨(some 2), .alloc [.int .i64 (0), .int .i64 (0), .int .i64 (0), .int .i64 (0)], none, 1, none⟩] []) (.seq (.region 0 [
    ⟨(some 3), .fieldAddr 0 (.tmp 1), none, 0, none⟩,
    ⟨(some 4), .load false 1 (.tmp 3), none, 0, none⟩,
    ⟨(some 5), .fieldAddr 1 (.tmp 1), none, 0, none⟩,
    ⟨(some 6), .load false 1 (.tmp 5), none, 0, none⟩,
    ⟨(some 7), .fieldAddr 2 (.tmp 1), none, 0, none⟩,
    ⟨(some 8), .load false 1 (.tmp 7), none, 0, none⟩,
    ⟨(some 9), .fieldAddr 3 (.tmp 1), none, 0, none⟩,
    ⟨(some 10), .load false 1 (.tmp 9), none, 0, none⟩,
    ⟨(some 11), .build [.int .i64 (0), .int .i64 (0), .int .i64 (0), .int .i64 (0)] [(0, 1, (.tmp 4)), (1, 1, (.tmp 6)), (2, 1, (.tmp 8)), (3, 1, (.tmp 10))], none, 0, none⟩,
    ⟨none, .store 4 (.tmp 2) (.tmp 11), none, 0, none⟩] []) (.ret)), [.cell true 4 2], true⟩
def s78 : Sig := ⟨(.cons (.v .reply) .nil), [], ((.v (.pair (.int .i64) (.pair (.int .i64) (.pair (.int .i64) (.int .i64))))), []), []⟩
def F78 (L : Lp)  (ar0 : Reply) : Option (Int × (Int × (Int × Int))) :=
  some (ar0.key, (ar0.err, (ar0.job, ar0.version)))
theorem e78 (L : Lp)  (x : s78.args.den) (h : denH s78.heap) : nrun [] L n78 s78 x h = F78 L  x.1 := by kernel_rfl
def f78 : Reply → Option (Int × (Int × (Int × Int))) := F78 (@LN LOOPS) 
@[reducible] def t78 : Ent := ⟨78, s78, fun x h => f78 x.1⟩
theorem k78 : chkNF Try.prog Try.f78 n78 = true := by kernel_rfl
theorem ok78 : NOk Try.prog t78 := NOk.body (T := []) mixed nall_nil (oneEach_of (by kernel_rfl)) Try.func78 k78 (by kernel_rfl) (fun x h => e78 _  x h)
/- drayage/reply.Right -/
def n23 : NFunc := ⟨43, .seq (.region 1 [
    ⟨(some 1), .box 5 (.tmp 0), none, 0, none⟩,
    ⟨(some 2), .move (.const (.bool false)), none, 1, none⟩] []) (.seq (.region 5 [
    ⟨(some 8), .call (.func 70) [] false 4, none, 0, none⟩,
    ⟨(some 3), .alloc [.int .i64 (0), .int .i64 (0), .int .i64 (0), .int .i64 (0)], none, 4, none⟩,
    ⟨none, .store 4 (.tmp 3) (.tmp 8), none, 5, none⟩] []) (.seq (.seq (.region 4 [
    ⟨(some 9), .load true 5 (.tmp 1), none, 0, none⟩,
    ⟨(some 10), .call (.func 78) [(false, (.tmp 9))] false 4, none, 0, none⟩,
    ⟨(some 11), .move (.const (.int .i64 (0))), none, 4, none⟩] []) (.block 0 (.loopU [1, 3, 10, 11] 5 (.seq (.region 0 [
    ⟨(some 12), .bin .lss (.tmp 11) (.const (.int .i64 (4))), none, 0, none⟩] []) (.seq (.cond (.tmp 12) (.skip) (.exit 0)) (.seq (.block 1 (.seq (.region 0 [
    ⟨(some 13), .move (.tmp 11), none, 0, none⟩,
    ⟨(some 14), .indexVal false 4 1 (.tmp 10) (.tmp 11), none, 0, none⟩,
    ⟨(some 4), .move (.tmp 13), none, 0, none⟩,
    ⟨(some 5), .move (.tmp 14), none, 0, none⟩] []) (.seq (.region 0 [
    ⟨(some 15), .move (.tmp 5), none, 0, none⟩,
    ⟨(some 16), .bin .lss (.tmp 15) (.const (.int .i64 (0))), none, 0, none⟩,
    ⟨(some 17), .move (.tmp 16), none, 0, none⟩,
    ⟨(some 18), .move (.tmp 5), (some (17, false)), 0, none⟩,
    ⟨(some 19), .move (.tmp 4), (some (17, false)), 0, none⟩,
    ⟨(some 20), .indexArr 4 1 (.tmp 3) (.tmp 19), (some (17, false)), 0, none⟩,
    ⟨(some 21), .load false 1 (.tmp 20), (some (17, false)), 0, none⟩,
    ⟨(some 22), .bin .gtr (.tmp 18) (.tmp 21), (some (17, false)), 0, none⟩,
    ⟨(some 23), .pick (.tmp 17) (.const (.bool true)) (.tmp 22), none, 0, none⟩] []) (.cond (.tmp 23) (.seq (.region 0 [
    ⟨(some 2), .move (.const (.bool false)), none, 0, none⟩] []) (.ret)) (.skip))))) (.region 0 [
    ⟨(some 24), .bin .add (.tmp 11) (.const (.int .i64 (1))), none, 0, none⟩,
    ⟨(some 11), .move (.tmp 24), none, 0, none⟩] []))))))) (.seq (.seq (.region 0 [
    ⟨(some 25), .fieldAddr 4 (.tmp 1), none, 0, none⟩,
    ⟨(some 26), .load false 1 (.tmp 25), none, 0, none⟩,
    ⟨(some 27), .len (.tmp 26), none, 0, none⟩,
    ⟨(some 28), .bin .gtr (.tmp 27) (.const (.int .i64 (64))), none, 0, none⟩] []) (.cond (.tmp 28) (.seq (.region 0 [
    ⟨(some 2), .move (.const (.bool false)), none, 0, none⟩] []) (.ret)) (.skip))) (.seq (.seq (.region 0 [
    ⟨(some 29), .fieldAddr 4 (.tmp 1), none, 0, none⟩,
    ⟨(some 30), .load false 1 (.tmp 29), none, 0, none⟩,
    ⟨(some 31), .len (.tmp 30), none, 0, none⟩,
    ⟨(some 32), .move (.const (.int .i64 (0))), none, 0, none⟩] []) (.block 2 (.loop [30, 31, 32] ⟨[(32, (.v (.int .i64)))], [30, 31], []⟩ (.seq (.region 0 [
    ⟨(some 33), .bin .lss (.tmp 32) (.tmp 31), none, 0, none⟩] []) (.seq (.cond (.tmp 33) (.skip) (.exit 2)) (.seq (.block 3 (.seq (.region 0 [
    ⟨(some 34), .indexSl 1 (.tmp 30) (.tmp 32), none, 0, none⟩,
    ⟨(some 35), .load false 1 (.tmp 34), none, 0, none⟩,
    ⟨(some 7), .move (.tmp 35), none, 0, none⟩] []) (.seq (.region 0 [
    ⟨(some 36), .move (.tmp 7), none, 0, none⟩,
    ⟨(some 37), .bin .lss (.tmp 36) (.const (.int .i64 (0))), none, 0, none⟩,
    ⟨(some 38), .move (.tmp 37), none, 0, none⟩,
    ⟨(some 39), .move (.tmp 7), (some (38, false)), 0, none⟩,
    ⟨(some 40), .bin .gtr (.tmp 39) (.const (.int .i64 (281474976710656))), (some (38, false)), 0, none⟩,
    ⟨(some 41), .pick (.tmp 38) (.const (.bool true)) (.tmp 40), none, 0, none⟩] []) (.cond (.tmp 41) (.seq (.region 0 [
    ⟨(some 2), .move (.const (.bool false)), none, 0, none⟩] []) (.ret)) (.skip))))) (.region 0 [
    ⟨(some 42), .bin .add (.tmp 32) (.const (.int .i64 (1))), none, 0, none⟩,
    ⟨(some 32), .move (.tmp 42), none, 0, none⟩] []))))))) (.seq (.region 0 [
    ⟨(some 2), .move (.const (.bool true)), none, 0, none⟩] []) (.ret)))))), [.tmp 2], true⟩
def s23 : Sig := ⟨(.cons (.v .reply) .nil), [], ((.v .bool), []), []⟩
def l23_0 (ar0 : Reply) (nx4 : ((Int × Unit) × Unit) → Option Bool) (z5 : Int) : Option Bool :=
  cond (decide (z5 < (List.length ar0.nums : Int)))
    (cond (decide (0 ≤ z5))
      (Option.bind (ar0.nums[Int.toNat z5]?) fun y6 =>
      cond (decide (y6 < 0))
        (some false)
        (cond (decide (281474976710656 < y6))
          (some false)
          (nx4 ((IntKind.wrap .i64 (z5 + 1), ()), ()))))
      (none))
    (some true)
def F23 (L : Lp) (g70 : Option (Int × (Int × (Int × Int)))) (g78 : Reply → Option (Int × (Int × (Int × Int)))) (ar0 : Reply) : Option Bool :=
  Option.bind (g70) fun r1 =>
  Option.bind (g78 ar0) fun r2 =>
  cond (decide (r2.1 < 0))
    (some false)
    (cond (decide (r1.1 < r2.1))
      (some false)
      (cond (decide (r2.2.1 < 0))
        (some false)
        (cond (decide (r1.2.1 < r2.2.1))
          (some false)
          (cond (decide (r2.2.2.1 < 0))
            (some false)
            (cond (decide (r1.2.2.1 < r2.2.2.1))
              (some false)
              (cond (decide (r2.2.2.2 < 0))
                (some false)
                (cond (decide (r1.2.2.2 < r2.2.2.2))
                  (some false)
                  (cond (decide (64 < (List.length ar0.nums : Int)))
                    (some false)
                    (L (fun (s3 : ((Int × Unit) × Unit)) nx4 => l23_0 ar0 nx4 s3.1.1) ((0, ()), ()))))))))))
theorem e23 (L : Lp) (g70 : Option (Int × (Int × (Int × Int)))) (g78 : Reply → Option (Int × (Int × (Int × Int)))) (x : s23.args.den) (h : denH s23.heap) : nrun [⟨70, s70, fun x h => g70 ⟩, ⟨78, s78, fun x h => g78 x.1⟩] L n23 s23 x h = F23 L g70 g78 x.1 := by kernel_rfl
def f23 : Reply → Option Bool := F23 (@LN LOOPS) f70 f78
@[reducible] def t23 : Ent := ⟨23, s23, fun x h => f23 x.1⟩
theorem k23 : chkNF Try.prog Try.f23 n23 = true := by kernel_rfl
theorem ok23 : NOk Try.prog t23 := NOk.body (T := [t70, t78]) mixed (nall_cons ok70 (nall_cons ok78 nall_nil)) (oneEach_of (by kernel_rfl)) Try.func23 k23 (by kernel_rfl) (fun x h => e23 _ _ _ x h)
/- slices.Clone[[]byte,byte] -/
def n108 : NFunc := ⟨8, .seq (.region 0 [
    ⟨(some 2), .move (.const (.zsl)), none, 0, none⟩] []) (.seq (.seq (.region 0 [
    ⟨(some 3), .move (.tmp 0), none, 0, none⟩,
    ⟨(some 4), .eqI false (.tmp 3) (.const (.zsl)), none, 0, none⟩] []) (.cond (.tmp 4) (.seq (.region 0 [
    ⟨(some 2), .move (.const (.zsl)), none, 0, none⟩] []) (.ret)) (.skip))) (.seq (.region 2 [
    ⟨(some 5), .buildSlice 1 0 true [.int .u8 (0)] [], none, 0, none⟩,
    ⟨(some 6), .move (.tmp 0), none, 1, none⟩,
    ⟨(some 7), .append 1 1 true (.tmp 5) (.tmp 6), none, 1, none⟩,
    ⟨(some 2), .move (.tmp 7), none, 2, none⟩] []) (.ret))), [.tmp 2], false⟩
def s108 : Sig := ⟨(.cons (.v (.list (.int .u8))) .nil), [], ((.slw 0 1), [.typed (.int .u8)]), []⟩
def F108 (L : Lp)  (as0 : (List Int)) : Option (Unit × ((List Int) × Unit)) :=
  cond (List.isEmpty as0)
    (none)
    (cond (smallB (0 + (List.length as0)) 1)
      (some ((), ([] ++ as0, ())))
      (none))
theorem e108 (L : Lp)  (x : s108.args.den) (h : denH s108.heap) : nrun [] L n108 s108 x h = F108 L  x.1 := by kernel_rfl
def f108 : (List Int) → Option (Unit × ((List Int) × Unit)) := cloneF (F108 (@LN LOOPS))
@[reducible] def t108 : Ent := ⟨108, s108, fun x h => f108 x.1⟩
theorem k108 : chkNF Try.prog Try.f108 n108 = true := by kernel_rfl
theorem c108 (A : Option Addr) (c : Nat) (w : World) : Calls Try.prog 108 #[.slice A 0 c] w (fun e w' => ∃ A', e = .returned (.slice A' 0 0) ∧ Go.RowKit.Below w.heap.size w w') := by
  have hq := fun (u : World) => Lib.run_eql_slice_nil (P := Try.prog) u 29 5 A 0 c 0 0 Try.underlying29
  cases A with
  | none => (go_enter Try.func108, Try.ntmps108; go_wp2; go_ret; exact ⟨_, rfl, Go.RowKit.Below.refl _ _⟩)
  | some ad => (go_enter Try.func108, Try.ntmps108; go_wp2; go_ret; exact ⟨_, rfl, (Go.RowKit.Below.refl _ _).alloc (Nat.le_refl _) _⟩)
theorem b108 : NOk Try.prog ⟨108, s108, fun x h => F108 (@LN LOOPS) x.1⟩ := NOk.body (T := []) mixed nall_nil (oneEach_of (by kernel_rfl)) Try.func108 k108 (by kernel_rfl) (fun x h => e108 _  x h)
theorem ok108 : NOk Try.prog t108 := NOk.clone (t := (.int .u8)) b108 (clone_empty (.int .u8) b108.1 c108)
/- drayage/codec.Put -/
def n67 : NFunc := ⟨50, .seq (.region 0 [
    ⟨(some 4), .move (.const (.zsl)), none, 0, none⟩,
    ⟨(some 5), .move (.const (.int .i64 (0))), none, 0, none⟩] []) (.seq (.seq (.region 0 [
    ⟨(some 11), .move (.tmp 1), none, 0, none⟩,
    ⟨(some 12), .len (.tmp 11), none, 0, none⟩,
    ⟨(some 13), .move (.const (.int .i64 (0))), none, 0, none⟩] []) (.block 0 (.loop [0, 1, 11, 12, 13] ⟨[(13, (.v (.int .i64)))], [0, 1, 11, 12], []⟩ (.seq (.region 0 [
    ⟨(some 14), .bin .lss (.tmp 13) (.tmp 12), none, 0, none⟩] []) (.seq (.cond (.tmp 14) (.skip) (.exit 0)) (.seq (.block 1 (.seq (.region 0 [
    ⟨(some 15), .indexSl 1 (.tmp 11) (.tmp 13), none, 0, none⟩,
    ⟨(some 16), .load false 1 (.tmp 15), none, 0, none⟩,
    ⟨(some 7), .move (.tmp 16), none, 0, none⟩] []) (.seq (.region 0 [
    ⟨(some 17), .move (.tmp 7), none, 0, none⟩,
    ⟨(some 18), .bin .lss (.tmp 17) (.const (.int .i64 (0))), none, 0, none⟩,
    ⟨(some 19), .move (.tmp 18), none, 0, none⟩,
    ⟨(some 20), .move (.tmp 7), (some (19, false)), 0, none⟩,
    ⟨(some 21), .bin .gtr (.tmp 20) (.const (.int .i64 (281474976710656))), (some (19, false)), 0, none⟩,
    ⟨(some 22), .pick (.tmp 19) (.const (.bool true)) (.tmp 21), none, 0, none⟩] []) (.cond (.tmp 22) (.seq (.region 0 [
    ⟨(some 4), .move (.const (.zsl)), none, 0, none⟩,
    ⟨(some 5), .move (.const (.int .i64 (2))), none, 0, none⟩] []) (.ret)) (.skip))))) (.region 0 [
    ⟨(some 23), .bin .add (.tmp 13) (.const (.int .i64 (1))), none, 0, none⟩,
    ⟨(some 13), .move (.tmp 23), none, 0, none⟩] []))))))) (.seq (.region 4 [
    ⟨(some 24), .move (.tmp 0), none, 0, none⟩,
    ⟨(some 25), .call (.func 108) [(false, (.tmp 24))] false 4, none, 0, none⟩,
    ⟨(some 8), .move (.tmp 25), none, 4, none⟩] []) (.seq (.seq (.region 0 [
    ⟨(some 26), .move (.tmp 1), none, 0, none⟩,
    ⟨(some 27), .len (.tmp 26), none, 0, none⟩,
    ⟨(some 28), .move (.const (.int .i64 (0))), none, 0, none⟩] []) (.block 2 (.loop [8, 26, 27, 28] ⟨[(8, (.slw 0 1)), (28, (.v (.int .i64)))], [26, 27], [.typed (.int .u8)]⟩ (.seq (.region 0 [
    ⟨(some 29), .bin .lss (.tmp 28) (.tmp 27), none, 0, none⟩] []) (.seq (.cond (.tmp 29) (.skip) (.exit 2)) (.seq (.block 3 (.seq (.region 0 [
    ⟨(some 30), .indexSl 1 (.tmp 26) (.tmp 28), none, 0, none⟩,
    ⟨(some 31), .load false 1 (.tmp 30), none, 0, none⟩,
    ⟨(some 10), .move (.tmp 31), none, 0, none⟩] []) (.seq (.block 4 (.loop [8, 10, 26, 27, 28] ⟨[(8, (.slw 0 1)), (10, (.v (.int .i64)))], [26, 27, 28], [.typed (.int .u8)]⟩ (.seq (.seq (.region 0 [
    ⟨(some 32), .move (.tmp 10), none, 0, none⟩,
    ⟨(some 33), .bin .geq (.tmp 32) (.const (.int .i64 (128))), none, 0, none⟩] []) (.cond (.tmp 33) (.skip) (.exit 4))) (.block 5 (.seq (.region 2 [
    ⟨(some 34), .move (.tmp 8), none, 0, none⟩,
    ⟨(some 35), .move (.tmp 10), none, 0, none⟩,
    ⟨(some 36), .bin .rem (.tmp 35) (.const (.int .i64 (128))), none, 0, none⟩,
    ⟨(some 37), .bin .add (.tmp 36) (.const (.int .i64 (128))), none, 0, none⟩,
    ⟨(some 38), .conv .u8 (.tmp 37), none, 0, none⟩,
    ⟨(some 39), .buildSlice 1 1 true [.int .u8 (0)] [(0, (.tmp 38))], none, 0, none⟩,
    ⟨(some 40), .append 1 1 true (.tmp 34) (.tmp 39), none, 1, none⟩,
    ⟨(some 8), .move (.tmp 40), none, 2, none⟩] []) (.region 0 [
    ⟨(some 41), .move (.tmp 10), none, 0, none⟩,
    ⟨(some 42), .bin .quo (.tmp 41) (.const (.int .i64 (128))), none, 0, none⟩,
    ⟨(some 10), .move (.tmp 42), none, 0, none⟩] [])))))) (.region 2 [
    ⟨(some 43), .move (.tmp 8), none, 0, none⟩,
    ⟨(some 44), .move (.tmp 10), none, 0, none⟩,
    ⟨(some 45), .conv .u8 (.tmp 44), none, 0, none⟩,
    ⟨(some 46), .buildSlice 1 1 true [.int .u8 (0)] [(0, (.tmp 45))], none, 0, none⟩,
    ⟨(some 47), .append 1 1 true (.tmp 43) (.tmp 46), none, 1, none⟩,
    ⟨(some 8), .move (.tmp 47), none, 2, none⟩] [])))) (.region 0 [
    ⟨(some 48), .bin .add (.tmp 28) (.const (.int .i64 (1))), none, 0, none⟩,
    ⟨(some 28), .move (.tmp 48), none, 0, none⟩] []))))))) (.seq (.region 0 [
    ⟨(some 49), .move (.tmp 8), none, 0, none⟩,
    ⟨(some 4), .move (.tmp 49), none, 0, none⟩,
    ⟨(some 5), .move (.const (.int .i64 (0))), none, 0, none⟩] []) (.ret))))), [.tmp 4, .tmp 5], true⟩
def s67 : Sig := ⟨(.cons (.v (.list (.int .u8))) (.cons (.v (.list (.int .i64))) .nil)), [], ((.tup (.cons (.v (.list (.int .u8))) (.cons (.v (.int .i64)) .nil))), []), []⟩
def l67_0 (nx8 : (((Unit × (Int × Unit)) × ((List Int) × Unit)) → Option ((List Int) × (Int × Unit)))) (z9 : Int) (nx13 : ((Unit × (Int × Unit)) × ((List Int) × Unit)) → Option ((List Int) × (Int × Unit))) (zn14 : Int) (z15 : (List Int)) : Option ((List Int) × (Int × Unit)) :=
  cond (decide (128 ≤ zn14))
    (cond (smallB ((List.length z15) + 1) 1)
      (nx13 (((), IntKind.wrap .i64 (Int.tdiv zn14 128), ()), (z15 ++ [IntKind.wrap .u8 (IntKind.wrap .i64 ((Int.tmod zn14 128) + 128))], ())))
      (none))
    (cond (smallB ((List.length z15) + 1) 1)
      (nx8 (((), IntKind.wrap .i64 (z9 + 1), ()), (z15 ++ [IntKind.wrap .u8 (zn14)], ())))
      (none))
def l67_1 (L : Lp) (al1 : (List Int)) (nx8 : ((Unit × (Int × Unit)) × ((List Int) × Unit)) → Option ((List Int) × (Int × Unit))) (z9 : Int) (z10 : (List Int)) : Option ((List Int) × (Int × Unit)) :=
  cond (decide (z9 < (List.length al1 : Int)))
    (cond (decide (0 ≤ z9))
      (Option.bind (al1[Int.toNat z9]?) fun y11 =>
      L (fun (s12 : ((Unit × (Int × Unit)) × ((List Int) × Unit))) nx13 => l67_0 nx8 z9 nx13 s12.1.2.1 s12.2.1) (((), y11, ()), (z10, ())))
      (none))
    (some (z10, 0, ()))
def l67_2 (L : Lp) (g108 : (List Int) → Option (Unit × ((List Int) × Unit))) (b0 : (List Int)) (al1 : (List Int)) (nx3 : ((Int × Unit) × Unit) → Option ((List Int) × (Int × Unit))) (z4 : Int) : Option ((List Int) × (Int × Unit)) :=
  cond (decide (z4 < (List.length al1 : Int)))
    (cond (decide (0 ≤ z4))
      (Option.bind (al1[Int.toNat z4]?) fun y5 =>
      cond (decide (y5 < 0))
        (some ([], 2, ()))
        (cond (decide (281474976710656 < y5))
          (some ([], 2, ()))
          (nx3 ((IntKind.wrap .i64 (z4 + 1), ()), ()))))
      (none))
    (Option.bind (g108 b0) fun r6 =>
    L (fun (s7 : ((Unit × (Int × Unit)) × ((List Int) × Unit))) nx8 => l67_1 L al1 nx8 s7.1.2.1 s7.2.1) (((), 0, ()), (r6.2.1, ())))
def F67 (L : Lp) (g108 : (List Int) → Option (Unit × ((List Int) × Unit))) (b0 : (List Int)) (al1 : (List Int)) : Option ((List Int) × (Int × Unit)) :=
  L (fun (s2 : ((Int × Unit) × Unit)) nx3 => l67_2 L g108 b0 al1 nx3 s2.1.1) ((0, ()), ())
theorem e67 (L : Lp) (g108 : (List Int) → Option (Unit × ((List Int) × Unit))) (x : s67.args.den) (h : denH s67.heap) : nrun [⟨108, s108, fun x h => g108 x.1⟩] L n67 s67 x h = F67 L g108 x.1 x.2.1 := by kernel_rfl
def f67 : (List Int) → (List Int) → Option ((List Int) × (Int × Unit)) := F67 (@LN LOOPS) f108
@[reducible] def t67 : Ent := ⟨67, s67, fun x h => f67 x.1 x.2.1⟩
theorem k67 : chkNF Try.prog Try.f67 n67 = true := by kernel_rfl
theorem ok67 : NOk Try.prog t67 := NOk.body (T := [t108]) mixed (nall_cons ok108 nall_nil) (oneEach_of (by kernel_rfl)) Try.func67 k67 (by kernel_rfl) (fun x h => e67 _ _ x h)
/- drayage/reply.Write -/
def n22 : NFunc := ⟨38, .seq (.region 1 [
    ⟨(some 1), .box 5 (.tmp 0), none, 0, none⟩,
    ⟨(some 2), .move (.const (.zsl)), none, 1, none⟩,
    ⟨(some 3), .move (.const (.int .i64 (0))), none, 1, none⟩] []) (.seq (.seq (.region 4 [
    ⟨(some 7), .load true 5 (.tmp 1), none, 0, none⟩,
    ⟨(some 8), .call (.func 23) [(false, (.tmp 7))] false 4, none, 0, none⟩,
    ⟨(some 9), .un .not (.tmp 8), none, 4, none⟩] []) (.cond (.tmp 9) (.seq (.region 0 [
    ⟨(some 2), .move (.const (.zsl)), none, 0, none⟩,
    ⟨(some 3), .move (.const (.int .i64 (2))), none, 0, none⟩] []) (.ret)) (.skip))) (.seq (.region 5 [
    ⟨(some 10), .load true 5 (.tmp 1), none, 0, none⟩,
    ⟨(some 11), .call (.func 78) [(false, (.tmp 10))] false 4, none, 0, none⟩,
    ⟨(some 4), .alloc [.int .i64 (0), .int .i64 (0), .int .i64 (0), .int .i64 (0)], none, 4, none⟩,
    ⟨none, .store 4 (.tmp 4) (.tmp 11), none, 5, none⟩] []) (.seq (.region 4 [
    ⟨(some 13), .sliceArr 4 1 (.tmp 4), none, 0, none⟩,
    ⟨(some 14), .call (.func 67) [(false, (.const (.zsl))), (false, (.tmp 13))] false 4, none, 0, none⟩,
    ⟨(some 12), .move (.tmp 14), none, 4, none⟩,
    ⟨(some 15), .extract (.tmp 12) 0, none, 4, none⟩,
    ⟨(some 16), .extract (.tmp 12) 1, none, 4, none⟩,
    ⟨(some 5), .move (.tmp 15), none, 4, none⟩,
    ⟨(some 6), .move (.tmp 16), none, 4, none⟩] []) (.seq (.seq (.region 0 [
    ⟨(some 17), .move (.tmp 6), none, 0, none⟩,
    ⟨(some 18), .bin .neq (.tmp 17) (.const (.int .i64 (0))), none, 0, none⟩] []) (.cond (.tmp 18) (.seq (.region 0 [
    ⟨(some 19), .move (.tmp 6), none, 0, none⟩,
    ⟨(some 2), .move (.const (.zsl)), none, 0, none⟩,
    ⟨(some 3), .move (.tmp 19), none, 0, none⟩] []) (.ret)) (.skip))) (.seq (.region 5 [
    ⟨(some 21), .move (.tmp 5), none, 0, none⟩,
    ⟨(some 22), .fieldAddr 4 (.tmp 1), none, 0, none⟩,
    ⟨(some 23), .load false 1 (.tmp 22), none, 0, none⟩,
    ⟨(some 24), .len (.tmp 23), none, 0, none⟩,
    ⟨(some 25), .buildSlice 1 1 true [.int .i64 (0)] [(0, (.tmp 24))], none, 0, none⟩,
    ⟨(some 26), .call (.func 67) [(false, (.tmp 21)), (false, (.tmp 25))] false 4, none, 1, none⟩,
    ⟨(some 20), .move (.tmp 26), none, 5, none⟩,
    ⟨(some 27), .extract (.tmp 20) 0, none, 5, none⟩,
    ⟨(some 28), .extract (.tmp 20) 1, none, 5, none⟩,
    ⟨(some 5), .move (.tmp 27), none, 5, none⟩,
    ⟨(some 6), .move (.tmp 28), none, 5, none⟩] []) (.seq (.seq (.region 0 [
    ⟨(some 29), .move (.tmp 6), none, 0, none⟩,
    ⟨(some 30), .bin .neq (.tmp 29) (.const (.int .i64 (0))), none, 0, none⟩] []) (.cond (.tmp 30) (.seq (.region 0 [
    ⟨(some 31), .move (.tmp 6), none, 0, none⟩,
    ⟨(some 2), .move (.const (.zsl)), none, 0, none⟩,
    ⟨(some 3), .move (.tmp 31), none, 0, none⟩] []) (.ret)) (.skip))) (.seq (.region 4 [
    ⟨(some 32), .move (.tmp 5), none, 0, none⟩,
    ⟨(some 33), .fieldAddr 4 (.tmp 1), none, 0, none⟩,
    ⟨(some 34), .load false 1 (.tmp 33), none, 0, none⟩,
    ⟨(some 35), .call (.func 67) [(false, (.tmp 32)), (false, (.tmp 34))] false 4, none, 0, none⟩,
    ⟨(some 36), .extract (.tmp 35) 0, none, 4, none⟩,
    ⟨(some 37), .extract (.tmp 35) 1, none, 4, none⟩,
    ⟨(some 2), .move (.tmp 36), none, 4, none⟩,
    ⟨(some 3), .move (.tmp 37), none, 4, none⟩] []) (.ret)))))))), [.tmp 2, .tmp 3], true⟩
def s22 : Sig := ⟨(.cons (.v .reply) .nil), [], ((.tup (.cons (.v (.list (.int .u8))) (.cons (.v (.int .i64)) .nil))), []), []⟩
def F22 (L : Lp) (g23 : Reply → Option Bool) (g78 : Reply → Option (Int × (Int × (Int × Int)))) (g67 : (List Int) → (List Int) → Option ((List Int) × (Int × Unit))) (ar0 : Reply) : Option ((List Int) × (Int × Unit)) :=
  Option.bind (g23 ar0) fun r1 =>
  cond (!r1)
    (some ([], 2, ()))
    (Option.bind (g78 ar0) fun r2 =>
    Option.bind (g67 [] [r2.1, r2.2.1, r2.2.2.1, r2.2.2.2]) fun r3 =>
    cond (!decide (r3.2.1 = 0))
      (some ([], r3.2.1, ()))
      (Option.bind (g67 r3.1 [(List.length ar0.nums : Int)]) fun r4 =>
      cond (!decide (r4.2.1 = 0))
        (some ([], r4.2.1, ()))
        (Option.bind (g67 r4.1 ar0.nums) fun r5 =>
        some (r5.1, r5.2.1, ()))))
theorem e22 (L : Lp) (g23 : Reply → Option Bool) (g78 : Reply → Option (Int × (Int × (Int × Int)))) (g67 : (List Int) → (List Int) → Option ((List Int) × (Int × Unit))) (x : s22.args.den) (h : denH s22.heap) : nrun [⟨23, s23, fun x h => g23 x.1⟩, ⟨78, s78, fun x h => g78 x.1⟩, ⟨67, s67, fun x h => g67 x.1 x.2.1⟩] L n22 s22 x h = F22 L g23 g78 g67 x.1 := by kernel_rfl
def f22 : Reply → Option ((List Int) × (Int × Unit)) := F22 (@LN LOOPS) f23 f78 f67
@[reducible] def t22 : Ent := ⟨22, s22, fun x h => f22 x.1⟩
theorem k22 : chkNF Try.prog Try.f22 n22 = true := by kernel_rfl
theorem ok22 : NOk Try.prog t22 := NOk.body (T := [t23, t78, t67]) mixed (nall_cons ok23 (nall_cons ok78 (nall_cons ok67 nall_nil))) (oneEach_of (by kernel_rfl)) Try.func22 k22 (by kernel_rfl) (fun x h => e22 _ _ _ _ x h)
/- drayage/drayageref01.Bytes -/
def n17 : NFunc := ⟨26, .seq (.region 0 [
    ⟨(some 4), .move (.const (.bool false)), none, 0, none⟩] []) (.seq (.seq (.region 0 [
    ⟨(some 6), .move (.tmp 0), none, 0, none⟩,
    ⟨(some 7), .len (.tmp 6), none, 0, none⟩,
    ⟨(some 8), .move (.tmp 1), none, 0, none⟩,
    ⟨(some 9), .len (.tmp 8), none, 0, none⟩,
    ⟨(some 10), .bin .neq (.tmp 7) (.tmp 9), none, 0, none⟩] []) (.cond (.tmp 10) (.seq (.region 0 [
    ⟨(some 4), .move (.const (.bool false)), none, 0, none⟩] []) (.ret)) (.skip))) (.seq (.seq (.region 0 [
    ⟨(some 5), .move (.const (.int .i64 (0))), none, 0, none⟩] []) (.block 0 (.loop [0, 1, 5] ⟨[(5, (.v (.int .i64)))], [0, 1], []⟩ (.seq (.seq (.region 0 [
    ⟨(some 11), .move (.tmp 5), none, 0, none⟩,
    ⟨(some 12), .move (.tmp 0), none, 0, none⟩,
    ⟨(some 13), .len (.tmp 12), none, 0, none⟩,
    ⟨(some 14), .bin .lss (.tmp 11) (.tmp 13), none, 0, none⟩] []) (.cond (.tmp 14) (.skip) (.exit 0))) (.seq (.block 1 (.seq (.region 0 [
    ⟨(some 17), .move (.tmp 0), none, 0, (some ([], none))⟩,
    ⟨(some 18), .move (.tmp 5), none, 0, (some ([], none))⟩,
    ⟨(some 19), .indexSl 1 (.tmp 17) (.tmp 18), none, 0, (some ([], none))⟩,
    ⟨(some 20), .load false 1 (.tmp 19), none, 0, (some ([], none))⟩,
    ⟨(some 21), .move (.tmp 1), none, 0, (some ([], none))⟩,
    ⟨(some 22), .move (.tmp 5), none, 0, (some ([], none))⟩,
    ⟨(some 23), .indexSl 1 (.tmp 21) (.tmp 22), none, 0, (some ([], none))⟩,
    ⟨(some 24), .load false 1 (.tmp 23), none, 0, (some ([], none))⟩,
    ⟨(some 25), .bin .neq (.tmp 20) (.tmp 24), none, 0, (some ([], none))⟩] []) (.cond (.tmp 25) (.seq (.region 0 [
    ⟨(some 4), .move (.const (.bool false)), none, 0, none⟩] []) (.ret)) (.skip)))) (.region 0 [
    ⟨(some 15), .move (.tmp 5), none, 0, none⟩,
    ⟨(some 16), .bin .add (.tmp 15) (.const (.int .i64 (1))), none, 0, none⟩,
    ⟨(some 5), .move (.tmp 16), none, 0, none⟩] [])))))) (.seq (.region 0 [
    ⟨(some 4), .move (.const (.bool true)), none, 0, none⟩] []) (.ret)))), [.tmp 4], true⟩
def s17 : Sig := ⟨(.cons (.v (.list (.int .u8))) (.cons (.v (.list (.int .u8))) .nil)), [], ((.v .bool), []), []⟩
def l17_0 (a0 : (List Int)) (b1 : (List Int)) (nx3 : ((Int × Unit) × Unit) → Option Bool) (i4 : Int) : Option Bool :=
  cond (decide (i4 < (List.length a0 : Int)))
    (cond (decide (0 ≤ i4))
      (Option.bind (a0[Int.toNat i4]?) fun y5 =>
      cond (decide (0 ≤ i4))
        (Option.bind (b1[Int.toNat i4]?) fun y6 =>
        cond (!decide (y5 = y6))
          (some false)
          (nx3 ((IntKind.wrap .i64 (i4 + 1), ()), ())))
        (none))
      (none))
    (some true)
def F17 (L : Lp)  (a0 : (List Int)) (b1 : (List Int)) : Option Bool :=
  cond (!decide ((List.length a0 : Int) = (List.length b1 : Int)))
    (some false)
    (L (fun (s2 : ((Int × Unit) × Unit)) nx3 => l17_0 a0 b1 nx3 s2.1.1) ((0, ()), ()))
theorem e17 (L : Lp)  (x : s17.args.den) (h : denH s17.heap) : nrun [] L n17 s17 x h = F17 L  x.1 x.2.1 := by kernel_rfl
def f17 : (List Int) → (List Int) → Option Bool := F17 (@LN LOOPS) 
@[reducible] def t17 : Ent := ⟨17, s17, fun x h => f17 x.1 x.2.1⟩
theorem k17 : chkNF Try.prog Try.f17 n17 = true := by kernel_rfl
theorem ok17 : NOk Try.prog t17 := NOk.body (T := []) mixed nall_nil (oneEach_of (by kernel_rfl)) Try.func17 k17 (by kernel_rfl) (fun x h => e17 _  x h)
/- drayage/drayagelaw09.awake -/
def n18 : NFunc := ⟨15, .seq (.region 0 [
    ⟨(some 0), .move (.const (.bool false)), none, 0, none⟩] []) (.seq (.region 8 [
    ⟨(some 4), .call (.func 68) [(false, (.const (.int .i64 (7)))), (false, (.const (.int .i64 (50))))] false 4, none, 0, none⟩,
    ⟨(some 5), .call (.func 22) [(false, (.tmp 4))] false 4, none, 4, none⟩,
    ⟨(some 3), .move (.tmp 5), none, 8, none⟩,
    ⟨(some 6), .extract (.tmp 3) 0, none, 8, none⟩,
    ⟨(some 7), .extract (.tmp 3) 1, none, 8, none⟩,
    ⟨(some 1), .move (.tmp 6), none, 8, none⟩,
    ⟨(some 2), .move (.tmp 7), none, 8, none⟩] []) (.seq (.region 5 [
    ⟨(some 8), .move (.tmp 2), none, 0, none⟩,
    ⟨(some 9), .bin .eql (.tmp 8) (.const (.int .i64 (0))), none, 0, none⟩,
    ⟨(some 10), .move (.tmp 9), none, 0, none⟩,
    ⟨(some 11), .move (.tmp 1), (some (10, true)), 0, none⟩,
    ⟨(some 12), .buildSlice 1 5 true [.int .u8 (0)] [(0, (.const (.int .u8 (7)))), (1, (.const (.int .u8 (50)))), (2, (.const (.int .u8 (0)))), (3, (.const (.int .u8 (0)))), (4, (.const (.int .u8 (0))))], (some (10, true)), 0, none⟩,
    ⟨(some 13), .call (.func 17) [(false, (.tmp 11)), (false, (.tmp 12))] false 4, (some (10, true)), 1, none⟩,
    ⟨(some 14), .pick (.tmp 10) (.tmp 13) (.const (.bool false)), none, 5, none⟩,
    ⟨(some 0), .move (.tmp 14), none, 5, none⟩] []) (.ret))), [.tmp 0], true⟩
def s18 : Sig := ⟨.nil, [], ((.v .bool), []), []⟩
def F18 (L : Lp) (g68 : Int → Int → Option Reply) (g22 : Reply → Option ((List Int) × (Int × Unit))) (g17 : (List Int) → (List Int) → Option Bool)  : Option Bool :=
  Option.bind (g68 7 50) fun r0 =>
  Option.bind (g22 r0) fun r1 =>
  cond (decide (r1.2.1 = 0))
    (Option.bind (g17 r1.1 [7, 50, 0, 0, 0]) fun r2 =>
    some r2)
    (some false)
theorem e18 (L : Lp) (g68 : Int → Int → Option Reply) (g22 : Reply → Option ((List Int) × (Int × Unit))) (g17 : (List Int) → (List Int) → Option Bool) (x : s18.args.den) (h : denH s18.heap) : nrun [⟨68, s68, fun x h => g68 x.1 x.2.1⟩, ⟨22, s22, fun x h => g22 x.1⟩, ⟨17, s17, fun x h => g17 x.1 x.2.1⟩] L n18 s18 x h = F18 L g68 g22 g17  := by kernel_rfl
def f18 : Option Bool := F18 (@LN LOOPS) f68 f22 f17
@[reducible] def t18 : Ent := ⟨18, s18, fun x h => f18 ⟩
theorem k18 : chkNF Try.prog Try.f18 n18 = true := by kernel_rfl
theorem ok18 : NOk Try.prog t18 := NOk.body (T := [t68, t22, t17]) mixed (nall_cons ok68 (nall_cons ok22 (nall_cons ok17 nall_nil))) (oneEach_of (by kernel_rfl)) Try.func18 k18 (by kernel_rfl) (fun x h => e18 _ _ _ _ x h)
/- bytes.Clone -/
def n109 : NFunc := ⟨8, .seq (.region 0 [
    ⟨(some 2), .move (.const (.zsl)), none, 0, none⟩] []) (.seq (.seq (.region 0 [
    ⟨(some 3), .move (.tmp 0), none, 0, none⟩,
    ⟨(some 4), .eqI false (.tmp 3) (.const (.zsl)), none, 0, none⟩] []) (.cond (.tmp 4) (.seq (.region 0 [
    ⟨(some 2), .move (.const (.zsl)), none, 0, none⟩] []) (.ret)) (.skip))) (.seq (.region 2 [
    ⟨(some 5), .buildSlice 1 0 true [.int .u8 (0)] [], none, 0, none⟩,
    ⟨(some 6), .move (.tmp 0), none, 1, none⟩,
    ⟨(some 7), .append 1 1 true (.tmp 5) (.tmp 6), none, 1, none⟩,
    ⟨(some 2), .move (.tmp 7), none, 2, none⟩] []) (.ret))), [.tmp 2], false⟩
def s109 : Sig := ⟨(.cons (.v (.list (.int .u8))) .nil), [], ((.slw 0 1), [.typed (.int .u8)]), []⟩
def F109 (L : Lp)  (b0 : (List Int)) : Option (Unit × ((List Int) × Unit)) :=
  cond (List.isEmpty b0)
    (none)
    (cond (smallB (0 + (List.length b0)) 1)
      (some ((), ([] ++ b0, ())))
      (none))
theorem e109 (L : Lp)  (x : s109.args.den) (h : denH s109.heap) : nrun [] L n109 s109 x h = F109 L  x.1 := by kernel_rfl
def f109 : (List Int) → Option (Unit × ((List Int) × Unit)) := cloneF (F109 (@LN LOOPS))
@[reducible] def t109 : Ent := ⟨109, s109, fun x h => f109 x.1⟩
theorem k109 : chkNF Try.prog Try.f109 n109 = true := by kernel_rfl
theorem c109 (A : Option Addr) (c : Nat) (w : World) : Calls Try.prog 109 #[.slice A 0 c] w (fun e w' => ∃ A', e = .returned (.slice A' 0 0) ∧ Go.RowKit.Below w.heap.size w w') := by
  have hq := fun (u : World) => Lib.run_eql_slice_nil (P := Try.prog) u 29 5 A 0 c 0 0 Try.underlying29
  cases A with
  | none => (go_enter Try.func109, Try.ntmps109; go_wp2; go_ret; exact ⟨_, rfl, Go.RowKit.Below.refl _ _⟩)
  | some ad => (go_enter Try.func109, Try.ntmps109; go_wp2; go_ret; exact ⟨_, rfl, (Go.RowKit.Below.refl _ _).alloc (Nat.le_refl _) _⟩)
theorem b109 : NOk Try.prog ⟨109, s109, fun x h => F109 (@LN LOOPS) x.1⟩ := NOk.body (T := []) mixed nall_nil (oneEach_of (by kernel_rfl)) Try.func109 k109 (by kernel_rfl) (fun x h => e109 _  x h)
theorem ok109 : NOk Try.prog t109 := NOk.clone (t := (.int .u8)) b109 (clone_empty (.int .u8) b109.1 c109)
/- drayage/codec.New -/
def n69 : NFunc := ⟨7, .seq (.region 0 [
    ⟨(some 2), .move (.const (.nilp)), none, 0, none⟩] []) (.seq (.post [2] [.frzC 2 0] (.region 5 [
    ⟨(some 3), .move (.tmp 0), none, 0, none⟩,
    ⟨(some 4), .call (.func 109) [(false, (.tmp 3))] false 4, none, 0, none⟩,
    ⟨(some 5), .build [.zsl, .int .i64 (0)] [(0, 1, (.tmp 4))], none, 4, none⟩,
    ⟨(some 6), .box 2 (.tmp 5), none, 4, none⟩,
    ⟨(some 2), .move (.tmp 6), none, 5, none⟩] [])) (.ret)), [.tmp 2], false⟩
def s69 : Sig := ⟨(.cons (.v (.list (.int .u8))) .nil), [], ((.ptr 0 0 0), [.one false (.pair (.list (.int .u8)) (.int .i64))]), []⟩
def F69 (L : Lp) (g109 : (List Int) → Option (Unit × ((List Int) × Unit))) (b0 : (List Int)) : Option (Unit × (((List Int) × Int) × Unit)) :=
  Option.bind (g109 b0) fun r1 =>
  some ((), ((r1.2.1, 0), ()))
theorem e69 (L : Lp) (g109 : (List Int) → Option (Unit × ((List Int) × Unit))) (x : s69.args.den) (h : denH s69.heap) : nrun [⟨109, s109, fun x h => g109 x.1⟩] L n69 s69 x h = F69 L g109 x.1 := by kernel_rfl
def f69 : (List Int) → Option (Unit × (((List Int) × Int) × Unit)) := F69 (@LN LOOPS) f109
@[reducible] def t69 : Ent := ⟨69, s69, fun x h => f69 x.1⟩
theorem k69 : chkNF Try.prog Try.f69 n69 = true := by kernel_rfl
theorem ok69 : NOk Try.prog t69 := NOk.body (T := [t109]) mixed (nall_cons ok109 nall_nil) (oneEach_of (by kernel_rfl)) Try.func69 k69 (by kernel_rfl) (fun x h => e69 _ _ x h)
/- (*drayage/codec.Reader).fail -/
def n110 : NFunc := ⟨12, .seq (.region 0 [
    ⟨(some 4), .move (.const (.int .i64 (0))), none, 0, none⟩] []) (.seq (.region 0 [
    ⟨(some 5), .move (.tmp 0), none, 0, none⟩,
    ⟨(some 6), .move (.tmp 1), none, 0, none⟩,
    ⟨(some 7), .nilCheck (.tmp 5), none, 0, none⟩,
    ⟨(some 8), .fieldAddr 1 (.tmp 7), none, 0, none⟩,
    ⟨none, .store 1 (.tmp 8) (.tmp 6), none, 0, none⟩] []) (.seq (.region 0 [
    ⟨(some 9), .move (.tmp 0), none, 0, none⟩,
    ⟨(some 10), .nilCheck (.tmp 9), none, 0, none⟩,
    ⟨(some 11), .fieldAddr 0 (.tmp 10), none, 0, none⟩,
    ⟨none, .store 1 (.tmp 11) (.const (.zsl)), none, 0, none⟩] []) (.seq (.region 0 [
    ⟨(some 4), .move (.const (.int .i64 (0))), none, 0, none⟩] []) (.ret)))), [.tmp 4], true⟩
def s110 : Sig := ⟨(.cons (.ptr 0 0 0) (.cons (.v (.int .i64)) .nil)), [.one false (.pair (.list (.int .u8)) (.int .i64))], ((.v (.int .i64)), [.cell false (.cons .zsl (.cons (.v (.int .i64)) .nil))]), []⟩
def F110 (L : Lp)  (err0 : Int) (a1 : ((List Int) × Int)) : Option (Int × ((Unit × (Int × Unit)) × Unit)) :=
  some (0, (((), err0, ()), ()))
theorem e110 (L : Lp)  (x : s110.args.den) (h : denH s110.heap) : nrun [] L n110 s110 x h = F110 L  x.2.1 h.1 := by kernel_rfl
def f110 : Int → ((List Int) × Int) → Option (Int × ((Unit × (Int × Unit)) × Unit)) := F110 (@LN LOOPS) 
@[reducible] def t110 : Ent := ⟨110, s110, fun x h => f110 x.2.1 h.1⟩
theorem k110 : chkNF Try.prog Try.f110 n110 = true := by kernel_rfl
theorem ok110 : NOk Try.prog t110 := NOk.body (T := []) mixed nall_nil (oneEach_of (by kernel_rfl)) Try.func110 k110 (by kernel_rfl) (fun x h => e110 _  x h)
/- (*drayage/codec.Reader).Number -/
def n72 : NFunc := ⟨69, .seq (.region 0 [
    ⟨(some 2), .move (.const (.int .i64 (0))), none, 0, none⟩] []) (.scope 0 [0, 3, 4] ⟨[(0, (.ptr 0 0 0)), (3, (.v (.int .i64))), (4, (.v (.int .i64)))], [], [.one false (.pair (.list (.int .u8)) (.int .i64))]⟩ (.seq (.skip) (.seq (.seq (.region 0 [
    ⟨(some 15), .move (.tmp 4), none, 0, none⟩,
    ⟨(some 16), .bin .eql (.tmp 15) (.const (.int .i64 (8))), none, 0, none⟩] []) (.cond (.tmp 16) (.seq (.region 4 [
    ⟨(some 17), .move (.tmp 0), none, 0, none⟩,
    ⟨(some 18), .call (.func 110) [(true, (.tmp 17)), (false, (.const (.int .i64 (11))))] false 4, none, 0, none⟩,
    ⟨(some 2), .move (.tmp 18), none, 4, none⟩] []) (.ret)) (.skip))) (.seq (.seq (.region 0 [
    ⟨(some 19), .move (.tmp 4), none, 0, none⟩,
    ⟨(some 20), .move (.tmp 0), none, 0, none⟩,
    ⟨(some 21), .nilCheck (.tmp 20), none, 0, none⟩,
    ⟨(some 22), .fieldAddr 0 (.tmp 21), none, 0, none⟩,
    ⟨(some 23), .load false 1 (.tmp 22), none, 0, none⟩,
    ⟨(some 24), .len (.tmp 23), none, 0, none⟩,
    ⟨(some 25), .bin .eql (.tmp 19) (.tmp 24), none, 0, none⟩] []) (.cond (.tmp 25) (.seq (.region 4 [
    ⟨(some 26), .move (.tmp 0), none, 0, none⟩,
    ⟨(some 27), .call (.func 110) [(true, (.tmp 26)), (false, (.const (.int .i64 (10))))] false 4, none, 0, none⟩,
    ⟨(some 2), .move (.tmp 27), none, 4, none⟩] []) (.ret)) (.skip))) (.seq (.region 0 [
    ⟨(some 28), .move (.tmp 0), none, 0, none⟩,
    ⟨(some 29), .nilCheck (.tmp 28), none, 0, none⟩,
    ⟨(some 30), .fieldAddr 0 (.tmp 29), none, 0, none⟩,
    ⟨(some 31), .load false 1 (.tmp 30), none, 0, none⟩,
    ⟨(some 32), .move (.tmp 4), none, 0, none⟩,
    ⟨(some 33), .indexSl 1 (.tmp 31) (.tmp 32), none, 0, none⟩,
    ⟨(some 34), .load false 1 (.tmp 33), none, 0, none⟩,
    ⟨(some 35), .conv .i64 (.tmp 34), none, 0, none⟩,
    ⟨(some 5), .move (.tmp 35), none, 0, none⟩] []) (.seq (.region 0 [
    ⟨(some 36), .move (.tmp 3), none, 0, none⟩,
    ⟨(some 37), .move (.tmp 5), none, 0, none⟩,
    ⟨(some 38), .bin .rem (.tmp 37) (.const (.int .i64 (128))), none, 0, none⟩,
    ⟨(some 39), .move (.tmp 4), none, 0, none⟩,
    ⟨(some 40), .bin .mul (.const (.int .i64 (7))) (.tmp 39), none, 0, none⟩,
    ⟨(some 41), .bin .shl (.tmp 38) (.tmp 40), none, 0, none⟩,
    ⟨(some 42), .bin .add (.tmp 36) (.tmp 41), none, 0, none⟩,
    ⟨(some 3), .move (.tmp 42), none, 0, none⟩] []) (.seq (.region 0 [
    ⟨(some 43), .move (.tmp 4), none, 0, none⟩,
    ⟨(some 44), .bin .add (.tmp 43) (.const (.int .i64 (1))), none, 0, none⟩,
    ⟨(some 4), .move (.tmp 44), none, 0, none⟩] []) (.seq (.seq (.region 0 [
    ⟨(some 45), .move (.tmp 5), none, 0, none⟩,
    ⟨(some 46), .bin .geq (.tmp 45) (.const (.int .i64 (128))), none, 0, none⟩] []) (.cond (.tmp 46) (.goto 0) (.skip))) (.seq (.seq (.region 0 [
    ⟨(some 47), .move (.tmp 4), none, 0, none⟩,
    ⟨(some 48), .bin .gtr (.tmp 47) (.const (.int .i64 (1))), none, 0, none⟩,
    ⟨(some 49), .move (.tmp 48), none, 0, none⟩,
    ⟨(some 50), .move (.tmp 5), (some (49, true)), 0, none⟩,
    ⟨(some 51), .bin .eql (.tmp 50) (.const (.int .i64 (0))), (some (49, true)), 0, none⟩,
    ⟨(some 52), .pick (.tmp 49) (.tmp 51) (.const (.bool false)), none, 0, none⟩,
    ⟨(some 53), .move (.tmp 52), none, 0, none⟩,
    ⟨(some 54), .move (.tmp 3), (some (53, false)), 0, none⟩,
    ⟨(some 55), .bin .gtr (.tmp 54) (.const (.int .i64 (281474976710656))), (some (53, false)), 0, none⟩,
    ⟨(some 56), .pick (.tmp 53) (.const (.bool true)) (.tmp 55), none, 0, none⟩] []) (.cond (.tmp 56) (.seq (.region 4 [
    ⟨(some 57), .move (.tmp 0), none, 0, none⟩,
    ⟨(some 58), .call (.func 110) [(true, (.tmp 57)), (false, (.const (.int .i64 (11))))] false 4, none, 0, none⟩,
    ⟨(some 2), .move (.tmp 58), none, 4, none⟩] []) (.ret)) (.skip))) (.seq (.region 0 [
    ⟨(some 59), .move (.tmp 0), none, 0, none⟩,
    ⟨(some 60), .move (.tmp 0), none, 0, none⟩,
    ⟨(some 61), .nilCheck (.tmp 60), none, 0, none⟩,
    ⟨(some 62), .fieldAddr 0 (.tmp 61), none, 0, none⟩,
    ⟨(some 63), .load false 1 (.tmp 62), none, 0, none⟩,
    ⟨(some 64), .move (.tmp 4), none, 0, none⟩,
    ⟨(some 65), .slice 1 (.tmp 63) (some (.tmp 64)) none none, none, 0, none⟩,
    ⟨(some 66), .nilCheck (.tmp 59), none, 0, none⟩,
    ⟨(some 67), .fieldAddr 0 (.tmp 66), none, 0, none⟩,
    ⟨none, .store 1 (.tmp 67) (.tmp 65), none, 0, none⟩] []) (.seq (.region 0 [
    ⟨(some 68), .move (.tmp 3), none, 0, none⟩,
    ⟨(some 2), .move (.tmp 68), none, 0, none⟩] []) (.ret))))))))))) (.seq (.seq (.region 0 [
    ⟨(some 6), .move (.tmp 0), none, 0, none⟩,
    ⟨(some 7), .eqP false (.tmp 6) (.const (.nilp)), none, 0, none⟩,
    ⟨(some 8), .move (.tmp 7), none, 0, none⟩,
    ⟨(some 9), .move (.tmp 0), (some (8, false)), 0, none⟩,
    ⟨(some 10), .nilCheck (.tmp 9), (some (8, false)), 0, none⟩,
    ⟨(some 11), .fieldAddr 1 (.tmp 10), (some (8, false)), 0, none⟩,
    ⟨(some 12), .load false 1 (.tmp 11), (some (8, false)), 0, none⟩,
    ⟨(some 13), .bin .neq (.tmp 12) (.const (.int .i64 (0))), (some (8, false)), 0, none⟩,
    ⟨(some 14), .pick (.tmp 8) (.const (.bool true)) (.tmp 13), none, 0, none⟩] []) (.cond (.tmp 14) (.seq (.region 0 [
    ⟨(some 2), .move (.const (.int .i64 (0))), none, 0, none⟩] []) (.ret)) (.skip))) (.seq (.region 0 [
    ⟨(some 3), .move (.const (.int .i64 (0))), none, 0, none⟩,
    ⟨(some 4), .move (.const (.int .i64 (0))), none, 0, none⟩] []) (.seq (.label) (.seq (.seq (.region 0 [
    ⟨(some 15), .move (.tmp 4), none, 0, none⟩,
    ⟨(some 16), .bin .eql (.tmp 15) (.const (.int .i64 (8))), none, 0, none⟩] []) (.cond (.tmp 16) (.seq (.region 4 [
    ⟨(some 17), .move (.tmp 0), none, 0, none⟩,
    ⟨(some 18), .call (.func 110) [(true, (.tmp 17)), (false, (.const (.int .i64 (11))))] false 4, none, 0, none⟩,
    ⟨(some 2), .move (.tmp 18), none, 4, none⟩] []) (.ret)) (.skip))) (.seq (.seq (.region 0 [
    ⟨(some 19), .move (.tmp 4), none, 0, none⟩,
    ⟨(some 20), .move (.tmp 0), none, 0, none⟩,
    ⟨(some 21), .nilCheck (.tmp 20), none, 0, none⟩,
    ⟨(some 22), .fieldAddr 0 (.tmp 21), none, 0, none⟩,
    ⟨(some 23), .load false 1 (.tmp 22), none, 0, none⟩,
    ⟨(some 24), .len (.tmp 23), none, 0, none⟩,
    ⟨(some 25), .bin .eql (.tmp 19) (.tmp 24), none, 0, none⟩] []) (.cond (.tmp 25) (.seq (.region 4 [
    ⟨(some 26), .move (.tmp 0), none, 0, none⟩,
    ⟨(some 27), .call (.func 110) [(true, (.tmp 26)), (false, (.const (.int .i64 (10))))] false 4, none, 0, none⟩,
    ⟨(some 2), .move (.tmp 27), none, 4, none⟩] []) (.ret)) (.skip))) (.seq (.region 0 [
    ⟨(some 28), .move (.tmp 0), none, 0, none⟩,
    ⟨(some 29), .nilCheck (.tmp 28), none, 0, none⟩,
    ⟨(some 30), .fieldAddr 0 (.tmp 29), none, 0, none⟩,
    ⟨(some 31), .load false 1 (.tmp 30), none, 0, none⟩,
    ⟨(some 32), .move (.tmp 4), none, 0, none⟩,
    ⟨(some 33), .indexSl 1 (.tmp 31) (.tmp 32), none, 0, none⟩,
    ⟨(some 34), .load false 1 (.tmp 33), none, 0, none⟩,
    ⟨(some 35), .conv .i64 (.tmp 34), none, 0, none⟩,
    ⟨(some 5), .move (.tmp 35), none, 0, none⟩] []) (.seq (.region 0 [
    ⟨(some 36), .move (.tmp 3), none, 0, none⟩,
    ⟨(some 37), .move (.tmp 5), none, 0, none⟩,
    ⟨(some 38), .bin .rem (.tmp 37) (.const (.int .i64 (128))), none, 0, none⟩,
    ⟨(some 39), .move (.tmp 4), none, 0, none⟩,
    ⟨(some 40), .bin .mul (.const (.int .i64 (7))) (.tmp 39), none, 0, none⟩,
    ⟨(some 41), .bin .shl (.tmp 38) (.tmp 40), none, 0, none⟩,
    ⟨(some 42), .bin .add (.tmp 36) (.tmp 41), none, 0, none⟩,
    ⟨(some 3), .move (.tmp 42), none, 0, none⟩] []) (.seq (.region 0 [
    ⟨(some 43), .move (.tmp 4), none, 0, none⟩,
    ⟨(some 44), .bin .add (.tmp 43) (.const (.int .i64 (1))), none, 0, none⟩,
    ⟨(some 4), .move (.tmp 44), none, 0, none⟩] []) (.seq (.seq (.region 0 [
    ⟨(some 45), .move (.tmp 5), none, 0, none⟩,
    ⟨(some 46), .bin .geq (.tmp 45) (.const (.int .i64 (128))), none, 0, none⟩] []) (.cond (.tmp 46) (.goto 0) (.skip))) (.seq (.seq (.region 0 [
    ⟨(some 47), .move (.tmp 4), none, 0, none⟩,
    ⟨(some 48), .bin .gtr (.tmp 47) (.const (.int .i64 (1))), none, 0, none⟩,
    ⟨(some 49), .move (.tmp 48), none, 0, none⟩,
    ⟨(some 50), .move (.tmp 5), (some (49, true)), 0, none⟩,
    ⟨(some 51), .bin .eql (.tmp 50) (.const (.int .i64 (0))), (some (49, true)), 0, none⟩,
    ⟨(some 52), .pick (.tmp 49) (.tmp 51) (.const (.bool false)), none, 0, none⟩,
    ⟨(some 53), .move (.tmp 52), none, 0, none⟩,
    ⟨(some 54), .move (.tmp 3), (some (53, false)), 0, none⟩,
    ⟨(some 55), .bin .gtr (.tmp 54) (.const (.int .i64 (281474976710656))), (some (53, false)), 0, none⟩,
    ⟨(some 56), .pick (.tmp 53) (.const (.bool true)) (.tmp 55), none, 0, none⟩] []) (.cond (.tmp 56) (.seq (.region 4 [
    ⟨(some 57), .move (.tmp 0), none, 0, none⟩,
    ⟨(some 58), .call (.func 110) [(true, (.tmp 57)), (false, (.const (.int .i64 (11))))] false 4, none, 0, none⟩,
    ⟨(some 2), .move (.tmp 58), none, 4, none⟩] []) (.ret)) (.skip))) (.seq (.region 0 [
    ⟨(some 59), .move (.tmp 0), none, 0, none⟩,
    ⟨(some 60), .move (.tmp 0), none, 0, none⟩,
    ⟨(some 61), .nilCheck (.tmp 60), none, 0, none⟩,
    ⟨(some 62), .fieldAddr 0 (.tmp 61), none, 0, none⟩,
    ⟨(some 63), .load false 1 (.tmp 62), none, 0, none⟩,
    ⟨(some 64), .move (.tmp 4), none, 0, none⟩,
    ⟨(some 65), .slice 1 (.tmp 63) (some (.tmp 64)) none none, none, 0, none⟩,
    ⟨(some 66), .nilCheck (.tmp 59), none, 0, none⟩,
    ⟨(some 67), .fieldAddr 0 (.tmp 66), none, 0, none⟩,
    ⟨none, .store 1 (.tmp 67) (.tmp 65), none, 0, none⟩] []) (.seq (.region 0 [
    ⟨(some 68), .move (.tmp 3), none, 0, none⟩,
    ⟨(some 2), .move (.tmp 68), none, 0, none⟩] []) (.ret)))))))))))))), [.tmp 2], true⟩
def s72 : Sig := ⟨(.cons (.ptr 0 0 0) .nil), [.one false (.pair (.list (.int .u8)) (.int .i64))], ((.v (.int .i64)), [.one false (.pair (.list (.int .u8)) (.int .i64))]), []⟩
def l72_0 (g110 : Int → ((List Int) × Int) → Option (Int × ((Unit × (Int × Unit)) × Unit))) (nx5 : ((Unit × (Int × (Int × Unit))) × (((List Int) × Int) × Unit)) → Option (Int × (((List Int) × Int) × Unit))) (zn6 : Int) (i7 : Int) (z8 : ((List Int) × Int)) : Option (Int × (((List Int) × Int) × Unit)) :=
  cond (decide (i7 = 8))
    (Option.bind (g110 11 z8) fun r9 =>
    some (r9.1, (([], r9.2.1.2.1), ())))
    (cond (decide (i7 = (List.length z8.1 : Int)))
      (Option.bind (g110 10 z8) fun r10 =>
      some (r10.1, (([], r10.2.1.2.1), ())))
      (cond (decide (0 ≤ i7))
        (Option.bind (z8.1[Int.toNat i7]?) fun y11 =>
        cond (decide ((IntKind.wrap .i64 (7 * i7)) < 0))
          (none)
          (let v12 := IntKind.wrap .i64 ((Int.tmod (IntKind.wrap .i64 (y11)) 128) * 2 ^ (min (Int.toNat (IntKind.wrap .i64 (7 * i7))) 64))
          cond (decide (128 ≤ (IntKind.wrap .i64 (y11))))
            (nx5 (((), IntKind.wrap .i64 (zn6 + v12), IntKind.wrap .i64 (i7 + 1), ()), (z8, ())))
            (cond (decide (1 < (IntKind.wrap .i64 (i7 + 1))))
              (cond (decide ((IntKind.wrap .i64 (y11)) = 0))
                (Option.bind (g110 11 z8) fun r13 =>
                some (r13.1, (([], r13.2.1.2.1), ())))
                (cond (decide (281474976710656 < (IntKind.wrap .i64 (zn6 + v12))))
                  (Option.bind (g110 11 z8) fun r14 =>
                  some (r14.1, (([], r14.2.1.2.1), ())))
                  (cond (decide (0 ≤ (IntKind.wrap .i64 (i7 + 1))))
                    (cond (decide ((Int.toNat (IntKind.wrap .i64 (i7 + 1))) ≤ (List.length z8.1)))
                      (some (IntKind.wrap .i64 (zn6 + v12), ((List.drop (Int.toNat (IntKind.wrap .i64 (i7 + 1))) z8.1, z8.2), ())))
                      (none))
                    (none))))
              (cond (decide (281474976710656 < (IntKind.wrap .i64 (zn6 + v12))))
                (Option.bind (g110 11 z8) fun r15 =>
                some (r15.1, (([], r15.2.1.2.1), ())))
                (cond (decide (0 ≤ (IntKind.wrap .i64 (i7 + 1))))
                  (cond (decide ((Int.toNat (IntKind.wrap .i64 (i7 + 1))) ≤ (List.length z8.1)))
                    (some (IntKind.wrap .i64 (zn6 + v12), ((List.drop (Int.toNat (IntKind.wrap .i64 (i7 + 1))) z8.1, z8.2), ())))
                    (none))
                  (none))))))
        (none)))
def F72 (L : Lp) (g110 : Int → ((List Int) × Int) → Option (Int × ((Unit × (Int × Unit)) × Unit))) (a0 : ((List Int) × Int)) : Option (Int × (((List Int) × Int) × Unit)) :=
  cond (!decide (a0.2 = 0))
    (some (0, (a0, ())))
    (cond (decide (0 = (List.length a0.1 : Int)))
      (Option.bind (g110 10 a0) fun r1 =>
      some (r1.1, (([], r1.2.1.2.1), ())))
      (Option.bind (a0.1[0]?) fun y2 =>
      let v3 := IntKind.wrap .i64 ((Int.tmod (IntKind.wrap .i64 (y2)) 128) * 2 ^ (min (Int.toNat 0) 64))
      cond (decide (128 ≤ (IntKind.wrap .i64 (y2))))
        (L (fun (s4 : ((Unit × (Int × (Int × Unit))) × (((List Int) × Int) × Unit))) nx5 => l72_0 g110 nx5 s4.1.2.1 s4.1.2.2.1 s4.2.1) (((), IntKind.wrap .i64 (0 + v3), 1, ()), (a0, ())))
        (cond (decide (281474976710656 < (IntKind.wrap .i64 (0 + v3))))
          (Option.bind (g110 11 a0) fun r16 =>
          some (r16.1, (([], r16.2.1.2.1), ())))
          (cond (decide (1 ≤ (List.length a0.1)))
            (some (IntKind.wrap .i64 (0 + v3), ((List.drop 1 a0.1, a0.2), ())))
            (none)))))
theorem e72 (L : Lp) (g110 : Int → ((List Int) × Int) → Option (Int × ((Unit × (Int × Unit)) × Unit))) (x : s72.args.den) (h : denH s72.heap) : nrun [⟨110, s110, fun x h => g110 x.2.1 h.1⟩] L n72 s72 x h = F72 L g110 h.1 := by kernel_rfl
def f72 : ((List Int) × Int) → Option (Int × (((List Int) × Int) × Unit)) := F72 (@LN LOOPS) f110
@[reducible] def t72 : Ent := ⟨72, s72, fun x h => f72 h.1⟩
theorem k72 : chkNF Try.prog Try.f72 n72 = true := by kernel_rfl
theorem ok72 : NOk Try.prog t72 := NOk.body (T := [t110]) mixed (nall_cons ok110 nall_nil) (oneEach_of (by kernel_rfl)) Try.func72 k72 (by kernel_rfl) (fun x h => e72 _ _ x h)
/- (*drayage/codec.Reader).Within -/
def n71 : NFunc := ⟨30, .seq (.region 0 [
    ⟨(some 6), .move (.const (.int .i64 (0))), none, 0, none⟩] []) (.seq (.region 4 [
    ⟨(some 8), .move (.tmp 0), none, 0, none⟩,
    ⟨(some 9), .call (.func 72) [(true, (.tmp 8))] false 4, none, 0, none⟩,
    ⟨(some 7), .move (.tmp 9), none, 4, none⟩] []) (.seq (.seq (.region 0 [
    ⟨(some 10), .move (.tmp 0), none, 0, none⟩,
    ⟨(some 11), .eqP false (.tmp 10) (.const (.nilp)), none, 0, none⟩,
    ⟨(some 12), .move (.tmp 11), none, 0, none⟩,
    ⟨(some 13), .move (.tmp 0), (some (12, false)), 0, none⟩,
    ⟨(some 14), .nilCheck (.tmp 13), (some (12, false)), 0, none⟩,
    ⟨(some 15), .fieldAddr 1 (.tmp 14), (some (12, false)), 0, none⟩,
    ⟨(some 16), .load false 1 (.tmp 15), (some (12, false)), 0, none⟩,
    ⟨(some 17), .bin .neq (.tmp 16) (.const (.int .i64 (0))), (some (12, false)), 0, none⟩,
    ⟨(some 18), .pick (.tmp 12) (.const (.bool true)) (.tmp 17), none, 0, none⟩] []) (.cond (.tmp 18) (.seq (.region 0 [
    ⟨(some 6), .move (.const (.int .i64 (0))), none, 0, none⟩] []) (.ret)) (.skip))) (.seq (.seq (.region 0 [
    ⟨(some 19), .move (.tmp 7), none, 0, none⟩,
    ⟨(some 20), .move (.tmp 1), none, 0, none⟩,
    ⟨(some 21), .bin .lss (.tmp 19) (.tmp 20), none, 0, none⟩,
    ⟨(some 22), .move (.tmp 21), none, 0, none⟩,
    ⟨(some 23), .move (.tmp 7), (some (22, false)), 0, none⟩,
    ⟨(some 24), .move (.tmp 2), (some (22, false)), 0, none⟩,
    ⟨(some 25), .bin .gtr (.tmp 23) (.tmp 24), (some (22, false)), 0, none⟩,
    ⟨(some 26), .pick (.tmp 22) (.const (.bool true)) (.tmp 25), none, 0, none⟩] []) (.cond (.tmp 26) (.seq (.region 4 [
    ⟨(some 27), .move (.tmp 0), none, 0, none⟩,
    ⟨(some 28), .call (.func 110) [(true, (.tmp 27)), (false, (.const (.int .i64 (11))))] false 4, none, 0, none⟩,
    ⟨(some 6), .move (.tmp 28), none, 4, none⟩] []) (.ret)) (.skip))) (.seq (.region 0 [
    ⟨(some 29), .move (.tmp 7), none, 0, none⟩,
    ⟨(some 6), .move (.tmp 29), none, 0, none⟩] []) (.ret))))), [.tmp 6], true⟩
def s71 : Sig := ⟨(.cons (.ptr 0 0 0) (.cons (.v (.int .i64)) (.cons (.v (.int .i64)) .nil))), [.one false (.pair (.list (.int .u8)) (.int .i64))], ((.v (.int .i64)), [.one false (.pair (.list (.int .u8)) (.int .i64))]), []⟩
def F71 (L : Lp) (g72 : ((List Int) × Int) → Option (Int × (((List Int) × Int) × Unit))) (g110 : Int → ((List Int) × Int) → Option (Int × ((Unit × (Int × Unit)) × Unit))) (lo0 : Int) (hi1 : Int) (a2 : ((List Int) × Int)) : Option (Int × (((List Int) × Int) × Unit)) :=
  Option.bind (g72 a2) fun r3 =>
  cond (!decide (r3.2.1.2 = 0))
    (some (0, (r3.2.1, ())))
    (cond (decide (r3.1 < lo0))
      (Option.bind (g110 11 r3.2.1) fun r4 =>
      some (r4.1, (([], r4.2.1.2.1), ())))
      (cond (decide (hi1 < r3.1))
        (Option.bind (g110 11 r3.2.1) fun r5 =>
        some (r5.1, (([], r5.2.1.2.1), ())))
        (some (r3.1, (r3.2.1, ())))))
theorem e71 (L : Lp) (g72 : ((List Int) × Int) → Option (Int × (((List Int) × Int) × Unit))) (g110 : Int → ((List Int) × Int) → Option (Int × ((Unit × (Int × Unit)) × Unit))) (x : s71.args.den) (h : denH s71.heap) : nrun [⟨72, s72, fun x h => g72 h.1⟩, ⟨110, s110, fun x h => g110 x.2.1 h.1⟩] L n71 s71 x h = F71 L g72 g110 x.2.1 x.2.2.1 h.1 := by kernel_rfl
def f71 : Int → Int → ((List Int) × Int) → Option (Int × (((List Int) × Int) × Unit)) := F71 (@LN LOOPS) f72 f110
@[reducible] def t71 : Ent := ⟨71, s71, fun x h => f71 x.2.1 x.2.2.1 h.1⟩
theorem k71 : chkNF Try.prog Try.f71 n71 = true := by kernel_rfl
theorem ok71 : NOk Try.prog t71 := NOk.body (T := [t72, t110]) mixed (nall_cons ok72 (nall_cons ok110 nall_nil)) (oneEach_of (by kernel_rfl)) Try.func71 k71 (by kernel_rfl) (fun x h => e71 _ _ _ x h)
/- (*drayage/codec.Reader).Err -/
def n82 : NFunc := ⟨9, .seq (.region 0 [
    ⟨(some 2), .move (.const (.int .i64 (0))), none, 0, none⟩] []) (.seq (.seq (.region 0 [
    ⟨(some 3), .move (.tmp 0), none, 0, none⟩,
    ⟨(some 4), .eqP false (.tmp 3) (.const (.nilp)), none, 0, none⟩] []) (.cond (.tmp 4) (.seq (.region 0 [
    ⟨(some 2), .move (.const (.int .i64 (1))), none, 0, none⟩] []) (.ret)) (.skip))) (.seq (.region 0 [
    ⟨(some 5), .move (.tmp 0), none, 0, none⟩,
    ⟨(some 6), .nilCheck (.tmp 5), none, 0, none⟩,
    ⟨(some 7), .fieldAddr 1 (.tmp 6), none, 0, none⟩,
    ⟨(some 8), .load false 1 (.tmp 7), none, 0, none⟩,
    ⟨(some 2), .move (.tmp 8), none, 0, none⟩] []) (.ret))), [.tmp 2], true⟩
def s82 : Sig := ⟨(.cons (.ptr 0 0 0) .nil), [.one false (.pair (.list (.int .u8)) (.int .i64))], ((.v (.int .i64)), [.one false (.pair (.list (.int .u8)) (.int .i64))]), []⟩
def F82 (L : Lp)  (a0 : ((List Int) × Int)) : Option (Int × (((List Int) × Int) × Unit)) :=
  some (a0.2, (a0, ()))
theorem e82 (L : Lp)  (x : s82.args.den) (h : denH s82.heap) : nrun [] L n82 s82 x h = F82 L  h.1 := by kernel_rfl
def f82 : ((List Int) × Int) → Option (Int × (((List Int) × Int) × Unit)) := F82 (@LN LOOPS) 
@[reducible] def t82 : Ent := ⟨82, s82, fun x h => f82 h.1⟩
theorem k82 : chkNF Try.prog Try.f82 n82 = true := by kernel_rfl
theorem ok82 : NOk Try.prog t82 := NOk.body (T := []) mixed nall_nil (oneEach_of (by kernel_rfl)) Try.func82 k82 (by kernel_rfl) (fun x h => e82 _  x h)
/- (*drayage/codec.Reader).Left -/
def n111 : NFunc := ⟨10, .seq (.region 0 [
    ⟨(some 2), .move (.const (.int .i64 (0))), none, 0, none⟩] []) (.seq (.seq (.region 0 [
    ⟨(some 3), .move (.tmp 0), none, 0, none⟩,
    ⟨(some 4), .eqP false (.tmp 3) (.const (.nilp)), none, 0, none⟩] []) (.cond (.tmp 4) (.seq (.region 0 [
    ⟨(some 2), .move (.const (.int .i64 (0))), none, 0, none⟩] []) (.ret)) (.skip))) (.seq (.region 0 [
    ⟨(some 5), .move (.tmp 0), none, 0, none⟩,
    ⟨(some 6), .nilCheck (.tmp 5), none, 0, none⟩,
    ⟨(some 7), .fieldAddr 0 (.tmp 6), none, 0, none⟩,
    ⟨(some 8), .load false 1 (.tmp 7), none, 0, none⟩,
    ⟨(some 9), .len (.tmp 8), none, 0, none⟩,
    ⟨(some 2), .move (.tmp 9), none, 0, none⟩] []) (.ret))), [.tmp 2], true⟩
def s111 : Sig := ⟨(.cons (.ptr 0 0 0) .nil), [.one false (.pair (.list (.int .u8)) (.int .i64))], ((.v (.int .i64)), [.one false (.pair (.list (.int .u8)) (.int .i64))]), []⟩
def F111 (L : Lp)  (a0 : ((List Int) × Int)) : Option (Int × (((List Int) × Int) × Unit)) :=
  some ((List.length a0.1 : Int), (a0, ()))
theorem e111 (L : Lp)  (x : s111.args.den) (h : denH s111.heap) : nrun [] L n111 s111 x h = F111 L  h.1 := by kernel_rfl
def f111 : ((List Int) × Int) → Option (Int × (((List Int) × Int) × Unit)) := F111 (@LN LOOPS) 
@[reducible] def t111 : Ent := ⟨111, s111, fun x h => f111 h.1⟩
theorem k111 : chkNF Try.prog Try.f111 n111 = true := by kernel_rfl
theorem ok111 : NOk Try.prog t111 := NOk.body (T := []) mixed nall_nil (oneEach_of (by kernel_rfl)) Try.func111 k111 (by kernel_rfl) (fun x h => e111 _  x h)
/- (*drayage/codec.Reader).End -/
def n73 : NFunc := ⟨12, .seq (.region 0 [
    ⟨(some 2), .move (.const (.int .i64 (0))), none, 0, none⟩] []) (.seq (.seq (.region 4 [
    ⟨(some 4), .move (.tmp 0), none, 0, none⟩,
    ⟨(some 5), .call (.func 82) [(true, (.tmp 4))] false 4, none, 0, none⟩,
    ⟨(some 3), .move (.tmp 5), none, 4, none⟩] []) (.seq (.region 0 [
    ⟨(some 6), .move (.tmp 3), none, 0, none⟩,
    ⟨(some 7), .bin .neq (.tmp 6) (.const (.int .i64 (0))), none, 0, none⟩] []) (.cond (.tmp 7) (.seq (.region 0 [
    ⟨(some 8), .move (.tmp 3), none, 0, none⟩,
    ⟨(some 2), .move (.tmp 8), none, 0, none⟩] []) (.ret)) (.skip)))) (.seq (.seq (.region 4 [
    ⟨(some 9), .move (.tmp 0), none, 0, none⟩,
    ⟨(some 10), .call (.func 111) [(true, (.tmp 9))] false 4, none, 0, none⟩,
    ⟨(some 11), .bin .gtr (.tmp 10) (.const (.int .i64 (0))), none, 4, none⟩] []) (.cond (.tmp 11) (.seq (.region 0 [
    ⟨(some 2), .move (.const (.int .i64 (11))), none, 0, none⟩] []) (.ret)) (.skip))) (.seq (.region 0 [
    ⟨(some 2), .move (.const (.int .i64 (0))), none, 0, none⟩] []) (.ret)))), [.tmp 2], true⟩
def s73 : Sig := ⟨(.cons (.ptr 0 0 0) .nil), [.one false (.pair (.list (.int .u8)) (.int .i64))], ((.v (.int .i64)), [.one false (.pair (.list (.int .u8)) (.int .i64))]), []⟩
def F73 (L : Lp) (g82 : ((List Int) × Int) → Option (Int × (((List Int) × Int) × Unit))) (g111 : ((List Int) × Int) → Option (Int × (((List Int) × Int) × Unit))) (a0 : ((List Int) × Int)) : Option (Int × (((List Int) × Int) × Unit)) :=
  Option.bind (g82 a0) fun r1 =>
  cond (!decide (r1.1 = 0))
    (some (r1.1, (r1.2.1, ())))
    (Option.bind (g111 r1.2.1) fun r2 =>
    cond (decide (0 < r2.1))
      (some (11, (r2.2.1, ())))
      (some (0, (r2.2.1, ()))))
theorem e73 (L : Lp) (g82 : ((List Int) × Int) → Option (Int × (((List Int) × Int) × Unit))) (g111 : ((List Int) × Int) → Option (Int × (((List Int) × Int) × Unit))) (x : s73.args.den) (h : denH s73.heap) : nrun [⟨82, s82, fun x h => g82 h.1⟩, ⟨111, s111, fun x h => g111 h.1⟩] L n73 s73 x h = F73 L g82 g111 h.1 := by kernel_rfl
def f73 : ((List Int) × Int) → Option (Int × (((List Int) × Int) × Unit)) := F73 (@LN LOOPS) f82 f111
@[reducible] def t73 : Ent := ⟨73, s73, fun x h => f73 h.1⟩
theorem k73 : chkNF Try.prog Try.f73 n73 = true := by kernel_rfl
theorem ok73 : NOk Try.prog t73 := NOk.body (T := [t82, t111]) mixed (nall_cons ok82 (nall_cons ok111 nall_nil)) (oneEach_of (by kernel_rfl)) Try.func73 k73 (by kernel_rfl) (fun x h => e73 _ _ _ x h)
/- drayage/reply.Read -/
def n19 : NFunc := ⟨51, .seq (.region 1 [
    ⟨(some 2), .alloc [.int .i64 (0), .int .i64 (0), .int .i64 (0), .int .i64 (0), .zsl], none, 0, none⟩,
    ⟨(some 3), .move (.const (.int .i64 (0))), none, 1, none⟩] []) (.seq (.region 4 [
    ⟨(some 10), .move (.tmp 0), none, 0, none⟩,
    ⟨(some 11), .call (.func 69) [(false, (.tmp 10))] false 4, none, 0, none⟩,
    ⟨(some 4), .move (.tmp 11), none, 4, none⟩] []) (.seq (.region 1 [
    ⟨(some 5), .alloc [.int .i64 (0), .int .i64 (0), .int .i64 (0), .int .i64 (0)], none, 0, none⟩] []) (.seq (.seq (.region 4 [
    ⟨(some 12), .call (.func 70) [] false 4, none, 0, none⟩,
    ⟨(some 13), .move (.const (.int .i64 (0))), none, 4, none⟩] []) (.block 0 (.loopU [2, 4, 5, 12, 13] 5 (.seq (.region 0 [
    ⟨(some 14), .bin .lss (.tmp 13) (.const (.int .i64 (4))), none, 0, none⟩] []) (.seq (.cond (.tmp 14) (.skip) (.exit 0)) (.seq (.block 1 (.seq (.region 0 [
    ⟨(some 15), .move (.tmp 13), none, 0, none⟩,
    ⟨(some 16), .indexVal false 4 1 (.tmp 12) (.tmp 13), none, 0, none⟩,
    ⟨(some 6), .move (.tmp 15), none, 0, none⟩,
    ⟨(some 7), .move (.tmp 16), none, 0, none⟩] []) (.region 4 [
    ⟨(some 17), .move (.tmp 6), none, 0, none⟩,
    ⟨(some 18), .move (.tmp 4), none, 0, none⟩,
    ⟨(some 19), .move (.tmp 7), none, 0, none⟩,
    ⟨(some 20), .call (.func 71) [(true, (.tmp 18)), (false, (.const (.int .i64 (0)))), (false, (.tmp 19))] false 4, none, 0, none⟩,
    ⟨(some 21), .indexArr 4 1 (.tmp 5) (.tmp 17), none, 4, none⟩,
    ⟨none, .store 1 (.tmp 21) (.tmp 20), none, 4, none⟩] []))) (.region 0 [
    ⟨(some 22), .bin .add (.tmp 13) (.const (.int .i64 (1))), none, 0, none⟩,
    ⟨(some 13), .move (.tmp 22), none, 0, none⟩] []))))))) (.seq (.region 1 [
    ⟨(some 23), .indexArr 4 1 (.tmp 5) (.const (.int .i64 (0))), none, 0, none⟩,
    ⟨(some 24), .load false 1 (.tmp 23), none, 0, none⟩,
    ⟨(some 25), .indexArr 4 1 (.tmp 5) (.const (.int .i64 (1))), none, 0, none⟩,
    ⟨(some 26), .load false 1 (.tmp 25), none, 0, none⟩,
    ⟨(some 27), .indexArr 4 1 (.tmp 5) (.const (.int .i64 (2))), none, 0, none⟩,
    ⟨(some 28), .load false 1 (.tmp 27), none, 0, none⟩,
    ⟨(some 29), .indexArr 4 1 (.tmp 5) (.const (.int .i64 (3))), none, 0, none⟩,
    ⟨(some 30), .load false 1 (.tmp 29), none, 0, none⟩,
    ⟨(some 31), .build [.int .i64 (0), .int .i64 (0), .int .i64 (0), .int .i64 (0), .zsl] [(0, 1, (.tmp 24)), (1, 1, (.tmp 26)), (2, 1, (.tmp 28)), (3, 1, (.tmp 30))], none, 0, none⟩,
    ⟨(some 8), .alloc [.int .i64 (0), .int .i64 (0), .int .i64 (0), .int .i64 (0), .zsl], none, 0, none⟩,
    ⟨none, .store 5 (.tmp 8) (.tmp 31), none, 1, none⟩] []) (.seq (.seq (.region 4 [
    ⟨(some 32), .move (.tmp 4), none, 0, none⟩,
    ⟨(some 33), .call (.func 71) [(true, (.tmp 32)), (false, (.const (.int .i64 (0)))), (false, (.const (.int .i64 (64))))] false 4, none, 0, none⟩,
    ⟨(some 34), .move (.const (.int .i64 (0))), none, 4, none⟩] []) (.block 2 (.pre [2, 4, 8, 33, 34] [.matC 8 4 1 true] (.loop [2, 4, 8, 33, 34] ⟨[(2, (.ptr 0 0 0)), (4, (.ptr 1 0 0)), (8, (.ptr 2 0 0)), (34, (.v (.int .i64)))], [33], [.cell false (.cons (.v (.int .i64)) (.cons (.v (.int .i64)) (.cons (.v (.int .i64)) (.cons (.v (.int .i64)) (.cons .zsl .nil))))), .one false (.pair (.list (.int .u8)) (.int .i64)), .cell false (.cons (.v (.int .i64)) (.cons (.v (.int .i64)) (.cons (.v (.int .i64)) (.cons (.v (.int .i64)) (.cons (.slw 3 1) .nil))))), .typed (.int .i64)]⟩ (.seq (.region 0 [
    ⟨(some 35), .bin .lss (.tmp 34) (.tmp 33), none, 0, none⟩] []) (.seq (.cond (.tmp 35) (.skip) (.exit 2)) (.seq (.block 3 (.region 6 [
    ⟨(some 36), .fieldAddr 4 (.tmp 8), none, 0, (some ([], none))⟩,
    ⟨(some 37), .load false 1 (.tmp 36), none, 0, (some ([], some [2]))⟩,
    ⟨(some 38), .move (.tmp 4), none, 0, (some ([], none))⟩,
    ⟨(some 39), .call (.func 72) [(true, (.tmp 38))] false 4, none, 0, (some ([], some [1]))⟩,
    ⟨(some 40), .buildSlice 1 1 true [.int .i64 (0)] [(0, (.tmp 39))], none, 4, (some ([], some []))⟩,
    ⟨(some 41), .append 1 8 true (.tmp 37) (.tmp 40), none, 5, (some ([4], some [3]))⟩,
    ⟨(some 42), .fieldAddr 4 (.tmp 8), none, 6, (some ([0, 1, 2, 3, 4, 5], none))⟩,
    ⟨none, .store 1 (.tmp 42) (.tmp 41), none, 6, (some ([5], some [2]))⟩] [])) (.region 0 [
    ⟨(some 43), .bin .add (.tmp 34) (.const (.int .i64 (1))), none, 0, none⟩,
    ⟨(some 34), .move (.tmp 43), none, 0, none⟩] [])))))))) (.seq (.seq (.region 4 [
    ⟨(some 44), .move (.tmp 4), none, 0, none⟩,
    ⟨(some 45), .call (.func 73) [(true, (.tmp 44))] false 4, none, 0, none⟩,
    ⟨(some 9), .move (.tmp 45), none, 4, none⟩] []) (.seq (.region 0 [
    ⟨(some 46), .move (.tmp 9), none, 0, none⟩,
    ⟨(some 47), .bin .neq (.tmp 46) (.const (.int .i64 (0))), none, 0, none⟩] []) (.cond (.tmp 47) (.seq (.region 0 [
    ⟨(some 48), .build [.int .i64 (0), .int .i64 (0), .int .i64 (0), .int .i64 (0), .zsl] [], none, 0, none⟩,
    ⟨(some 49), .move (.tmp 9), none, 0, none⟩,
    ⟨none, .store 5 (.tmp 2) (.tmp 48), none, 0, none⟩,
    ⟨(some 3), .move (.tmp 49), none, 0, none⟩] []) (.ret)) (.skip)))) (.seq (.region 0 [
    ⟨(some 50), .load true 5 (.tmp 8), none, 0, none⟩,
    ⟨none, .store 5 (.tmp 2) (.tmp 50), none, 0, none⟩,
    ⟨(some 3), .move (.const (.int .i64 (0))), none, 0, none⟩] []) (.ret)))))))), [.cell true 5 2, .tmp 3], true⟩
def s19 : Sig := ⟨(.cons (.v (.list (.int .u8))) .nil), [], ((.tup (.cons (.v .reply) (.cons (.v (.int .i64)) .nil))), []), []⟩
def l19_0 (g72 : ((List Int) × Int) → Option (Int × (((List Int) × Int) × Unit))) (g73 : ((List Int) × Int) → Option (Int × (((List Int) × Int) × Unit))) (r7 : (Int × (((List Int) × Int) × Unit))) (nx9 : ((Unit × (Unit × (Unit × (Int × Unit)))) × ((Int × (Int × (Int × (Int × (Unit × Unit))))) × (((List Int) × Int) × ((Int × (Int × (Int × (Int × (Unit × Unit))))) × ((List Int) × Unit))))) → Option (Reply × (Int × Unit))) (z10 : Int) (z11 : Int) (z12 : Int) (z13 : Int) (z14 : Int) (z15 : ((List Int) × Int)) (z16 : Int) (z17 : Int) (z18 : Int) (z19 : Int) (z20 : (List Int)) : Option (Reply × (Int × Unit)) :=
  cond (decide (z10 < r7.1))
    (Option.bind (g72 z15) fun r21 =>
    cond (smallB ((List.length z20) + 1) 8)
      (nx9 (((), (), (), IntKind.wrap .i64 (z10 + 1), ()), ((z11, z12, z13, z14, (), ()), r21.2.1, (z16, z17, z18, z19, (), ()), z20 ++ [r21.1], ())))
      (none))
    (Option.bind (g73 z15) fun r22 =>
    cond (!decide (r22.1 = 0))
      (some (Reply.mk 0 0 0 0 [], r22.1, ()))
      (some (Reply.mk z16 z17 z18 z19 z20, 0, ())))
def F19 (L : Lp) (g69 : (List Int) → Option (Unit × (((List Int) × Int) × Unit))) (g70 : Option (Int × (Int × (Int × Int)))) (g71 : Int → Int → ((List Int) × Int) → Option (Int × (((List Int) × Int) × Unit))) (g72 : ((List Int) × Int) → Option (Int × (((List Int) × Int) × Unit))) (g73 : ((List Int) × Int) → Option (Int × (((List Int) × Int) × Unit))) (b0 : (List Int)) : Option (Reply × (Int × Unit)) :=
  Option.bind (g69 b0) fun r1 =>
  Option.bind (g70) fun r2 =>
  Option.bind (g71 0 r2.1 r1.2.1) fun r3 =>
  Option.bind (g71 0 r2.2.1 r3.2.1) fun r4 =>
  Option.bind (g71 0 r2.2.2.1 r4.2.1) fun r5 =>
  Option.bind (g71 0 r2.2.2.2 r5.2.1) fun r6 =>
  Option.bind (g71 0 64 r6.2.1) fun r7 =>
  L (fun (s8 : ((Unit × (Unit × (Unit × (Int × Unit)))) × ((Int × (Int × (Int × (Int × (Unit × Unit))))) × (((List Int) × Int) × ((Int × (Int × (Int × (Int × (Unit × Unit))))) × ((List Int) × Unit)))))) nx9 => l19_0 g72 g73 r7 nx9 s8.1.2.2.2.1 s8.2.1.1 s8.2.1.2.1 s8.2.1.2.2.1 s8.2.1.2.2.2.1 s8.2.2.1 s8.2.2.2.1.1 s8.2.2.2.1.2.1 s8.2.2.2.1.2.2.1 s8.2.2.2.1.2.2.2.1 s8.2.2.2.2.1) (((), (), (), 0, ()), ((0, 0, 0, 0, (), ()), r7.2.1, (r3.1, r4.1, r5.1, r6.1, (), ()), [], ()))
theorem e19 (L : Lp) (g69 : (List Int) → Option (Unit × (((List Int) × Int) × Unit))) (g70 : Option (Int × (Int × (Int × Int)))) (g71 : Int → Int → ((List Int) × Int) → Option (Int × (((List Int) × Int) × Unit))) (g72 : ((List Int) × Int) → Option (Int × (((List Int) × Int) × Unit))) (g73 : ((List Int) × Int) → Option (Int × (((List Int) × Int) × Unit))) (x : s19.args.den) (h : denH s19.heap) : nrun [⟨69, s69, fun x h => g69 x.1⟩, ⟨70, s70, fun x h => g70 ⟩, ⟨71, s71, fun x h => g71 x.2.1 x.2.2.1 h.1⟩, ⟨72, s72, fun x h => g72 h.1⟩, ⟨73, s73, fun x h => g73 h.1⟩] L n19 s19 x h = F19 L g69 g70 g71 g72 g73 x.1 := by kernel_rfl
def f19 : (List Int) → Option (Reply × (Int × Unit)) := F19 (@LN LOOPS) f69 f70 f71 f72 f73
@[reducible] def t19 : Ent := ⟨19, s19, fun x h => f19 x.1⟩
theorem k19 : chkNF Try.prog Try.f19 n19 = true := by kernel_rfl
theorem ok19 : NOk Try.prog t19 := NOk.body (T := [t69, t70, t71, t72, t73]) mixed (nall_cons ok69 (nall_cons ok70 (nall_cons ok71 (nall_cons ok72 (nall_cons ok73 nall_nil))))) (oneEach_of (by kernel_rfl)) Try.func19 k19 (by kernel_rfl) (fun x h => e19 _ _ _ _ _ _ x h)
/- drayage/drayageref05.Right -/
def n34 : NFunc := ⟨9, .seq (.region 0 [
    ⟨(some 2), .move (.const (.bool false)), none, 0, none⟩] []) (.seq (.region 0 [
    ⟨(some 3), .move (.tmp 0), none, 0, none⟩,
    ⟨(some 4), .bin .geq (.tmp 3) (.const (.int .i64 (0))), none, 0, none⟩,
    ⟨(some 5), .move (.tmp 4), none, 0, none⟩,
    ⟨(some 6), .move (.tmp 0), (some (5, true)), 0, none⟩,
    ⟨(some 7), .bin .leq (.tmp 6) (.const (.int .i64 (281474976710656))), (some (5, true)), 0, none⟩,
    ⟨(some 8), .pick (.tmp 5) (.tmp 7) (.const (.bool false)), none, 0, none⟩,
    ⟨(some 2), .move (.tmp 8), none, 0, none⟩] []) (.ret)), [.tmp 2], true⟩
def s34 : Sig := ⟨(.cons (.v (.int .i64)) .nil), [], ((.v .bool), []), []⟩
def F34 (L : Lp)  (an0 : Int) : Option Bool :=
  cond (decide (0 ≤ an0))
    (some (decide (an0 ≤ 281474976710656)))
    (some false)
theorem e34 (L : Lp)  (x : s34.args.den) (h : denH s34.heap) : nrun [] L n34 s34 x h = F34 L  x.1 := by kernel_rfl
def f34 : Int → Option Bool := F34 (@LN LOOPS) 
@[reducible] def t34 : Ent := ⟨34, s34, fun x h => f34 x.1⟩
theorem k34 : chkNF Try.prog Try.f34 n34 = true := by kernel_rfl
theorem ok34 : NOk Try.prog t34 := NOk.body (T := []) mixed nall_nil (oneEach_of (by kernel_rfl)) Try.func34 k34 (by kernel_rfl) (fun x h => e34 _  x h)
/- drayage/drayageref05.Bytes -/
def n113 : NFunc := ⟨17, .seq (.region 0 [
    ⟨(some 2), .move (.const (.zsl)), none, 0, none⟩] []) (.seq (.seq (.region 0 [
    ⟨(some 3), .move (.tmp 0), none, 0, none⟩,
    ⟨(some 4), .bin .lss (.tmp 3) (.const (.int .i64 (128))), none, 0, none⟩] []) (.cond (.tmp 4) (.seq (.region 1 [
    ⟨(some 5), .move (.tmp 0), none, 0, none⟩,
    ⟨(some 6), .conv .u8 (.tmp 5), none, 0, none⟩,
    ⟨(some 7), .buildSlice 1 1 true [.int .u8 (0)] [(0, (.tmp 6))], none, 0, none⟩,
    ⟨(some 2), .move (.tmp 7), none, 1, none⟩] []) (.ret)) (.skip))) (.seq (.region 6 [
    ⟨(some 8), .move (.tmp 0), none, 0, none⟩,
    ⟨(some 9), .bin .rem (.tmp 8) (.const (.int .i64 (128))), none, 0, none⟩,
    ⟨(some 10), .bin .add (.const (.int .i64 (128))) (.tmp 9), none, 0, none⟩,
    ⟨(some 11), .conv .u8 (.tmp 10), none, 0, none⟩,
    ⟨(some 12), .buildSlice 1 1 true [.int .u8 (0)] [(0, (.tmp 11))], none, 0, none⟩,
    ⟨(some 13), .move (.tmp 0), none, 1, none⟩,
    ⟨(some 14), .bin .quo (.tmp 13) (.const (.int .i64 (128))), none, 1, none⟩,
    ⟨(some 15), .call (.func 113) [(false, (.tmp 14))] false 4, none, 1, none⟩,
    ⟨(some 16), .append 1 1 true (.tmp 12) (.tmp 15), none, 5, none⟩,
    ⟨(some 2), .move (.tmp 16), none, 6, none⟩] []) (.ret))), [.tmp 2], true⟩
def s113 : Sig := ⟨(.cons (.v (.int .i64)) .nil), [], ((.v (.list (.int .u8))), []), []⟩
def F113 (L : Lp) (g113 : Int → Option (List Int)) (an0 : Int) : Option (List Int) :=
  cond (decide (an0 < 128))
    (some [IntKind.wrap .u8 (an0)])
    (Option.bind (g113 (IntKind.wrap .i64 (Int.tdiv an0 128))) fun r1 =>
    cond (smallB (1 + (List.length r1)) 1)
      (some ([IntKind.wrap .u8 (IntKind.wrap .i64 (128 + (Int.tmod an0 128)))] ++ r1))
      (none))
theorem e113 (L : Lp) (g113 : Int → Option (List Int)) (x : s113.args.den) (h : denH s113.heap) : nrun [⟨113, s113, fun x h => g113 x.1⟩] L n113 s113 x h = F113 L g113 x.1 := by kernel_rfl
def r113 (n : Nat) : Int → Option (List Int) := fixN (fun g113 => F113 (@LN LOOPS) g113) (fun _ => none) n
def f113 : Int → Option (List Int) := r113 RDEEP
@[reducible] def t113 : Ent := ⟨113, s113, fun x h => f113 x.1⟩
theorem k113 : chkNF Try.prog Try.f113 n113 = true := by kernel_rfl
theorem ok113 : NOk Try.prog t113 := NOk.fix (s := s113) (fun n x h => r113 n x.1) (enters_of Try.func113 k113) (by kernel_rfl) (fun _ _ => rfl) (fun n hn => NOk.body (T := [⟨113, s113, fun x h => r113 n x.1⟩]) mixed (nall_cons hn nall_nil) (oneEach_of (by kernel_rfl)) Try.func113 k113 (by kernel_rfl) (fun x h => e113 _ _ x h)) RDEEP
/- drayage/drayageref05.Number -/
def n112 : NFunc := ⟨70, .seq (.region 0 [
    ⟨(some 4), .move (.const (.int .i64 (0))), none, 0, none⟩,
    ⟨(some 5), .move (.const (.int .i64 (0))), none, 0, none⟩,
    ⟨(some 6), .move (.const (.int .i64 (0))), none, 0, none⟩] []) (.seq (.region 0 [
    ⟨(some 7), .move (.const (.int .i64 (0))), none, 0, none⟩] []) (.seq (.block 0 (.loop [0, 1, 7] ⟨[(7, (.v (.int .i64)))], [0, 1], []⟩ (.seq (.seq (.region 0 [
    ⟨(some 10), .move (.tmp 1), none, 0, none⟩,
    ⟨(some 11), .move (.tmp 7), none, 0, none⟩,
    ⟨(some 12), .bin .add (.tmp 10) (.tmp 11), none, 0, none⟩,
    ⟨(some 13), .move (.tmp 0), none, 0, none⟩,
    ⟨(some 14), .len (.tmp 13), none, 0, none⟩,
    ⟨(some 15), .bin .lss (.tmp 12) (.tmp 14), none, 0, none⟩,
    ⟨(some 16), .move (.tmp 15), none, 0, none⟩,
    ⟨(some 17), .move (.tmp 0), (some (16, true)), 0, none⟩,
    ⟨(some 18), .move (.tmp 1), (some (16, true)), 0, none⟩,
    ⟨(some 19), .move (.tmp 7), (some (16, true)), 0, none⟩,
    ⟨(some 20), .bin .add (.tmp 18) (.tmp 19), (some (16, true)), 0, none⟩,
    ⟨(some 21), .indexSl 1 (.tmp 17) (.tmp 20), (some (16, true)), 0, none⟩,
    ⟨(some 22), .load false 1 (.tmp 21), (some (16, true)), 0, none⟩,
    ⟨(some 23), .bin .geq (.tmp 22) (.const (.int .u8 (128))), (some (16, true)), 0, none⟩,
    ⟨(some 24), .pick (.tmp 16) (.tmp 23) (.const (.bool false)), none, 0, none⟩,
    ⟨(some 25), .move (.tmp 24), none, 0, none⟩,
    ⟨(some 26), .move (.tmp 7), (some (25, true)), 0, none⟩,
    ⟨(some 27), .bin .lss (.tmp 26) (.const (.int .i64 (8))), (some (25, true)), 0, none⟩,
    ⟨(some 28), .pick (.tmp 25) (.tmp 27) (.const (.bool false)), none, 0, none⟩] []) (.cond (.tmp 28) (.skip) (.exit 0))) (.block 1 (.region 0 [
    ⟨(some 29), .move (.tmp 7), none, 0, none⟩,
    ⟨(some 30), .bin .add (.tmp 29) (.const (.int .i64 (1))), none, 0, none⟩,
    ⟨(some 7), .move (.tmp 30), none, 0, none⟩] []))))) (.seq (.seq (.region 0 [
    ⟨(some 31), .move (.tmp 7), none, 0, none⟩,
    ⟨(some 32), .bin .eql (.tmp 31) (.const (.int .i64 (8))), none, 0, none⟩] []) (.cond (.tmp 32) (.seq (.region 0 [
    ⟨(some 4), .move (.const (.int .i64 (0))), none, 0, none⟩,
    ⟨(some 5), .move (.const (.int .i64 (0))), none, 0, none⟩,
    ⟨(some 6), .move (.const (.int .i64 (11))), none, 0, none⟩] []) (.ret)) (.skip))) (.seq (.seq (.region 0 [
    ⟨(some 33), .move (.tmp 1), none, 0, none⟩,
    ⟨(some 34), .move (.tmp 7), none, 0, none⟩,
    ⟨(some 35), .bin .add (.tmp 33) (.tmp 34), none, 0, none⟩,
    ⟨(some 36), .move (.tmp 0), none, 0, none⟩,
    ⟨(some 37), .len (.tmp 36), none, 0, none⟩,
    ⟨(some 38), .bin .geq (.tmp 35) (.tmp 37), none, 0, none⟩] []) (.cond (.tmp 38) (.seq (.region 0 [
    ⟨(some 4), .move (.const (.int .i64 (0))), none, 0, none⟩,
    ⟨(some 5), .move (.const (.int .i64 (0))), none, 0, none⟩,
    ⟨(some 6), .move (.const (.int .i64 (10))), none, 0, none⟩] []) (.ret)) (.skip))) (.seq (.region 0 [
    ⟨(some 39), .move (.tmp 7), none, 0, none⟩,
    ⟨(some 40), .bin .add (.tmp 39) (.const (.int .i64 (1))), none, 0, none⟩,
    ⟨(some 7), .move (.tmp 40), none, 0, none⟩] []) (.seq (.region 0 [
    ⟨(some 8), .move (.const (.int .i64 (0))), none, 0, none⟩] []) (.seq (.seq (.region 0 [
    ⟨(some 41), .move (.tmp 7), none, 0, none⟩,
    ⟨(some 42), .bin .sub (.tmp 41) (.const (.int .i64 (1))), none, 0, none⟩,
    ⟨(some 9), .move (.tmp 42), none, 0, none⟩] []) (.block 2 (.loop [0, 1, 7, 8, 9] ⟨[(8, (.v (.int .i64))), (9, (.v (.int .i64)))], [0, 1, 7], []⟩ (.seq (.seq (.region 0 [
    ⟨(some 43), .move (.tmp 9), none, 0, none⟩,
    ⟨(some 44), .bin .geq (.tmp 43) (.const (.int .i64 (0))), none, 0, none⟩] []) (.cond (.tmp 44) (.skip) (.exit 2))) (.seq (.block 3 (.region 0 [
    ⟨(some 47), .move (.tmp 8), none, 0, none⟩,
    ⟨(some 48), .bin .mul (.const (.int .i64 (128))) (.tmp 47), none, 0, none⟩,
    ⟨(some 49), .move (.tmp 0), none, 0, none⟩,
    ⟨(some 50), .move (.tmp 1), none, 0, none⟩,
    ⟨(some 51), .move (.tmp 9), none, 0, none⟩,
    ⟨(some 52), .bin .add (.tmp 50) (.tmp 51), none, 0, none⟩,
    ⟨(some 53), .indexSl 1 (.tmp 49) (.tmp 52), none, 0, none⟩,
    ⟨(some 54), .load false 1 (.tmp 53), none, 0, none⟩,
    ⟨(some 55), .conv .i64 (.tmp 54), none, 0, none⟩,
    ⟨(some 56), .bin .rem (.tmp 55) (.const (.int .i64 (128))), none, 0, none⟩,
    ⟨(some 57), .bin .add (.tmp 48) (.tmp 56), none, 0, none⟩,
    ⟨(some 8), .move (.tmp 57), none, 0, none⟩] [])) (.region 0 [
    ⟨(some 45), .move (.tmp 9), none, 0, none⟩,
    ⟨(some 46), .bin .sub (.tmp 45) (.const (.int .i64 (1))), none, 0, none⟩,
    ⟨(some 9), .move (.tmp 46), none, 0, none⟩] [])))))) (.seq (.seq (.region 8 [
    ⟨(some 58), .move (.tmp 8), none, 0, none⟩,
    ⟨(some 59), .call (.func 34) [(false, (.tmp 58))] false 4, none, 0, none⟩,
    ⟨(some 60), .un .not (.tmp 59), none, 4, none⟩,
    ⟨(some 61), .move (.tmp 60), none, 4, none⟩,
    ⟨(some 62), .move (.tmp 8), (some (61, false)), 4, none⟩,
    ⟨(some 63), .call (.func 113) [(false, (.tmp 62))] false 4, (some (61, false)), 4, none⟩,
    ⟨(some 64), .len (.tmp 63), (some (61, false)), 8, none⟩,
    ⟨(some 65), .move (.tmp 7), (some (61, false)), 8, none⟩,
    ⟨(some 66), .bin .neq (.tmp 64) (.tmp 65), (some (61, false)), 8, none⟩,
    ⟨(some 67), .pick (.tmp 61) (.const (.bool true)) (.tmp 66), none, 8, none⟩] []) (.cond (.tmp 67) (.seq (.region 0 [
    ⟨(some 4), .move (.const (.int .i64 (0))), none, 0, none⟩,
    ⟨(some 5), .move (.const (.int .i64 (0))), none, 0, none⟩,
    ⟨(some 6), .move (.const (.int .i64 (11))), none, 0, none⟩] []) (.ret)) (.skip))) (.seq (.region 0 [
    ⟨(some 68), .move (.tmp 8), none, 0, none⟩,
    ⟨(some 69), .move (.tmp 7), none, 0, none⟩,
    ⟨(some 4), .move (.tmp 68), none, 0, none⟩,
    ⟨(some 5), .move (.tmp 69), none, 0, none⟩,
    ⟨(some 6), .move (.const (.int .i64 (0))), none, 0, none⟩] []) (.ret)))))))))), [.tmp 4, .tmp 5, .tmp 6], true⟩
def s112 : Sig := ⟨(.cons (.v (.list (.int .u8))) (.cons (.v (.int .i64)) .nil)), [], ((.tup (.cons (.v (.int .i64)) (.cons (.v (.int .i64)) (.cons (.v (.int .i64)) .nil)))), []), []⟩
def l112_0 (g34 : Int → Option Bool) (g113 : Int → Option (List Int)) (b0 : (List Int)) (at1 : Int) (size4 : Int) (nx7 : ((Int × (Int × Unit)) × Unit) → Option (Int × (Int × (Int × Unit)))) (zn8 : Int) (i9 : Int) : Option (Int × (Int × (Int × Unit))) :=
  cond (decide (0 ≤ i9))
    (cond (decide (0 ≤ (IntKind.wrap .i64 (at1 + i9))))
      (Option.bind (b0[Int.toNat (IntKind.wrap .i64 (at1 + i9))]?) fun y10 =>
      let v11 := IntKind.wrap .i64 ((IntKind.wrap .i64 (128 * zn8)) + (Int.tmod (IntKind.wrap .i64 (y10)) 128))
      nx7 ((v11, IntKind.wrap .i64 (i9 - 1), ()), ()))
      (none))
    (Option.bind (g34 zn8) fun r12 =>
    cond (!r12)
      (some (0, 0, 11, ()))
      (Option.bind (g113 zn8) fun r13 =>
      cond (!decide ((List.length r13 : Int) = (IntKind.wrap .i64 (size4 + 1))))
        (some (0, 0, 11, ()))
        (some (zn8, IntKind.wrap .i64 (size4 + 1), 0, ()))))
def l112_1 (g34 : Int → Option Bool) (g113 : Int → Option (List Int)) (b0 : (List Int)) (at1 : Int) (size4 : Int) (nx15 : ((Int × (Int × Unit)) × Unit) → Option (Int × (Int × (Int × Unit)))) (zn16 : Int) (i17 : Int) : Option (Int × (Int × (Int × Unit))) :=
  cond (decide (0 ≤ i17))
    (cond (decide (0 ≤ (IntKind.wrap .i64 (at1 + i17))))
      (Option.bind (b0[Int.toNat (IntKind.wrap .i64 (at1 + i17))]?) fun y18 =>
      let v19 := IntKind.wrap .i64 ((IntKind.wrap .i64 (128 * zn16)) + (Int.tmod (IntKind.wrap .i64 (y18)) 128))
      nx15 ((v19, IntKind.wrap .i64 (i17 - 1), ()), ()))
      (none))
    (Option.bind (g34 zn16) fun r20 =>
    cond (!r20)
      (some (0, 0, 11, ()))
      (Option.bind (g113 zn16) fun r21 =>
      cond (!decide ((List.length r21 : Int) = (IntKind.wrap .i64 (size4 + 1))))
        (some (0, 0, 11, ()))
        (some (zn16, IntKind.wrap .i64 (size4 + 1), 0, ()))))
def l112_2 (g34 : Int → Option Bool) (g113 : Int → Option (List Int)) (b0 : (List Int)) (at1 : Int) (size4 : Int) (nx23 : ((Int × (Int × Unit)) × Unit) → Option (Int × (Int × (Int × Unit)))) (zn24 : Int) (i25 : Int) : Option (Int × (Int × (Int × Unit))) :=
  cond (decide (0 ≤ i25))
    (cond (decide (0 ≤ (IntKind.wrap .i64 (at1 + i25))))
      (Option.bind (b0[Int.toNat (IntKind.wrap .i64 (at1 + i25))]?) fun y26 =>
      let v27 := IntKind.wrap .i64 ((IntKind.wrap .i64 (128 * zn24)) + (Int.tmod (IntKind.wrap .i64 (y26)) 128))
      nx23 ((v27, IntKind.wrap .i64 (i25 - 1), ()), ()))
      (none))
    (Option.bind (g34 zn24) fun r28 =>
    cond (!r28)
      (some (0, 0, 11, ()))
      (Option.bind (g113 zn24) fun r29 =>
      cond (!decide ((List.length r29 : Int) = (IntKind.wrap .i64 (size4 + 1))))
        (some (0, 0, 11, ()))
        (some (zn24, IntKind.wrap .i64 (size4 + 1), 0, ()))))
def l112_3 (L : Lp) (g34 : Int → Option Bool) (g113 : Int → Option (List Int)) (b0 : (List Int)) (at1 : Int) (nx3 : ((Int × Unit) × Unit) → Option (Int × (Int × (Int × Unit)))) (size4 : Int) : Option (Int × (Int × (Int × Unit))) :=
  cond (decide ((IntKind.wrap .i64 (at1 + size4)) < (List.length b0 : Int)))
    (cond (decide (0 ≤ (IntKind.wrap .i64 (at1 + size4))))
      (Option.bind (b0[Int.toNat (IntKind.wrap .i64 (at1 + size4))]?) fun y5 =>
      cond (decide (128 ≤ y5))
        (cond (decide (size4 < 8))
          (nx3 ((IntKind.wrap .i64 (size4 + 1), ()), ()))
          (cond (decide (size4 = 8))
            (some (0, 0, 11, ()))
            (cond (decide ((List.length b0 : Int) ≤ (IntKind.wrap .i64 (at1 + size4))))
              (some (0, 0, 10, ()))
              (L (fun (s6 : ((Int × (Int × Unit)) × Unit)) nx7 => l112_0 g34 g113 b0 at1 size4 nx7 s6.1.1 s6.1.2.1) ((0, IntKind.wrap .i64 ((IntKind.wrap .i64 (size4 + 1)) - 1), ()), ())))))
        (cond (decide (size4 = 8))
          (some (0, 0, 11, ()))
          (cond (decide ((List.length b0 : Int) ≤ (IntKind.wrap .i64 (at1 + size4))))
            (some (0, 0, 10, ()))
            (L (fun (s14 : ((Int × (Int × Unit)) × Unit)) nx15 => l112_1 g34 g113 b0 at1 size4 nx15 s14.1.1 s14.1.2.1) ((0, IntKind.wrap .i64 ((IntKind.wrap .i64 (size4 + 1)) - 1), ()), ())))))
      (none))
    (cond (decide (size4 = 8))
      (some (0, 0, 11, ()))
      (cond (decide ((List.length b0 : Int) ≤ (IntKind.wrap .i64 (at1 + size4))))
        (some (0, 0, 10, ()))
        (L (fun (s22 : ((Int × (Int × Unit)) × Unit)) nx23 => l112_2 g34 g113 b0 at1 size4 nx23 s22.1.1 s22.1.2.1) ((0, IntKind.wrap .i64 ((IntKind.wrap .i64 (size4 + 1)) - 1), ()), ()))))
def F112 (L : Lp) (g34 : Int → Option Bool) (g113 : Int → Option (List Int)) (b0 : (List Int)) (at1 : Int) : Option (Int × (Int × (Int × Unit))) :=
  L (fun (s2 : ((Int × Unit) × Unit)) nx3 => l112_3 L g34 g113 b0 at1 nx3 s2.1.1) ((0, ()), ())
theorem e112 (L : Lp) (g34 : Int → Option Bool) (g113 : Int → Option (List Int)) (x : s112.args.den) (h : denH s112.heap) : nrun [⟨34, s34, fun x h => g34 x.1⟩, ⟨113, s113, fun x h => g113 x.1⟩] L n112 s112 x h = F112 L g34 g113 x.1 x.2.1 := by kernel_rfl
def f112 : (List Int) → Int → Option (Int × (Int × (Int × Unit))) := F112 (@LN LOOPS) f34 f113
@[reducible] def t112 : Ent := ⟨112, s112, fun x h => f112 x.1 x.2.1⟩
theorem k112 : chkNF Try.prog Try.f112 n112 = true := by kernel_rfl
theorem ok112 : NOk Try.prog t112 := NOk.body (T := [t34, t113]) mixed (nall_cons ok34 (nall_cons ok113 nall_nil)) (oneEach_of (by kernel_rfl)) Try.func112 k112 (by kernel_rfl) (fun x h => e112 _ _ _ x h)
/- (*drayage/drayageref05.Reader).Number -/
def n75 : NFunc := ⟨38, .seq (.region 0 [
    ⟨(some 2), .move (.const (.int .i64 (0))), none, 0, none⟩] []) (.seq (.seq (.region 0 [
    ⟨(some 6), .move (.tmp 0), none, 0, none⟩,
    ⟨(some 7), .nilCheck (.tmp 6), none, 0, none⟩,
    ⟨(some 8), .fieldAddr 2 (.tmp 7), none, 0, none⟩,
    ⟨(some 9), .load false 1 (.tmp 8), none, 0, none⟩,
    ⟨(some 10), .bin .neq (.tmp 9) (.const (.int .i64 (0))), none, 0, none⟩] []) (.cond (.tmp 10) (.seq (.region 0 [
    ⟨(some 2), .move (.const (.int .i64 (0))), none, 0, none⟩] []) (.ret)) (.skip))) (.seq (.region 4 [
    ⟨(some 12), .move (.tmp 0), none, 0, (some ([], none))⟩,
    ⟨(some 13), .nilCheck (.tmp 12), none, 0, (some ([], none))⟩,
    ⟨(some 14), .fieldAddr 0 (.tmp 13), none, 0, (some ([], none))⟩,
    ⟨(some 15), .load false 1 (.tmp 14), none, 0, (some ([], none))⟩,
    ⟨(some 16), .move (.tmp 0), none, 0, (some ([], none))⟩,
    ⟨(some 17), .nilCheck (.tmp 16), none, 0, (some ([], none))⟩,
    ⟨(some 18), .fieldAddr 1 (.tmp 17), none, 0, (some ([], none))⟩,
    ⟨(some 19), .load false 1 (.tmp 18), none, 0, (some ([], none))⟩,
    ⟨(some 20), .call (.func 112) [(false, (.tmp 15)), (false, (.tmp 19))] false 4, none, 0, (some ([], none))⟩,
    ⟨(some 11), .move (.tmp 20), none, 4, (some ([0, 1, 2, 3], none))⟩,
    ⟨(some 21), .extract (.tmp 11) 0, none, 4, (some ([0, 1, 2, 3], none))⟩,
    ⟨(some 22), .extract (.tmp 11) 1, none, 4, (some ([0, 1, 2, 3], none))⟩,
    ⟨(some 23), .extract (.tmp 11) 2, none, 4, (some ([0, 1, 2, 3], none))⟩,
    ⟨(some 3), .move (.tmp 21), none, 4, (some ([0, 1, 2, 3], none))⟩,
    ⟨(some 4), .move (.tmp 22), none, 4, (some ([0, 1, 2, 3], none))⟩,
    ⟨(some 5), .move (.tmp 23), none, 4, (some ([0, 1, 2, 3], none))⟩] []) (.seq (.region 0 [
    ⟨(some 24), .move (.tmp 0), none, 0, none⟩,
    ⟨(some 25), .move (.tmp 0), none, 0, none⟩,
    ⟨(some 26), .nilCheck (.tmp 25), none, 0, none⟩,
    ⟨(some 27), .fieldAddr 1 (.tmp 26), none, 0, none⟩,
    ⟨(some 28), .load false 1 (.tmp 27), none, 0, none⟩,
    ⟨(some 29), .move (.tmp 4), none, 0, none⟩,
    ⟨(some 30), .bin .add (.tmp 28) (.tmp 29), none, 0, none⟩,
    ⟨(some 31), .nilCheck (.tmp 24), none, 0, none⟩,
    ⟨(some 32), .fieldAddr 1 (.tmp 31), none, 0, none⟩,
    ⟨none, .store 1 (.tmp 32) (.tmp 30), none, 0, none⟩] []) (.seq (.region 0 [
    ⟨(some 33), .move (.tmp 0), none, 0, none⟩,
    ⟨(some 34), .move (.tmp 5), none, 0, none⟩,
    ⟨(some 35), .nilCheck (.tmp 33), none, 0, none⟩,
    ⟨(some 36), .fieldAddr 2 (.tmp 35), none, 0, none⟩,
    ⟨none, .store 1 (.tmp 36) (.tmp 34), none, 0, none⟩] []) (.seq (.region 0 [
    ⟨(some 37), .move (.tmp 3), none, 0, none⟩,
    ⟨(some 2), .move (.tmp 37), none, 0, none⟩] []) (.ret)))))), [.tmp 2], true⟩
def s75 : Sig := ⟨(.cons (.ptr 0 0 0) .nil), [.one false (.pair (.list (.int .u8)) (.pair (.int .i64) (.int .i64)))], ((.v (.int .i64)), [.one false (.pair (.list (.int .u8)) (.pair (.int .i64) (.int .i64)))]), []⟩
def F75 (L : Lp) (g112 : (List Int) → Int → Option (Int × (Int × (Int × Unit)))) (a0 : ((List Int) × (Int × Int))) : Option (Int × (((List Int) × (Int × Int)) × Unit)) :=
  cond (!decide (a0.2.2 = 0))
    (some (0, (a0, ())))
    (Option.bind (g112 a0.1 a0.2.1) fun r1 =>
    some (r1.1, ((a0.1, (IntKind.wrap .i64 (a0.2.1 + r1.2.1), r1.2.2.1)), ())))
theorem e75 (L : Lp) (g112 : (List Int) → Int → Option (Int × (Int × (Int × Unit)))) (x : s75.args.den) (h : denH s75.heap) : nrun [⟨112, s112, fun x h => g112 x.1 x.2.1⟩] L n75 s75 x h = F75 L g112 h.1 := by kernel_rfl
def f75 : ((List Int) × (Int × Int)) → Option (Int × (((List Int) × (Int × Int)) × Unit)) := F75 (@LN LOOPS) f112
@[reducible] def t75 : Ent := ⟨75, s75, fun x h => f75 h.1⟩
theorem k75 : chkNF Try.prog Try.f75 n75 = true := by kernel_rfl
theorem ok75 : NOk Try.prog t75 := NOk.body (T := [t112]) mixed (nall_cons ok112 nall_nil) (oneEach_of (by kernel_rfl)) Try.func75 k75 (by kernel_rfl) (fun x h => e75 _ _ x h)
/- (*drayage/drayageref05.Reader).Within -/
def n74 : NFunc := ⟨34, .seq (.region 0 [
    ⟨(some 6), .move (.const (.int .i64 (0))), none, 0, none⟩] []) (.seq (.region 4 [
    ⟨(some 8), .move (.tmp 0), none, 0, none⟩,
    ⟨(some 9), .call (.func 75) [(true, (.tmp 8))] false 4, none, 0, none⟩,
    ⟨(some 7), .move (.tmp 9), none, 4, none⟩] []) (.seq (.meet [7, 0] [] ⟨[(0, (.ptr 0 0 0))], [7], [.one false (.pair (.list (.int .u8)) (.pair (.int .i64) (.int .i64)))]⟩ (.seq (.region 0 [
    ⟨(some 10), .move (.tmp 0), none, 0, none⟩,
    ⟨(some 11), .nilCheck (.tmp 10), none, 0, none⟩,
    ⟨(some 12), .fieldAddr 2 (.tmp 11), none, 0, none⟩,
    ⟨(some 13), .load false 1 (.tmp 12), none, 0, none⟩,
    ⟨(some 14), .bin .eql (.tmp 13) (.const (.int .i64 (0))), none, 0, none⟩,
    ⟨(some 15), .move (.tmp 14), none, 0, none⟩,
    ⟨(some 16), .move (.tmp 7), (some (15, true)), 0, none⟩,
    ⟨(some 17), .move (.tmp 1), (some (15, true)), 0, none⟩,
    ⟨(some 18), .bin .lss (.tmp 16) (.tmp 17), (some (15, true)), 0, none⟩,
    ⟨(some 19), .move (.tmp 18), (some (15, true)), 0, none⟩,
    ⟨(some 20), .move (.tmp 7), (some (19, false)), 0, none⟩,
    ⟨(some 21), .move (.tmp 2), (some (19, false)), 0, none⟩,
    ⟨(some 22), .bin .gtr (.tmp 20) (.tmp 21), (some (19, false)), 0, none⟩,
    ⟨(some 23), .pick (.tmp 19) (.const (.bool true)) (.tmp 22), (some (15, true)), 0, none⟩,
    ⟨(some 24), .pick (.tmp 15) (.tmp 23) (.const (.bool false)), none, 0, none⟩] []) (.cond (.tmp 24) (.region 0 [
    ⟨(some 25), .move (.tmp 0), none, 0, none⟩,
    ⟨(some 26), .nilCheck (.tmp 25), none, 0, none⟩,
    ⟨(some 27), .fieldAddr 2 (.tmp 26), none, 0, none⟩,
    ⟨none, .store 1 (.tmp 27) (.const (.int .i64 (11))), none, 0, none⟩] []) (.skip)))) (.seq (.seq (.region 0 [
    ⟨(some 28), .move (.tmp 0), none, 0, none⟩,
    ⟨(some 29), .nilCheck (.tmp 28), none, 0, none⟩,
    ⟨(some 30), .fieldAddr 2 (.tmp 29), none, 0, none⟩,
    ⟨(some 31), .load false 1 (.tmp 30), none, 0, none⟩,
    ⟨(some 32), .bin .neq (.tmp 31) (.const (.int .i64 (0))), none, 0, none⟩] []) (.cond (.tmp 32) (.seq (.region 0 [
    ⟨(some 6), .move (.const (.int .i64 (0))), none, 0, none⟩] []) (.ret)) (.skip))) (.seq (.region 0 [
    ⟨(some 33), .move (.tmp 7), none, 0, none⟩,
    ⟨(some 6), .move (.tmp 33), none, 0, none⟩] []) (.ret))))), [.tmp 6], true⟩
def s74 : Sig := ⟨(.cons (.ptr 0 0 0) (.cons (.v (.int .i64)) (.cons (.v (.int .i64)) .nil))), [.one false (.pair (.list (.int .u8)) (.pair (.int .i64) (.int .i64)))], ((.v (.int .i64)), [.one false (.pair (.list (.int .u8)) (.pair (.int .i64) (.int .i64)))]), []⟩
def F74 (L : Lp) (g75 : ((List Int) × (Int × Int)) → Option (Int × (((List Int) × (Int × Int)) × Unit))) (lo0 : Int) (hi1 : Int) (a2 : ((List Int) × (Int × Int))) : Option (Int × (((List Int) × (Int × Int)) × Unit)) :=
  Option.bind (g75 a2) fun r3 =>
  Option.bind (α := ((Unit × Unit) × (((List Int) × (Int × Int)) × Unit)))
    (cond (decide (r3.2.1.2.2 = 0))
      (cond (decide (r3.1 < lo0))
        (some (((), ()), ((r3.2.1.1, (r3.2.1.2.1, 11)), ())))
        (cond (decide (hi1 < r3.1))
          (some (((), ()), ((r3.2.1.1, (r3.2.1.2.1, 11)), ())))
          (some (((), ()), (r3.2.1, ())))))
      (some (((), ()), (r3.2.1, ())))) fun x4 =>
  cond (!decide (x4.2.1.2.2 = 0))
    (some (0, (x4.2.1, ())))
    (some (r3.1, (x4.2.1, ())))
theorem e74 (L : Lp) (g75 : ((List Int) × (Int × Int)) → Option (Int × (((List Int) × (Int × Int)) × Unit))) (x : s74.args.den) (h : denH s74.heap) : nrun [⟨75, s75, fun x h => g75 h.1⟩] L n74 s74 x h = F74 L g75 x.2.1 x.2.2.1 h.1 := by kernel_rfl
def f74 : Int → Int → ((List Int) × (Int × Int)) → Option (Int × (((List Int) × (Int × Int)) × Unit)) := F74 (@LN LOOPS) f75
@[reducible] def t74 : Ent := ⟨74, s74, fun x h => f74 x.2.1 x.2.2.1 h.1⟩
theorem k74 : chkNF Try.prog Try.f74 n74 = true := by kernel_rfl
theorem ok74 : NOk Try.prog t74 := NOk.body (T := [t75]) mixed (nall_cons ok75 nall_nil) (oneEach_of (by kernel_rfl)) Try.func74 k74 (by kernel_rfl) (fun x h => e74 _ _ x h)
/- (*drayage/drayageref05.Reader).Left -/
def n76 : NFunc := ⟨18, .seq (.region 0 [
    ⟨(some 2), .move (.const (.int .i64 (0))), none, 0, none⟩] []) (.seq (.seq (.region 0 [
    ⟨(some 3), .move (.tmp 0), none, 0, none⟩,
    ⟨(some 4), .nilCheck (.tmp 3), none, 0, none⟩,
    ⟨(some 5), .fieldAddr 2 (.tmp 4), none, 0, none⟩,
    ⟨(some 6), .load false 1 (.tmp 5), none, 0, none⟩,
    ⟨(some 7), .bin .neq (.tmp 6) (.const (.int .i64 (0))), none, 0, none⟩] []) (.cond (.tmp 7) (.seq (.region 0 [
    ⟨(some 2), .move (.const (.int .i64 (0))), none, 0, none⟩] []) (.ret)) (.skip))) (.seq (.region 0 [
    ⟨(some 8), .move (.tmp 0), none, 0, (some ([], none))⟩,
    ⟨(some 9), .nilCheck (.tmp 8), none, 0, (some ([], none))⟩,
    ⟨(some 10), .fieldAddr 0 (.tmp 9), none, 0, (some ([], none))⟩,
    ⟨(some 11), .load false 1 (.tmp 10), none, 0, (some ([], none))⟩,
    ⟨(some 12), .len (.tmp 11), none, 0, (some ([], none))⟩,
    ⟨(some 13), .move (.tmp 0), none, 0, (some ([], none))⟩,
    ⟨(some 14), .nilCheck (.tmp 13), none, 0, (some ([], none))⟩,
    ⟨(some 15), .fieldAddr 1 (.tmp 14), none, 0, (some ([], none))⟩,
    ⟨(some 16), .load false 1 (.tmp 15), none, 0, (some ([], none))⟩,
    ⟨(some 17), .bin .sub (.tmp 12) (.tmp 16), none, 0, (some ([], none))⟩,
    ⟨(some 2), .move (.tmp 17), none, 0, (some ([], none))⟩] []) (.ret))), [.tmp 2], true⟩
def s76 : Sig := ⟨(.cons (.ptr 0 0 0) .nil), [.one false (.pair (.list (.int .u8)) (.pair (.int .i64) (.int .i64)))], ((.v (.int .i64)), [.one false (.pair (.list (.int .u8)) (.pair (.int .i64) (.int .i64)))]), []⟩
def F76 (L : Lp)  (a0 : ((List Int) × (Int × Int))) : Option (Int × (((List Int) × (Int × Int)) × Unit)) :=
  cond (!decide (a0.2.2 = 0))
    (some (0, (a0, ())))
    (some (IntKind.wrap .i64 ((List.length a0.1 : Int) - a0.2.1), (a0, ())))
theorem e76 (L : Lp)  (x : s76.args.den) (h : denH s76.heap) : nrun [] L n76 s76 x h = F76 L  h.1 := by kernel_rfl
def f76 : ((List Int) × (Int × Int)) → Option (Int × (((List Int) × (Int × Int)) × Unit)) := F76 (@LN LOOPS) 
@[reducible] def t76 : Ent := ⟨76, s76, fun x h => f76 h.1⟩
theorem k76 : chkNF Try.prog Try.f76 n76 = true := by kernel_rfl
theorem ok76 : NOk Try.prog t76 := NOk.body (T := []) mixed nall_nil (oneEach_of (by kernel_rfl)) Try.func76 k76 (by kernel_rfl) (fun x h => e76 _  x h)
/- drayage/drayageref09.Read -/
def n20 : NFunc := ⟨61, .seq (.region 1 [
    ⟨(some 2), .alloc [.int .i64 (0), .int .i64 (0), .int .i64 (0), .int .i64 (0), .zsl], none, 0, none⟩,
    ⟨(some 3), .move (.const (.int .i64 (0))), none, 1, none⟩] []) (.seq (.region 1 [
    ⟨(some 8), .move (.tmp 0), none, 0, none⟩,
    ⟨(some 9), .build [.zsl, .int .i64 (0), .int .i64 (0)] [(0, 1, (.tmp 8))], none, 0, none⟩,
    ⟨(some 10), .box 3 (.tmp 9), none, 0, none⟩,
    ⟨(some 4), .move (.tmp 10), none, 1, none⟩] []) (.seq (.region 5 [
    ⟨(some 11), .move (.tmp 4), none, 0, none⟩,
    ⟨(some 12), .call (.func 74) [(true, (.tmp 11)), (false, (.const (.int .i64 (0)))), (false, (.const (.int .i64 (1073741824))))] false 4, none, 0, none⟩,
    ⟨(some 13), .build [.int .i64 (0), .int .i64 (0), .int .i64 (0), .int .i64 (0), .zsl] [(0, 1, (.tmp 12))], none, 4, none⟩,
    ⟨(some 5), .alloc [.int .i64 (0), .int .i64 (0), .int .i64 (0), .int .i64 (0), .zsl], none, 4, none⟩,
    ⟨none, .store 5 (.tmp 5) (.tmp 13), none, 5, none⟩] []) (.seq (.region 4 [
    ⟨(some 14), .move (.tmp 4), none, 0, none⟩,
    ⟨(some 15), .call (.func 74) [(true, (.tmp 14)), (false, (.const (.int .i64 (0)))), (false, (.const (.int .i64 (99))))] false 4, none, 0, none⟩,
    ⟨(some 16), .fieldAddr 1 (.tmp 5), none, 4, none⟩,
    ⟨none, .store 1 (.tmp 16) (.tmp 15), none, 4, none⟩] []) (.seq (.region 4 [
    ⟨(some 17), .move (.tmp 4), none, 0, none⟩,
    ⟨(some 18), .call (.func 75) [(true, (.tmp 17))] false 4, none, 0, none⟩,
    ⟨(some 19), .fieldAddr 2 (.tmp 5), none, 4, none⟩,
    ⟨none, .store 1 (.tmp 19) (.tmp 18), none, 4, none⟩] []) (.seq (.region 4 [
    ⟨(some 20), .move (.tmp 4), none, 0, none⟩,
    ⟨(some 21), .call (.func 75) [(true, (.tmp 20))] false 4, none, 0, none⟩,
    ⟨(some 22), .fieldAddr 3 (.tmp 5), none, 4, none⟩,
    ⟨none, .store 1 (.tmp 22) (.tmp 21), none, 4, none⟩] []) (.seq (.region 4 [
    ⟨(some 23), .move (.tmp 4), none, 0, none⟩,
    ⟨(some 24), .call (.func 74) [(true, (.tmp 23)), (false, (.const (.int .i64 (0)))), (false, (.const (.int .i64 (64))))] false 4, none, 0, none⟩,
    ⟨(some 6), .move (.tmp 24), none, 4, none⟩] []) (.seq (.seq (.region 0 [
    ⟨(some 7), .move (.const (.int .i64 (0))), none, 0, none⟩] []) (.block 0 (.pre [2, 4, 5, 6, 7] [.matC 5 4 1 true] (.loop [2, 4, 5, 6, 7] ⟨[(2, (.ptr 0 0 0)), (4, (.ptr 1 0 0)), (5, (.ptr 2 0 0)), (7, (.v (.int .i64)))], [6], [.cell false (.cons (.v (.int .i64)) (.cons (.v (.int .i64)) (.cons (.v (.int .i64)) (.cons (.v (.int .i64)) (.cons .zsl .nil))))), .one false (.pair (.list (.int .u8)) (.pair (.int .i64) (.int .i64))), .cell false (.cons (.v (.int .i64)) (.cons (.v (.int .i64)) (.cons (.v (.int .i64)) (.cons (.v (.int .i64)) (.cons (.slw 3 1) .nil))))), .typed (.int .i64)]⟩ (.seq (.seq (.region 0 [
    ⟨(some 25), .move (.tmp 7), none, 0, none⟩,
    ⟨(some 26), .move (.tmp 6), none, 0, none⟩,
    ⟨(some 27), .bin .lss (.tmp 25) (.tmp 26), none, 0, none⟩] []) (.cond (.tmp 27) (.skip) (.exit 0))) (.seq (.block 1 (.region 6 [
    ⟨(some 30), .fieldAddr 4 (.tmp 5), none, 0, (some ([], none))⟩,
    ⟨(some 31), .load false 1 (.tmp 30), none, 0, (some ([], some [2]))⟩,
    ⟨(some 32), .move (.tmp 4), none, 0, (some ([], none))⟩,
    ⟨(some 33), .call (.func 75) [(true, (.tmp 32))] false 4, none, 0, (some ([], some [1]))⟩,
    ⟨(some 34), .buildSlice 1 1 true [.int .i64 (0)] [(0, (.tmp 33))], none, 4, (some ([], some []))⟩,
    ⟨(some 35), .append 1 8 true (.tmp 31) (.tmp 34), none, 5, (some ([4], some [3]))⟩,
    ⟨(some 36), .fieldAddr 4 (.tmp 5), none, 6, (some ([0, 1, 2, 3, 4, 5], none))⟩,
    ⟨none, .store 1 (.tmp 36) (.tmp 35), none, 6, (some ([5], some [2]))⟩] [])) (.region 0 [
    ⟨(some 28), .move (.tmp 7), none, 0, none⟩,
    ⟨(some 29), .bin .add (.tmp 28) (.const (.int .i64 (1))), none, 0, none⟩,
    ⟨(some 7), .move (.tmp 29), none, 0, none⟩] []))))))) (.seq (.meet [2, 4, 5] [] ⟨[(2, (.ptr 0 0 0)), (4, (.ptr 1 0 0)), (5, (.ptr 2 0 0))], [], [.cell false (.cons (.v (.int .i64)) (.cons (.v (.int .i64)) (.cons (.v (.int .i64)) (.cons (.v (.int .i64)) (.cons .zsl .nil))))), .one false (.pair (.list (.int .u8)) (.pair (.int .i64) (.int .i64))), .cell false (.cons (.v (.int .i64)) (.cons (.v (.int .i64)) (.cons (.v (.int .i64)) (.cons (.v (.int .i64)) (.cons (.slw 3 1) .nil))))), .typed (.int .i64)]⟩ (.seq (.region 4 [
    ⟨(some 37), .move (.tmp 4), none, 0, none⟩,
    ⟨(some 38), .nilCheck (.tmp 37), none, 0, none⟩,
    ⟨(some 39), .fieldAddr 2 (.tmp 38), none, 0, none⟩,
    ⟨(some 40), .load false 1 (.tmp 39), none, 0, none⟩,
    ⟨(some 41), .bin .eql (.tmp 40) (.const (.int .i64 (0))), none, 0, none⟩,
    ⟨(some 42), .move (.tmp 41), none, 0, none⟩,
    ⟨(some 43), .move (.tmp 4), (some (42, true)), 0, none⟩,
    ⟨(some 44), .call (.func 76) [(true, (.tmp 43))] false 4, (some (42, true)), 0, none⟩,
    ⟨(some 45), .bin .gtr (.tmp 44) (.const (.int .i64 (0))), (some (42, true)), 4, none⟩,
    ⟨(some 46), .pick (.tmp 42) (.tmp 45) (.const (.bool false)), none, 4, none⟩] []) (.cond (.tmp 46) (.region 0 [
    ⟨(some 47), .move (.tmp 4), none, 0, none⟩,
    ⟨(some 48), .nilCheck (.tmp 47), none, 0, none⟩,
    ⟨(some 49), .fieldAddr 2 (.tmp 48), none, 0, none⟩,
    ⟨none, .store 1 (.tmp 49) (.const (.int .i64 (11))), none, 0, none⟩] []) (.skip)))) (.seq (.seq (.region 0 [
    ⟨(some 50), .move (.tmp 4), none, 0, none⟩,
    ⟨(some 51), .nilCheck (.tmp 50), none, 0, none⟩,
    ⟨(some 52), .fieldAddr 2 (.tmp 51), none, 0, none⟩,
    ⟨(some 53), .load false 1 (.tmp 52), none, 0, none⟩,
    ⟨(some 54), .bin .neq (.tmp 53) (.const (.int .i64 (0))), none, 0, none⟩] []) (.cond (.tmp 54) (.seq (.region 0 [
    ⟨(some 55), .build [.int .i64 (0), .int .i64 (0), .int .i64 (0), .int .i64 (0), .zsl] [], none, 0, (some ([], none))⟩,
    ⟨(some 56), .move (.tmp 4), none, 0, (some ([], none))⟩,
    ⟨(some 57), .nilCheck (.tmp 56), none, 0, (some ([], none))⟩,
    ⟨(some 58), .fieldAddr 2 (.tmp 57), none, 0, (some ([], none))⟩,
    ⟨(some 59), .load false 1 (.tmp 58), none, 0, (some ([], some [1]))⟩,
    ⟨none, .store 5 (.tmp 2) (.tmp 55), none, 0, (some ([], some [0]))⟩,
    ⟨(some 3), .move (.tmp 59), none, 0, (some ([], none))⟩] []) (.ret)) (.skip))) (.seq (.region 0 [
    ⟨(some 60), .load true 5 (.tmp 5), none, 0, none⟩,
    ⟨none, .store 5 (.tmp 2) (.tmp 60), none, 0, none⟩,
    ⟨(some 3), .move (.const (.int .i64 (0))), none, 0, none⟩] []) (.ret))))))))))), [.cell true 5 2, .tmp 3], true⟩
def s20 : Sig := ⟨(.cons (.v (.list (.int .u8))) .nil), [], ((.tup (.cons (.v .reply) (.cons (.v (.int .i64)) .nil))), []), []⟩
def l20_0 (g75 : ((List Int) × (Int × Int)) → Option (Int × (((List Int) × (Int × Int)) × Unit))) (g76 : ((List Int) × (Int × Int)) → Option (Int × (((List Int) × (Int × Int)) × Unit))) (r5 : (Int × (((List Int) × (Int × Int)) × Unit))) (nx7 : ((Unit × (Unit × (Unit × (Int × Unit)))) × ((Int × (Int × (Int × (Int × (Unit × Unit))))) × (((List Int) × (Int × Int)) × ((Int × (Int × (Int × (Int × (Unit × Unit))))) × ((List Int) × Unit))))) → Option (Reply × (Int × Unit))) (i8 : Int) (z9 : Int) (z10 : Int) (z11 : Int) (z12 : Int) (z13 : ((List Int) × (Int × Int))) (z14 : Int) (z15 : Int) (z16 : Int) (z17 : Int) (z18 : (List Int)) : Option (Reply × (Int × Unit)) :=
  cond (decide (i8 < r5.1))
    (Option.bind (g75 z13) fun r19 =>
    cond (smallB ((List.length z18) + 1) 8)
      (nx7 (((), (), (), IntKind.wrap .i64 (i8 + 1), ()), ((z9, z10, z11, z12, (), ()), r19.2.1, (z14, z15, z16, z17, (), ()), z18 ++ [r19.1], ())))
      (none))
    (Option.bind (α := ((Unit × (Unit × (Unit × Unit))) × ((Int × (Int × (Int × (Int × (Unit × Unit))))) × (((List Int) × (Int × Int)) × ((Int × (Int × (Int × (Int × (Unit × Unit))))) × ((List Int) × Unit))))))
      (cond (decide (z13.2.2 = 0))
        (Option.bind (g76 z13) fun r20 =>
        cond (decide (0 < r20.1))
          (some (((), (), (), ()), ((z9, z10, z11, z12, (), ()), (r20.2.1.1, (r20.2.1.2.1, 11)), (z14, z15, z16, z17, (), ()), z18, ())))
          (some (((), (), (), ()), ((z9, z10, z11, z12, (), ()), r20.2.1, (z14, z15, z16, z17, (), ()), z18, ()))))
        (some (((), (), (), ()), ((z9, z10, z11, z12, (), ()), z13, (z14, z15, z16, z17, (), ()), z18, ())))) fun x21 =>
    cond (!decide (x21.2.2.1.2.2 = 0))
      (some (Reply.mk 0 0 0 0 [], x21.2.2.1.2.2, ()))
      (some (Reply.mk x21.2.2.2.1.1 x21.2.2.2.1.2.1 x21.2.2.2.1.2.2.1 x21.2.2.2.1.2.2.2.1 x21.2.2.2.2.1, 0, ())))
def F20 (L : Lp) (g74 : Int → Int → ((List Int) × (Int × Int)) → Option (Int × (((List Int) × (Int × Int)) × Unit))) (g75 : ((List Int) × (Int × Int)) → Option (Int × (((List Int) × (Int × Int)) × Unit))) (g76 : ((List Int) × (Int × Int)) → Option (Int × (((List Int) × (Int × Int)) × Unit))) (b0 : (List Int)) : Option (Reply × (Int × Unit)) :=
  Option.bind (g74 0 1073741824 (b0, (0, 0))) fun r1 =>
  Option.bind (g74 0 99 r1.2.1) fun r2 =>
  Option.bind (g75 r2.2.1) fun r3 =>
  Option.bind (g75 r3.2.1) fun r4 =>
  Option.bind (g74 0 64 r4.2.1) fun r5 =>
  L (fun (s6 : ((Unit × (Unit × (Unit × (Int × Unit)))) × ((Int × (Int × (Int × (Int × (Unit × Unit))))) × (((List Int) × (Int × Int)) × ((Int × (Int × (Int × (Int × (Unit × Unit))))) × ((List Int) × Unit)))))) nx7 => l20_0 g75 g76 r5 nx7 s6.1.2.2.2.1 s6.2.1.1 s6.2.1.2.1 s6.2.1.2.2.1 s6.2.1.2.2.2.1 s6.2.2.1 s6.2.2.2.1.1 s6.2.2.2.1.2.1 s6.2.2.2.1.2.2.1 s6.2.2.2.1.2.2.2.1 s6.2.2.2.2.1) (((), (), (), 0, ()), ((0, 0, 0, 0, (), ()), r5.2.1, (r1.1, r2.1, r3.1, r4.1, (), ()), [], ()))
theorem e20 (L : Lp) (g74 : Int → Int → ((List Int) × (Int × Int)) → Option (Int × (((List Int) × (Int × Int)) × Unit))) (g75 : ((List Int) × (Int × Int)) → Option (Int × (((List Int) × (Int × Int)) × Unit))) (g76 : ((List Int) × (Int × Int)) → Option (Int × (((List Int) × (Int × Int)) × Unit))) (x : s20.args.den) (h : denH s20.heap) : nrun [⟨74, s74, fun x h => g74 x.2.1 x.2.2.1 h.1⟩, ⟨75, s75, fun x h => g75 h.1⟩, ⟨76, s76, fun x h => g76 h.1⟩] L n20 s20 x h = F20 L g74 g75 g76 x.1 := by kernel_rfl
def f20 : (List Int) → Option (Reply × (Int × Unit)) := F20 (@LN LOOPS) f74 f75 f76
@[reducible] def t20 : Ent := ⟨20, s20, fun x h => f20 x.1⟩
theorem k20 : chkNF Try.prog Try.f20 n20 = true := by kernel_rfl
theorem ok20 : NOk Try.prog t20 := NOk.body (T := [t74, t75, t76]) mixed (nall_cons ok74 (nall_cons ok75 (nall_cons ok76 nall_nil))) (oneEach_of (by kernel_rfl)) Try.func20 k20 (by kernel_rfl) (fun x h => e20 _ _ _ _ x h)
/- drayage/drayageref01.Ints -/
def n77 : NFunc := ⟨26, .seq (.region 0 [
    ⟨(some 4), .move (.const (.bool false)), none, 0, none⟩] []) (.seq (.seq (.region 0 [
    ⟨(some 6), .move (.tmp 0), none, 0, none⟩,
    ⟨(some 7), .len (.tmp 6), none, 0, none⟩,
    ⟨(some 8), .move (.tmp 1), none, 0, none⟩,
    ⟨(some 9), .len (.tmp 8), none, 0, none⟩,
    ⟨(some 10), .bin .neq (.tmp 7) (.tmp 9), none, 0, none⟩] []) (.cond (.tmp 10) (.seq (.region 0 [
    ⟨(some 4), .move (.const (.bool false)), none, 0, none⟩] []) (.ret)) (.skip))) (.seq (.seq (.region 0 [
    ⟨(some 5), .move (.const (.int .i64 (0))), none, 0, none⟩] []) (.block 0 (.loop [0, 1, 5] ⟨[(5, (.v (.int .i64)))], [0, 1], []⟩ (.seq (.seq (.region 0 [
    ⟨(some 11), .move (.tmp 5), none, 0, none⟩,
    ⟨(some 12), .move (.tmp 0), none, 0, none⟩,
    ⟨(some 13), .len (.tmp 12), none, 0, none⟩,
    ⟨(some 14), .bin .lss (.tmp 11) (.tmp 13), none, 0, none⟩] []) (.cond (.tmp 14) (.skip) (.exit 0))) (.seq (.block 1 (.seq (.region 0 [
    ⟨(some 17), .move (.tmp 0), none, 0, (some ([], none))⟩,
    ⟨(some 18), .move (.tmp 5), none, 0, (some ([], none))⟩,
    ⟨(some 19), .indexSl 1 (.tmp 17) (.tmp 18), none, 0, (some ([], none))⟩,
    ⟨(some 20), .load false 1 (.tmp 19), none, 0, (some ([], none))⟩,
    ⟨(some 21), .move (.tmp 1), none, 0, (some ([], none))⟩,
    ⟨(some 22), .move (.tmp 5), none, 0, (some ([], none))⟩,
    ⟨(some 23), .indexSl 1 (.tmp 21) (.tmp 22), none, 0, (some ([], none))⟩,
    ⟨(some 24), .load false 1 (.tmp 23), none, 0, (some ([], none))⟩,
    ⟨(some 25), .bin .neq (.tmp 20) (.tmp 24), none, 0, (some ([], none))⟩] []) (.cond (.tmp 25) (.seq (.region 0 [
    ⟨(some 4), .move (.const (.bool false)), none, 0, none⟩] []) (.ret)) (.skip)))) (.region 0 [
    ⟨(some 15), .move (.tmp 5), none, 0, none⟩,
    ⟨(some 16), .bin .add (.tmp 15) (.const (.int .i64 (1))), none, 0, none⟩,
    ⟨(some 5), .move (.tmp 16), none, 0, none⟩] [])))))) (.seq (.region 0 [
    ⟨(some 4), .move (.const (.bool true)), none, 0, none⟩] []) (.ret)))), [.tmp 4], true⟩
def s77 : Sig := ⟨(.cons (.v (.list (.int .i64))) (.cons (.v (.list (.int .i64))) .nil)), [], ((.v .bool), []), []⟩
def l77_0 (a0 : (List Int)) (b1 : (List Int)) (nx3 : ((Int × Unit) × Unit) → Option Bool) (i4 : Int) : Option Bool :=
  cond (decide (i4 < (List.length a0 : Int)))
    (cond (decide (0 ≤ i4))
      (Option.bind (a0[Int.toNat i4]?) fun y5 =>
      cond (decide (0 ≤ i4))
        (Option.bind (b1[Int.toNat i4]?) fun y6 =>
        cond (!decide (y5 = y6))
          (some false)
          (nx3 ((IntKind.wrap .i64 (i4 + 1), ()), ())))
        (none))
      (none))
    (some true)
def F77 (L : Lp)  (a0 : (List Int)) (b1 : (List Int)) : Option Bool :=
  cond (!decide ((List.length a0 : Int) = (List.length b1 : Int)))
    (some false)
    (L (fun (s2 : ((Int × Unit) × Unit)) nx3 => l77_0 a0 b1 nx3 s2.1.1) ((0, ()), ()))
theorem e77 (L : Lp)  (x : s77.args.den) (h : denH s77.heap) : nrun [] L n77 s77 x h = F77 L  x.1 x.2.1 := by kernel_rfl
def f77 : (List Int) → (List Int) → Option Bool := F77 (@LN LOOPS) 
@[reducible] def t77 : Ent := ⟨77, s77, fun x h => f77 x.1 x.2.1⟩
theorem k77 : chkNF Try.prog Try.f77 n77 = true := by kernel_rfl
theorem ok77 : NOk Try.prog t77 := NOk.body (T := []) mixed nall_nil (oneEach_of (by kernel_rfl)) Try.func77 k77 (by kernel_rfl) (fun x h => e77 _  x h)
/- drayage/drayageref09.Same -/
def n21 : NFunc := ⟨38, .seq (.region 2 [
    ⟨(some 2), .box 5 (.tmp 0), none, 0, none⟩,
    ⟨(some 3), .box 5 (.tmp 1), none, 1, none⟩,
    ⟨(some 4), .move (.const (.bool false)), none, 2, none⟩] []) (.seq (.region 4 [
    ⟨(some 5), .fieldAddr 0 (.tmp 2), none, 0, none⟩,
    ⟨(some 6), .load false 1 (.tmp 5), none, 0, none⟩,
    ⟨(some 7), .fieldAddr 0 (.tmp 3), none, 0, none⟩,
    ⟨(some 8), .load false 1 (.tmp 7), none, 0, none⟩,
    ⟨(some 9), .bin .eql (.tmp 6) (.tmp 8), none, 0, none⟩,
    ⟨(some 10), .move (.tmp 9), none, 0, none⟩,
    ⟨(some 11), .fieldAddr 1 (.tmp 2), (some (10, true)), 0, none⟩,
    ⟨(some 12), .load false 1 (.tmp 11), (some (10, true)), 0, none⟩,
    ⟨(some 13), .fieldAddr 1 (.tmp 3), (some (10, true)), 0, none⟩,
    ⟨(some 14), .load false 1 (.tmp 13), (some (10, true)), 0, none⟩,
    ⟨(some 15), .bin .eql (.tmp 12) (.tmp 14), (some (10, true)), 0, none⟩,
    ⟨(some 16), .pick (.tmp 10) (.tmp 15) (.const (.bool false)), none, 0, none⟩,
    ⟨(some 17), .move (.tmp 16), none, 0, none⟩,
    ⟨(some 18), .fieldAddr 2 (.tmp 2), (some (17, true)), 0, none⟩,
    ⟨(some 19), .load false 1 (.tmp 18), (some (17, true)), 0, none⟩,
    ⟨(some 20), .fieldAddr 2 (.tmp 3), (some (17, true)), 0, none⟩,
    ⟨(some 21), .load false 1 (.tmp 20), (some (17, true)), 0, none⟩,
    ⟨(some 22), .bin .eql (.tmp 19) (.tmp 21), (some (17, true)), 0, none⟩,
    ⟨(some 23), .pick (.tmp 17) (.tmp 22) (.const (.bool false)), none, 0, none⟩,
    ⟨(some 24), .move (.tmp 23), none, 0, none⟩,
    ⟨(some 25), .fieldAddr 3 (.tmp 2), (some (24, true)), 0, none⟩,
    ⟨(some 26), .load false 1 (.tmp 25), (some (24, true)), 0, none⟩,
    ⟨(some 27), .fieldAddr 3 (.tmp 3), (some (24, true)), 0, none⟩,
    ⟨(some 28), .load false 1 (.tmp 27), (some (24, true)), 0, none⟩,
    ⟨(some 29), .bin .eql (.tmp 26) (.tmp 28), (some (24, true)), 0, none⟩,
    ⟨(some 30), .pick (.tmp 24) (.tmp 29) (.const (.bool false)), none, 0, none⟩,
    ⟨(some 31), .move (.tmp 30), none, 0, none⟩,
    ⟨(some 32), .fieldAddr 4 (.tmp 2), (some (31, true)), 0, none⟩,
    ⟨(some 33), .load false 1 (.tmp 32), (some (31, true)), 0, none⟩,
    ⟨(some 34), .fieldAddr 4 (.tmp 3), (some (31, true)), 0, none⟩,
    ⟨(some 35), .load false 1 (.tmp 34), (some (31, true)), 0, none⟩,
    ⟨(some 36), .call (.func 77) [(false, (.tmp 33)), (false, (.tmp 35))] false 4, (some (31, true)), 0, none⟩,
    ⟨(some 37), .pick (.tmp 31) (.tmp 36) (.const (.bool false)), none, 4, none⟩,
    ⟨(some 4), .move (.tmp 37), none, 4, none⟩] []) (.ret)), [.tmp 4], true⟩
def s21 : Sig := ⟨(.cons (.v .reply) (.cons (.v .reply) .nil)), [], ((.v .bool), []), []⟩
def F21 (L : Lp) (g77 : (List Int) → (List Int) → Option Bool) (a0 : Reply) (b1 : Reply) : Option Bool :=
  cond (decide (a0.key = b1.key))
    (cond (decide (a0.err = b1.err))
      (cond (decide (a0.job = b1.job))
        (cond (decide (a0.version = b1.version))
          (Option.bind (g77 a0.nums b1.nums) fun r2 =>
          some r2)
          (some false))
        (some false))
      (some false))
    (some false)
theorem e21 (L : Lp) (g77 : (List Int) → (List Int) → Option Bool) (x : s21.args.den) (h : denH s21.heap) : nrun [⟨77, s77, fun x h => g77 x.1 x.2.1⟩] L n21 s21 x h = F21 L g77 x.1 x.2.1 := by kernel_rfl
def f21 : Reply → Reply → Option Bool := F21 (@LN LOOPS) f77
@[reducible] def t21 : Ent := ⟨21, s21, fun x h => f21 x.1 x.2.1⟩
theorem k21 : chkNF Try.prog Try.f21 n21 = true := by kernel_rfl
theorem ok21 : NOk Try.prog t21 := NOk.body (T := [t77]) mixed (nall_cons ok77 nall_nil) (oneEach_of (by kernel_rfl)) Try.func21 k21 (by kernel_rfl) (fun x h => e21 _ _ x h)
/- drayage/drayagelaw09.ReplyReads -/
def n4 : NFunc := ⟨51, .seq (.region 0 [
    ⟨(some 2), .move (.const (.bool false)), none, 0, none⟩] []) (.seq (.seq (.region 4 [
    ⟨(some 9), .call (.func 18) [] false 4, none, 0, none⟩,
    ⟨(some 10), .un .not (.tmp 9), none, 4, none⟩] []) (.cond (.tmp 10) (.seq (.region 0 [
    ⟨(some 2), .move (.const (.bool false)), none, 0, none⟩] []) (.ret)) (.skip))) (.seq (.seq (.region 0 [
    ⟨(some 11), .move (.tmp 0), none, 0, none⟩,
    ⟨(some 12), .len (.tmp 11), none, 0, none⟩,
    ⟨(some 13), .bin .gtr (.tmp 12) (.const (.int .i64 (400))), none, 0, none⟩] []) (.cond (.tmp 13) (.seq (.region 0 [
    ⟨(some 2), .move (.const (.bool true)), none, 0, none⟩] []) (.ret)) (.skip))) (.seq (.region 5 [
    ⟨(some 15), .move (.tmp 0), none, 0, none⟩,
    ⟨(some 16), .call (.func 19) [(false, (.tmp 15))] false 4, none, 0, none⟩,
    ⟨(some 14), .move (.tmp 16), none, 4, none⟩,
    ⟨(some 17), .extract (.tmp 14) 0, none, 4, none⟩,
    ⟨(some 18), .extract (.tmp 14) 1, none, 4, none⟩,
    ⟨(some 3), .alloc [.int .i64 (0), .int .i64 (0), .int .i64 (0), .int .i64 (0), .zsl], none, 4, none⟩,
    ⟨none, .store 5 (.tmp 3) (.tmp 17), none, 5, none⟩,
    ⟨(some 4), .move (.tmp 18), none, 5, none⟩] []) (.seq (.region 5 [
    ⟨(some 20), .move (.tmp 0), none, 0, none⟩,
    ⟨(some 21), .call (.func 20) [(false, (.tmp 20))] false 4, none, 0, none⟩,
    ⟨(some 19), .move (.tmp 21), none, 4, none⟩,
    ⟨(some 22), .extract (.tmp 19) 0, none, 4, none⟩,
    ⟨(some 23), .extract (.tmp 19) 1, none, 4, none⟩,
    ⟨(some 5), .alloc [.int .i64 (0), .int .i64 (0), .int .i64 (0), .int .i64 (0), .zsl], none, 4, none⟩,
    ⟨none, .store 5 (.tmp 5) (.tmp 22), none, 5, none⟩,
    ⟨(some 6), .move (.tmp 23), none, 5, none⟩] []) (.seq (.seq (.region 4 [
    ⟨(some 24), .move (.tmp 4), none, 0, none⟩,
    ⟨(some 25), .move (.tmp 6), none, 0, none⟩,
    ⟨(some 26), .bin .neq (.tmp 24) (.tmp 25), none, 0, none⟩,
    ⟨(some 27), .move (.tmp 26), none, 0, none⟩,
    ⟨(some 28), .load true 5 (.tmp 3), (some (27, false)), 0, none⟩,
    ⟨(some 29), .load true 5 (.tmp 5), (some (27, false)), 0, none⟩,
    ⟨(some 30), .call (.func 21) [(false, (.tmp 28)), (false, (.tmp 29))] false 4, (some (27, false)), 0, none⟩,
    ⟨(some 31), .un .not (.tmp 30), (some (27, false)), 4, none⟩,
    ⟨(some 32), .pick (.tmp 27) (.const (.bool true)) (.tmp 31), none, 4, none⟩] []) (.cond (.tmp 32) (.seq (.region 0 [
    ⟨(some 2), .move (.const (.bool false)), none, 0, none⟩] []) (.ret)) (.skip))) (.seq (.seq (.region 0 [
    ⟨(some 33), .move (.tmp 6), none, 0, none⟩,
    ⟨(some 34), .bin .neq (.tmp 33) (.const (.int .i64 (0))), none, 0, none⟩] []) (.cond (.tmp 34) (.seq (.region 0 [
    ⟨(some 2), .move (.const (.bool true)), none, 0, none⟩] []) (.ret)) (.skip))) (.seq (.region 4 [
    ⟨(some 36), .load true 5 (.tmp 3), none, 0, none⟩,
    ⟨(some 37), .call (.func 22) [(false, (.tmp 36))] false 4, none, 0, none⟩,
    ⟨(some 35), .move (.tmp 37), none, 4, none⟩,
    ⟨(some 38), .extract (.tmp 35) 0, none, 4, none⟩,
    ⟨(some 39), .extract (.tmp 35) 1, none, 4, none⟩,
    ⟨(some 7), .move (.tmp 38), none, 4, none⟩,
    ⟨(some 8), .move (.tmp 39), none, 4, none⟩] []) (.seq (.region 8 [
    ⟨(some 40), .load true 5 (.tmp 3), none, 0, none⟩,
    ⟨(some 41), .call (.func 23) [(false, (.tmp 40))] false 4, none, 0, none⟩,
    ⟨(some 42), .move (.tmp 41), none, 4, none⟩,
    ⟨(some 43), .move (.tmp 8), (some (42, true)), 4, none⟩,
    ⟨(some 44), .bin .eql (.tmp 43) (.const (.int .i64 (0))), (some (42, true)), 4, none⟩,
    ⟨(some 45), .pick (.tmp 42) (.tmp 44) (.const (.bool false)), none, 4, none⟩,
    ⟨(some 46), .move (.tmp 45), none, 4, none⟩,
    ⟨(some 47), .move (.tmp 7), (some (46, true)), 4, none⟩,
    ⟨(some 48), .move (.tmp 0), (some (46, true)), 4, none⟩,
    ⟨(some 49), .call (.func 17) [(false, (.tmp 47)), (false, (.tmp 48))] false 4, (some (46, true)), 4, none⟩,
    ⟨(some 50), .pick (.tmp 46) (.tmp 49) (.const (.bool false)), none, 8, none⟩,
    ⟨(some 2), .move (.tmp 50), none, 8, none⟩] []) (.ret))))))))), [.tmp 2], true⟩
def s4 : Sig := ⟨(.cons (.v (.list (.int .u8))) .nil), [], ((.v .bool), []), []⟩
def F4 (L : Lp) (g18 : Option Bool) (g19 : (List Int) → Option (Reply × (Int × Unit))) (g20 : (List Int) → Option (Reply × (Int × Unit))) (g21 : Reply → Reply → Option Bool) (g22 : Reply → Option ((List Int) × (Int × Unit))) (g23 : Reply → Option Bool) (g17 : (List Int) → (List Int) → Option Bool) (b0 : (List Int)) : Option Bool :=
  Option.bind (g18) fun r1 =>
  cond (!r1)
    (some false)
    (cond (decide (400 < (List.length b0 : Int)))
      (some true)
      (Option.bind (g19 b0) fun r2 =>
      Option.bind (g20 b0) fun r3 =>
      cond (!decide (r2.2.1 = r3.2.1))
        (some false)
        (Option.bind (g21 r2.1 r3.1) fun r4 =>
        cond (!r4)
          (some false)
          (cond (!decide (r3.2.1 = 0))
            (some true)
            (Option.bind (g22 r2.1) fun r5 =>
            Option.bind (g23 r2.1) fun r6 =>
            cond r6
              (cond (decide (r5.2.1 = 0))
                (Option.bind (g17 r5.1 b0) fun r7 =>
                some r7)
                (some false))
              (some false))))))
theorem e4 (L : Lp) (g18 : Option Bool) (g19 : (List Int) → Option (Reply × (Int × Unit))) (g20 : (List Int) → Option (Reply × (Int × Unit))) (g21 : Reply → Reply → Option Bool) (g22 : Reply → Option ((List Int) × (Int × Unit))) (g23 : Reply → Option Bool) (g17 : (List Int) → (List Int) → Option Bool) (x : s4.args.den) (h : denH s4.heap) : nrun [⟨18, s18, fun x h => g18 ⟩, ⟨19, s19, fun x h => g19 x.1⟩, ⟨20, s20, fun x h => g20 x.1⟩, ⟨21, s21, fun x h => g21 x.1 x.2.1⟩, ⟨22, s22, fun x h => g22 x.1⟩, ⟨23, s23, fun x h => g23 x.1⟩, ⟨17, s17, fun x h => g17 x.1 x.2.1⟩] L n4 s4 x h = F4 L g18 g19 g20 g21 g22 g23 g17 x.1 := by kernel_rfl
def f4 : (List Int) → Option Bool := F4 (@LN LOOPS) f18 f19 f20 f21 f22 f23 f17
@[reducible] def t4 : Ent := ⟨4, s4, fun x h => f4 x.1⟩
theorem k4 : chkNF Try.prog Try.f4 n4 = true := by kernel_rfl
theorem ok4 : NOk Try.prog t4 := NOk.body (T := [t18, t19, t20, t21, t22, t23, t17]) mixed (nall_cons ok18 (nall_cons ok19 (nall_cons ok20 (nall_cons ok21 (nall_cons ok22 (nall_cons ok23 (nall_cons ok17 nall_nil))))))) (oneEach_of (by kernel_rfl)) Try.func4 k4 (by kernel_rfl) (fun x h => e4 _ _ _ _ _ _ _ _ x h)
end NM
end Go.Proofs.Ytgpejfddaelobaa
