/-
  The plain forms of the functions that the statement reaches, and that each is its function's body. (Written by program.)
-/
import Derived.Test.YtgccppgpbnmaaaaDoorNmX
import Derived.Test.YtgccppgpbnmaaaaDoorProg
import Derived.ProofKit
import Derived.Test.YtgccppgpbnmaaaaDoorNVecT
set_option linter.unusedVariables false
set_option maxRecDepth 100000
set_option maxHeartbeats 4000000
namespace Go.Proofs.YtgccppgpbnmaaaaDoor
namespace NM
open AM Go.RowKit
theorem mixed : Tryd.prog.follows .mixedOrders = true := by kernel_rfl
/- drayage/drayageref07.Small -/
def n47 : NFunc := ⟨23, .seq (.region 1 [
    ⟨(some 0), .alloc [.zsl, .zsl, .zsl, .int .i64 (0), .int .i64 (0), .int .i64 (0), .int .i64 (0), .int .i64 (0), .int .i64 (0), .int .i64 (0), .int .i64 (0), .int .i64 (0), .int .i64 (0), .int .i64 (0), .int .i64 (0), .int .i64 (0), .int .i64 (0), .int .i64 (0)], none, 0, none⟩] []) (.seq (.region 1 [
    ⟨(some 4), .build [.zsl, .zsl, .zsl, .int .i64 (0), .int .i64 (0), .int .i64 (0), .int .i64 (0), .int .i64 (0), .int .i64 (0), .int .i64 (0), .int .i64 (0), .int .i64 (0), .int .i64 (0), .int .i64 (0), .int .i64 (0), .int .i64 (0), .int .i64 (0), .int .i64 (0)] [(3, 1, (.const (.int .i64 (3)))), (8, 1, (.const (.int .i64 (4)))), (9, 1, (.const (.int .i64 (1)))), (10, 1, (.const (.int .i64 (12)))), (11, 1, (.const (.int .i64 (100)))), (12, 1, (.const (.int .i64 (50)))), (13, 1, (.const (.int .i64 (5)))), (14, 1, (.const (.int .i64 (4)))), (15, 1, (.const (.int .i64 (3)))), (16, 1, (.const (.int .i64 (6)))), (17, 1, (.const (.int .i64 (4))))], none, 0, none⟩,
    ⟨(some 1), .alloc [.zsl, .zsl, .zsl, .int .i64 (0), .int .i64 (0), .int .i64 (0), .int .i64 (0), .int .i64 (0), .int .i64 (0), .int .i64 (0), .int .i64 (0), .int .i64 (0), .int .i64 (0), .int .i64 (0), .int .i64 (0), .int .i64 (0), .int .i64 (0), .int .i64 (0)], none, 0, none⟩,
    ⟨none, .store 18 (.tmp 1) (.tmp 4), none, 1, none⟩] []) (.seq (.region 1 [
    ⟨(some 5), .build [.int .i64 (0), .int .i64 (0), .int .i64 (0), .int .i64 (0)] [(0, 1, (.const (.int .i64 (4)))), (1, 1, (.const (.int .i64 (8)))), (3, 1, (.const (.int .i64 (1))))], none, 0, none⟩,
    ⟨(some 6), .build [.int .i64 (0), .int .i64 (0), .int .i64 (0), .int .i64 (0)] [(0, 1, (.const (.int .i64 (8)))), (1, 1, (.const (.int .i64 (8)))), (2, 1, (.const (.int .i64 (1))))], none, 0, none⟩,
    ⟨(some 7), .buildSlice 4 2 true [.int .i64 (0), .int .i64 (0), .int .i64 (0), .int .i64 (0)] [(0, (.tmp 5)), (1, (.tmp 6))], none, 0, none⟩,
    ⟨(some 8), .fieldAddr 0 (.tmp 1), none, 1, none⟩,
    ⟨none, .store 1 (.tmp 8) (.tmp 7), none, 1, none⟩] []) (.seq (.region 3 [
    ⟨(some 9), .buildSlice 1 2 true [.int .i64 (0)] [(0, (.const (.int .i64 (0)))), (1, (.const (.int .i64 (1))))], none, 0, none⟩,
    ⟨(some 10), .buildSlice 1 1 true [.int .i64 (0)] [(0, (.const (.int .i64 (1))))], none, 1, none⟩,
    ⟨(some 11), .buildSlice 1 2 true [.zsl] [(0, (.tmp 9)), (1, (.tmp 10))], none, 2, none⟩,
    ⟨(some 12), .fieldAddr 1 (.tmp 1), none, 3, none⟩,
    ⟨none, .store 1 (.tmp 12) (.tmp 11), none, 3, none⟩] []) (.seq (.region 1 [
    ⟨(some 13), .build [.int .i64 (0), .zsl, .int .i64 (0), .int .i64 (0), .int .i64 (0), .int .i64 (0)] [(2, 1, (.const (.int .i64 (8)))), (3, 1, (.const (.int .i64 (4)))), (4, 1, (.const (.int .i64 (3)))), (5, 1, (.const (.int .i64 (1))))], none, 0, none⟩,
    ⟨(some 2), .alloc [.int .i64 (0), .zsl, .int .i64 (0), .int .i64 (0), .int .i64 (0), .int .i64 (0)], none, 0, none⟩,
    ⟨none, .store 6 (.tmp 2) (.tmp 13), none, 1, none⟩] []) (.seq (.region 2 [
    ⟨(some 14), .buildSlice 1 2 true [.int .i64 (0)] [(0, (.const (.int .i64 (0)))), (1, (.const (.int .i64 (1))))], none, 0, none⟩,
    ⟨(some 15), .build [.int .i64 (0), .zsl, .int .i64 (0), .int .i64 (0), .int .i64 (0), .int .i64 (0)] [(0, 1, (.const (.int .i64 (1)))), (1, 1, (.tmp 14)), (2, 1, (.const (.int .i64 (4)))), (3, 1, (.const (.int .i64 (2)))), (4, 1, (.const (.int .i64 (2)))), (5, 1, (.const (.int .i64 (5))))], none, 1, none⟩,
    ⟨(some 3), .alloc [.int .i64 (0), .zsl, .int .i64 (0), .int .i64 (0), .int .i64 (0), .int .i64 (0)], none, 1, none⟩,
    ⟨none, .store 6 (.tmp 3) (.tmp 15), none, 2, none⟩] []) (.seq (.region 1 [
    ⟨(some 16), .load true 6 (.tmp 2), none, 0, none⟩,
    ⟨(some 17), .load true 6 (.tmp 3), none, 0, none⟩,
    ⟨(some 18), .buildSlice 6 2 true [.int .i64 (0), .zsl, .int .i64 (0), .int .i64 (0), .int .i64 (0), .int .i64 (0)] [(0, (.tmp 16)), (1, (.tmp 17))], none, 0, none⟩,
    ⟨(some 19), .fieldAddr 2 (.tmp 1), none, 1, none⟩,
    ⟨none, .store 1 (.tmp 19) (.tmp 18), none, 1, none⟩] []) (.seq (.region 0 [
    ⟨(some 20), .build [.int .i64 (0), .int .i64 (0), .int .i64 (0), .int .i64 (0)] [(0, 1, (.const (.int .i64 (1)))), (1, 1, (.const (.int .i64 (2)))), (2, 1, (.const (.int .i64 (10)))), (3, 1, (.const (.int .i64 (3))))], none, 0, none⟩,
    ⟨(some 21), .fieldAddr 4 (.tmp 1), none, 0, none⟩,
    ⟨none, .store 4 (.tmp 21) (.tmp 20), none, 0, none⟩] []) (.seq (.region 0 [
    ⟨(some 22), .load true 18 (.tmp 1), none, 0, none⟩,
    ⟨none, .store 18 (.tmp 0) (.tmp 22), none, 0, none⟩] []) (.ret))))))))), [.cell true 18 0], true⟩
def s47 : Sig := ⟨.nil, [], ((.v .spec), []), []⟩
def F47 (L : Lp)   : Option Spec :=
  some (Spec.mk [Res.mk 4 8 0 1, Res.mk 8 8 1 0] [[0, 1], [1]] [Queue.mk 0 [] 8 4 3 1, Queue.mk 1 [0, 1] 4 2 2 5] 3 (Weights.mk 1 2 10 3) 4 1 12 100 50 5 4 3 6 4)
theorem e47 (L : Lp)  (x : s47.args.den) (h : denH s47.heap) : nrun [] L n47 s47 x h = F47 L   := by kernel_rfl
def f47 : Option Spec := F47 (@LN LOOPS) 
@[reducible] def t47 : Ent := ⟨47, s47, fun x h => f47 ⟩
theorem k47 : chkNF Tryd.prog Tryd.f47 n47 = true := by kernel_rfl
theorem ok47 : NOk Tryd.prog t47 := NOk.body (T := []) mixed nall_nil (oneEach_of (by kernel_rfl)) Tryd.func47 k47 (by kernel_rfl) (fun x h => e47 _  x h)
/- drayage/drayagelaw25.one -/
def n48 : NFunc := ⟨3, .seq (.region 1 [
    ⟨(some 0), .alloc [.int .i64 (0), .int .i64 (0), .int .i64 (0), .int .i64 (0), .int .i64 (0), .int .i64 (0), .int .i64 (0), .int .i64 (0), .int .i64 (0), .zsl, .int .i64 (0), .bool false, .bool false, .int .i64 (0), .int .i64 (0), .int .i64 (0), .int .i64 (0), .int .i64 (0)], none, 0, none⟩] []) (.seq (.region 0 [
    ⟨(some 1), .build [.int .i64 (0), .int .i64 (0), .int .i64 (0), .int .i64 (0)] [(0, 1, (.const (.int .i64 (1))))], none, 0, none⟩,
    ⟨(some 2), .build [.int .i64 (0), .int .i64 (0), .int .i64 (0), .int .i64 (0), .int .i64 (0), .int .i64 (0), .int .i64 (0), .int .i64 (0), .int .i64 (0), .zsl, .int .i64 (0), .bool false, .bool false, .int .i64 (0), .int .i64 (0), .int .i64 (0), .int .i64 (0), .int .i64 (0)] [(0, 1, (.const (.int .i64 (3)))), (1, 1, (.const (.int .i64 (1)))), (3, 1, (.const (.int .i64 (1)))), (4, 4, (.tmp 1)), (8, 1, (.const (.int .i64 (5)))), (10, 1, (.const (.int .i64 (1)))), (13, 1, (.const (.int .i64 (1))))], none, 0, none⟩,
    ⟨none, .store 18 (.tmp 0) (.tmp 2), none, 0, none⟩] []) (.ret)), [.cell true 18 0], true⟩
def s48 : Sig := ⟨.nil, [], ((.v .job), []), []⟩
def F48 (L : Lp)   : Option Job :=
  some (Job.mk 3 1 0 1 (Res.mk 1 0 0 0) 5 [] 1 false false 1 0 0 0 0)
theorem e48 (L : Lp)  (x : s48.args.den) (h : denH s48.heap) : nrun [] L n48 s48 x h = F48 L   := by kernel_rfl
def f48 : Option Job := F48 (@LN LOOPS) 
@[reducible] def t48 : Ent := ⟨48, s48, fun x h => f48 ⟩
theorem k48 : chkNF Tryd.prog Tryd.f48 n48 = true := by kernel_rfl
theorem ok48 : NOk Tryd.prog t48 := NOk.body (T := []) mixed nall_nil (oneEach_of (by kernel_rfl)) Tryd.func48 k48 (by kernel_rfl) (fun x h => e48 _  x h)
/- slices.Clone[[]drayage/api.Dep,drayage/api.Dep] -/
def n54 : NFunc := ⟨8, .seq (.region 0 [
    ⟨(some 2), .move (.const (.zsl)), none, 0, none⟩] []) (.seq (.seq (.region 0 [
    ⟨(some 3), .move (.tmp 0), none, 0, none⟩,
    ⟨(some 4), .eqI false (.tmp 3) (.const (.zsl)), none, 0, none⟩] []) (.cond (.tmp 4) (.seq (.region 0 [
    ⟨(some 2), .move (.const (.zsl)), none, 0, none⟩] []) (.ret)) (.skip))) (.seq (.region 2 [
    ⟨(some 5), .buildSlice 2 0 true [.int .i64 (0), .bool false] [], none, 0, none⟩,
    ⟨(some 6), .move (.tmp 0), none, 1, none⟩,
    ⟨(some 7), .append 2 16 true (.tmp 5) (.tmp 6), none, 1, none⟩,
    ⟨(some 2), .move (.tmp 7), none, 2, none⟩] []) (.ret))), [.tmp 2], false⟩
def s54 : Sig := ⟨(.cons (.v (.list .dep)) .nil), [], ((.slw 0 2), [.typed .dep]), []⟩
def F54 (L : Lp)  (as0 : (List Dep)) : Option (Unit × ((List Dep) × Unit)) :=
  cond (List.isEmpty as0)
  (none)
  (cond (smallB (0 + (List.length as0)) 16)
  (some ((), ([] ++ as0, ())))
  (none))
theorem e54 (L : Lp)  (x : s54.args.den) (h : denH s54.heap) : nrun [] L n54 s54 x h = F54 L  x.1 := by kernel_rfl
def f54 : (List Dep) → Option (Unit × ((List Dep) × Unit)) := cloneF (F54 (@LN LOOPS))
@[reducible] def t54 : Ent := ⟨54, s54, fun x h => f54 x.1⟩
theorem k54 : chkNF Tryd.prog Tryd.f54 n54 = true := by kernel_rfl
theorem c54 (A : Option Addr) (c : Nat) (w : World) : Calls Tryd.prog 54 #[.slice A 0 c] w (fun e w' => ∃ A', e = .returned (.slice A' 0 0) ∧ Go.RowKit.Below w.heap.size w w') := by
  have hq := fun (u : World) => Lib.run_eql_slice_nil (P := Tryd.prog) u 53 107 A 0 c 0 0 Tryd.underlying53
  cases A with
  | none => (go_enter Tryd.func54, Tryd.ntmps54; go_wp2; go_ret; exact ⟨_, rfl, Go.RowKit.Below.refl _ _⟩)
  | some ad => (go_enter Tryd.func54, Tryd.ntmps54; go_wp2; go_ret; exact ⟨_, rfl, (Go.RowKit.Below.refl _ _).alloc (Nat.le_refl _) _⟩)
theorem b54 : NOk Tryd.prog ⟨54, s54, fun x h => F54 (@LN LOOPS) x.1⟩ := NOk.body (T := []) mixed nall_nil (oneEach_of (by kernel_rfl)) Tryd.func54 k54 (by kernel_rfl) (fun x h => e54 _  x h)
theorem ok54 : NOk Tryd.prog t54 := NOk.clone (t := .dep) b54 (clone_empty .dep b54.1 c54)
/- drayage/reply.Refusal -/
def n55 : NFunc := ⟨8, .seq (.region 1 [
    ⟨(some 4), .alloc [.int .i64 (0), .int .i64 (0), .int .i64 (0), .int .i64 (0), .zsl], none, 0, none⟩] []) (.seq (.region 0 [
    ⟨(some 5), .move (.tmp 0), none, 0, none⟩,
    ⟨(some 6), .move (.tmp 1), none, 0, none⟩,
    ⟨(some 7), .build [.int .i64 (0), .int .i64 (0), .int .i64 (0), .int .i64 (0), .zsl] [(0, 1, (.tmp 5)), (1, 1, (.tmp 6))], none, 0, none⟩,
    ⟨none, .store 5 (.tmp 4) (.tmp 7), none, 0, none⟩] []) (.ret)), [.cell true 5 4], true⟩
def s55 : Sig := ⟨(.cons (.v (.int .i64)) (.cons (.v (.int .i64)) .nil)), [], ((.v .reply), []), []⟩
def F55 (L : Lp)  (key0 : Int) (ae1 : Int) : Option Reply :=
  some (Reply.mk key0 ae1 0 0 [])
theorem e55 (L : Lp)  (x : s55.args.den) (h : denH s55.heap) : nrun [] L n55 s55 x h = F55 L  x.1 x.2.1 := by kernel_rfl
def f55 : Int → Int → Option Reply := F55 (@LN LOOPS) 
@[reducible] def t55 : Ent := ⟨55, s55, fun x h => f55 x.1 x.2.1⟩
theorem k55 : chkNF Tryd.prog Tryd.f55 n55 = true := by kernel_rfl
theorem ok55 : NOk Tryd.prog t55 := NOk.body (T := []) mixed nall_nil (oneEach_of (by kernel_rfl)) Tryd.func55 k55 (by kernel_rfl) (fun x h => e55 _  x h)
/- drayage/alter.Such -/
def n50 : NFunc := ⟨15, .seq (.region 0 [
    ⟨(some 2), .move (.const (.bool false)), none, 0, none⟩] []) (.seq (.region 0 [
    ⟨(some 3), .move (.tmp 0), none, 0, none⟩,
    ⟨(some 4), .bin .geq (.tmp 3) (.const (.int .i64 (0))), none, 0, none⟩,
    ⟨(some 5), .move (.tmp 4), none, 0, none⟩,
    ⟨(some 6), .move (.tmp 0), (some (5, true)), 0, none⟩,
    ⟨(some 7), .bin .lss (.tmp 6) (.const (.int .i64 (6))), (some (5, true)), 0, none⟩,
    ⟨(some 8), .pick (.tmp 5) (.tmp 7) (.const (.bool false)), none, 0, none⟩,
    ⟨(some 9), .move (.tmp 8), none, 0, none⟩,
    ⟨(some 10), .move (.tmp 0), (some (9, true)), 0, none⟩,
    ⟨(some 11), .indexArr 6 1 (.glob 1) (.tmp 10), (some (9, true)), 0, none⟩,
    ⟨(some 12), .load false 1 (.tmp 11), (some (9, true)), 0, none⟩,
    ⟨(some 13), .bin .neq (.tmp 12) (.const (.int .i64 (0))), (some (9, true)), 0, none⟩,
    ⟨(some 14), .pick (.tmp 9) (.tmp 13) (.const (.bool false)), none, 0, none⟩,
    ⟨(some 2), .move (.tmp 14), none, 0, none⟩] [⟨11, none, some (10, 6)⟩]) (.ret)), [.tmp 2], true⟩
def s50 : Sig := ⟨(.cons (.v (.int .i64)) .nil), [], ((.v .bool), []), []⟩
def F50 (L : Lp)  (kind0 : Int) : Option Bool :=
  cond (decide (0 ≤ kind0))
  (cond (decide (kind0 < 6))
  (cond (decide (kind0 = 5))
  (some true)
  (cond (decide (kind0 = 4))
  (some true)
  (cond (decide (kind0 = 3))
  (some true)
  (cond (decide (kind0 = 2))
  (some true)
  (cond (decide (kind0 = 1))
  (some false)
  (cond (decide (kind0 = 0))
  (some false)
  (none)))))))
  (some false))
  (some false)
theorem e50 (L : Lp)  (x : s50.args.den) (h : denH s50.heap) : nrun [] L n50 s50 x h = F50 L  x.1 := by kernel_rfl
def f50 : Int → Option Bool := F50 (@LN LOOPS) 
@[reducible] def t50 : Ent := ⟨50, s50, fun x h => f50 x.1⟩
theorem k50 : chkNF Tryd.prog Tryd.f50 n50 = true := by kernel_rfl
theorem ok50 : NOk Tryd.prog t50 := NOk.body (T := []) mixed nall_nil (oneEach_of (by kernel_rfl)) Tryd.func50 k50 (by kernel_rfl) (fun x h => e50 _  x h)
/- drayage/spec.within -/
def n125 : NFunc := ⟨12, .seq (.region 4 [
    ⟨(some 5), .box 1 (.tmp 1), none, 0, none⟩,
    ⟨(some 6), .box 1 (.tmp 2), none, 1, none⟩,
    ⟨(some 7), .box 1 (.tmp 3), none, 2, none⟩,
    ⟨(some 8), .alloc [.str [], .nilfn], none, 3, none⟩] []) (.seq (.region 0 [
    ⟨(some 9), .move (.tmp 0), none, 0, none⟩,
    ⟨(some 10), .makeFunc 137 [(.tmp 6), (.tmp 5), (.tmp 7)], none, 0, none⟩,
    ⟨(some 11), .build [.str [], .nilfn] [(0, 1, (.tmp 9)), (1, 1, (.tmp 10))], none, 0, none⟩,
    ⟨none, .store 2 (.tmp 8) (.tmp 11), none, 0, none⟩] []) (.ret)), [.cell true 2 8], true⟩
def s125 : Sig := ⟨(.cons (.v .str) (.cons (.v (.int .i64)) (.cons (.v (.int .i64)) (.cons (.v (.int .i64)) .nil)))), [], ((.agg (.cons (.v .str) (.cons (.fn 137 (.cons (.iptr (.cons (.v (.int .i64)) .nil) 0) (.cons (.iptr (.cons (.v (.int .i64)) .nil) 0) (.cons (.iptr (.cons (.v (.int .i64)) .nil) 0) .nil)))) .nil))), []), []⟩
def F125 (L : Lp)  (word0 : (List UInt8)) (an1 : Int) (lo2 : Int) (hi3 : Int) : Option ((List UInt8) × (((Int × Unit) × ((Int × Unit) × ((Int × Unit) × Unit))) × Unit)) :=
  some (word0, ((lo2, ()), (an1, ()), (hi3, ()), ()), ())
theorem e125 (L : Lp)  (x : s125.args.den) (h : denH s125.heap) : nrun [] L n125 s125 x h = F125 L  x.1 x.2.1 x.2.2.1 x.2.2.2.1 := by kernel_rfl
def f125 : (List UInt8) → Int → Int → Int → Option ((List UInt8) × (((Int × Unit) × ((Int × Unit) × ((Int × Unit) × Unit))) × Unit)) := F125 (@LN LOOPS) 
@[reducible] def t125 : Ent := ⟨125, s125, fun x h => f125 x.1 x.2.1 x.2.2.1 x.2.2.2.1⟩
theorem k125 : chkNF Tryd.prog Tryd.f125 n125 = true := by kernel_rfl
theorem ok125 : NOk Tryd.prog t125 := NOk.body (T := []) mixed nall_nil (oneEach_of (by kernel_rfl)) Tryd.func125 k125 (by kernel_rfl) (fun x h => e125 _  x h)
/- drayage/spec.rules -/
def n108 : NFunc := ⟨44, .seq (.region 1 [
    ⟨(some 1), .box 18 (.tmp 0), none, 0, none⟩,
    ⟨(some 2), .move (.const (.zsl)), none, 1, none⟩] []) (.seq (.region 41 [
    ⟨(some 3), .makeFunc 121 [(.tmp 1)], none, 0, (some ([], none))⟩,
    ⟨(some 4), .build [.str [], .nilfn] [(0, 1, (.const (.str [78, 111, 100, 101, 115]))), (1, 1, (.tmp 3))], none, 0, (some ([], none))⟩,
    ⟨(some 5), .makeFunc 123 [(.tmp 1)], none, 0, (some ([], none))⟩,
    ⟨(some 6), .build [.str [], .nilfn] [(0, 1, (.const (.str [80, 97, 114, 116, 115]))), (1, 1, (.tmp 5))], none, 0, (some ([], none))⟩,
    ⟨(some 7), .fieldAddr 3 (.tmp 1), none, 0, (some ([], none))⟩,
    ⟨(some 8), .load false 1 (.tmp 7), none, 0, (some ([], none))⟩,
    ⟨(some 9), .call (.func 125) [(false, (.const (.str [85, 115, 101, 114, 115]))), (false, (.tmp 8)), (false, (.const (.int .i64 (1)))), (false, (.const (.int .i64 (8))))] true 4, none, 0, (some ([], none))⟩,
    ⟨(some 10), .makeFunc 126 [(.tmp 1)], none, 4, (some ([], none))⟩,
    ⟨(some 11), .build [.str [], .nilfn] [(0, 1, (.const (.str [81, 117, 101, 117, 101, 115]))), (1, 1, (.tmp 10))], none, 4, (some ([], none))⟩,
    ⟨(some 12), .makeFunc 128 [(.tmp 1)], none, 4, (some ([], none))⟩,
    ⟨(some 13), .build [.str [], .nilfn] [(0, 1, (.const (.str [87, 101, 105, 103, 104, 116, 115]))), (1, 1, (.tmp 12))], none, 4, (some ([], none))⟩,
    ⟨(some 14), .fieldAddr 8 (.tmp 1), none, 4, (some ([], none))⟩,
    ⟨(some 15), .load false 1 (.tmp 14), none, 4, (some ([], none))⟩,
    ⟨(some 16), .call (.func 125) [(false, (.const (.str [68, 101, 99, 97, 121]))), (false, (.tmp 15)), (false, (.const (.int .i64 (1)))), (false, (.const (.int .i64 (16))))] true 4, none, 4, (some ([0, 1, 2, 3], none))⟩,
    ⟨(some 17), .makeFunc 130 [(.tmp 1)], none, 8, (some ([], none))⟩,
    ⟨(some 18), .build [.str [], .nilfn] [(0, 1, (.const (.str [77, 111, 100, 101]))), (1, 1, (.tmp 17))], none, 8, (some ([], none))⟩,
    ⟨(some 19), .fieldAddr 10 (.tmp 1), none, 8, (some ([], none))⟩,
    ⟨(some 20), .load false 1 (.tmp 19), none, 8, (some ([], none))⟩,
    ⟨(some 21), .call (.func 125) [(false, (.const (.str [74, 111, 98, 115]))), (false, (.tmp 20)), (false, (.const (.int .i64 (1)))), (false, (.const (.int .i64 (256))))] true 4, none, 8, (some ([0, 1, 2, 3, 4, 5, 6, 7], none))⟩,
    ⟨(some 22), .fieldAddr 11 (.tmp 1), none, 12, (some ([], none))⟩,
    ⟨(some 23), .load false 1 (.tmp 22), none, 12, (some ([], none))⟩,
    ⟨(some 24), .call (.func 125) [(false, (.const (.str [73, 100, 115]))), (false, (.tmp 23)), (false, (.const (.int .i64 (1)))), (false, (.const (.int .i64 (1048576))))] true 4, none, 12, (some ([0, 1, 2, 3, 4, 5, 6, 7, 8, 9, 10, 11], none))⟩,
    ⟨(some 25), .fieldAddr 12 (.tmp 1), none, 16, (some ([], none))⟩,
    ⟨(some 26), .load false 1 (.tmp 25), none, 16, (some ([], none))⟩,
    ⟨(some 27), .call (.func 125) [(false, (.const (.str [86, 101, 114, 115, 105, 111, 110, 115]))), (false, (.tmp 26)), (false, (.const (.int .i64 (1)))), (false, (.const (.int .i64 (65536))))] true 4, none, 16, (some ([0, 1, 2, 3, 4, 5, 6, 7, 8, 9, 10, 11, 12, 13, 14, 15], none))⟩,
    ⟨(some 28), .fieldAddr 13 (.tmp 1), none, 20, (some ([], none))⟩,
    ⟨(some 29), .load false 1 (.tmp 28), none, 20, (some ([], none))⟩,
    ⟨(some 30), .call (.func 125) [(false, (.const (.str [76, 105, 110, 103, 101, 114]))), (false, (.tmp 29)), (false, (.const (.int .i64 (0)))), (false, (.const (.int .i64 (65536))))] true 4, none, 20, (some ([0, 1, 2, 3, 4, 5, 6, 7, 8, 9, 10, 11, 12, 13, 14, 15, 16, 17, 18, 19], none))⟩,
    ⟨(some 31), .fieldAddr 14 (.tmp 1), none, 24, (some ([], none))⟩,
    ⟨(some 32), .load false 1 (.tmp 31), none, 24, (some ([], none))⟩,
    ⟨(some 33), .call (.func 125) [(false, (.const (.str [75, 101, 101, 112]))), (false, (.tmp 32)), (false, (.const (.int .i64 (1)))), (false, (.const (.int .i64 (16))))] true 4, none, 24, (some ([0, 1, 2, 3, 4, 5, 6, 7, 8, 9, 10, 11, 12, 13, 14, 15, 16, 17, 18, 19, 20, 21, 22, 23], none))⟩,
    ⟨(some 34), .fieldAddr 15 (.tmp 1), none, 28, (some ([], none))⟩,
    ⟨(some 35), .load false 1 (.tmp 34), none, 28, (some ([], none))⟩,
    ⟨(some 36), .call (.func 125) [(false, (.const (.str [73, 110]))), (false, (.tmp 35)), (false, (.const (.int .i64 (1)))), (false, (.const (.int .i64 (8))))] true 4, none, 28, (some ([0, 1, 2, 3, 4, 5, 6, 7, 8, 9, 10, 11, 12, 13, 14, 15, 16, 17, 18, 19, 20, 21, 22, 23, 24, 25, 26, 27], none))⟩,
    ⟨(some 37), .fieldAddr 16 (.tmp 1), none, 32, (some ([], none))⟩,
    ⟨(some 38), .load false 1 (.tmp 37), none, 32, (some ([], none))⟩,
    ⟨(some 39), .call (.func 125) [(false, (.const (.str [79, 117, 116]))), (false, (.tmp 38)), (false, (.const (.int .i64 (1)))), (false, (.const (.int .i64 (16))))] true 4, none, 32, (some ([0, 1, 2, 3, 4, 5, 6, 7, 8, 9, 10, 11, 12, 13, 14, 15, 16, 17, 18, 19, 20, 21, 22, 23, 24, 25, 26, 27, 28, 29, 30, 31], none))⟩,
    ⟨(some 40), .fieldAddr 17 (.tmp 1), none, 36, (some ([], none))⟩,
    ⟨(some 41), .load false 1 (.tmp 40), none, 36, (some ([], none))⟩,
    ⟨(some 42), .call (.func 125) [(false, (.const (.str [67, 97, 99, 104, 101]))), (false, (.tmp 41)), (false, (.const (.int .i64 (0)))), (false, (.const (.int .i64 (16))))] false 4, none, 36, (some ([0, 1, 2, 3, 4, 5, 6, 7, 8, 9, 10, 11, 12, 13, 14, 15, 16, 17, 18, 19, 20, 21, 22, 23, 24, 25, 26, 27, 28, 29, 30, 31, 32, 33, 34, 35], none))⟩,
    ⟨(some 43), .buildSlice 2 15 true [.str [], .nilfn] [(0, (.tmp 4)), (1, (.tmp 6)), (2, (.tmp 9)), (3, (.tmp 11)), (4, (.tmp 13)), (5, (.tmp 16)), (6, (.tmp 18)), (7, (.tmp 21)), (8, (.tmp 24)), (9, (.tmp 27)), (10, (.tmp 30)), (11, (.tmp 33)), (12, (.tmp 36)), (13, (.tmp 39)), (14, (.tmp 42))], none, 40, (some ([0, 1, 2, 3, 4, 5, 6, 7, 8, 9, 10, 11, 12, 13, 14, 15, 16, 17, 18, 19, 20, 21, 22, 23, 24, 25, 26, 27, 28, 29, 30, 31, 32, 33, 34, 35, 36, 37, 38, 39], none))⟩,
    ⟨(some 2), .move (.tmp 43), none, 41, (some ([0, 1, 2, 3, 4, 5, 6, 7, 8, 9, 10, 11, 12, 13, 14, 15, 16, 17, 18, 19, 20, 21, 22, 23, 24, 25, 26, 27, 28, 29, 30, 31, 32, 33, 34, 35, 36, 37, 38, 39, 40], none))⟩] []) (.ret)), [.tmp 2], true⟩
def s108 : Sig := ⟨(.cons (.v .spec) .nil), [], ((.rows 2 (.cons (.cons (.v .str) (.cons (.fn 121 (.cons (.iptr (.cons (.v (.list .res)) (.cons (.v (.list (.list (.int .i64)))) (.cons (.v (.list .queue)) (.cons (.v (.int .i64)) (.cons (.v (.int .i64)) (.cons (.v (.int .i64)) (.cons (.v (.int .i64)) (.cons (.v (.int .i64)) (.cons (.v (.int .i64)) (.cons (.v (.int .i64)) (.cons (.v (.int .i64)) (.cons (.v (.int .i64)) (.cons (.v (.int .i64)) (.cons (.v (.int .i64)) (.cons (.v (.int .i64)) (.cons (.v (.int .i64)) (.cons (.v (.int .i64)) (.cons (.v (.int .i64)) .nil)))))))))))))))))) 0) .nil)) .nil)) (.cons (.cons (.v .str) (.cons (.fn 123 (.cons (.iptr (.cons (.v (.list .res)) (.cons (.v (.list (.list (.int .i64)))) (.cons (.v (.list .queue)) (.cons (.v (.int .i64)) (.cons (.v (.int .i64)) (.cons (.v (.int .i64)) (.cons (.v (.int .i64)) (.cons (.v (.int .i64)) (.cons (.v (.int .i64)) (.cons (.v (.int .i64)) (.cons (.v (.int .i64)) (.cons (.v (.int .i64)) (.cons (.v (.int .i64)) (.cons (.v (.int .i64)) (.cons (.v (.int .i64)) (.cons (.v (.int .i64)) (.cons (.v (.int .i64)) (.cons (.v (.int .i64)) .nil)))))))))))))))))) 0) .nil)) .nil)) (.cons (.cons (.v .str) (.cons (.fn 137 (.cons (.iptr (.cons (.v (.int .i64)) .nil) 0) (.cons (.iptr (.cons (.v (.int .i64)) .nil) 0) (.cons (.iptr (.cons (.v (.int .i64)) .nil) 0) .nil)))) .nil)) (.cons (.cons (.v .str) (.cons (.fn 126 (.cons (.iptr (.cons (.v (.list .res)) (.cons (.v (.list (.list (.int .i64)))) (.cons (.v (.list .queue)) (.cons (.v (.int .i64)) (.cons (.v (.int .i64)) (.cons (.v (.int .i64)) (.cons (.v (.int .i64)) (.cons (.v (.int .i64)) (.cons (.v (.int .i64)) (.cons (.v (.int .i64)) (.cons (.v (.int .i64)) (.cons (.v (.int .i64)) (.cons (.v (.int .i64)) (.cons (.v (.int .i64)) (.cons (.v (.int .i64)) (.cons (.v (.int .i64)) (.cons (.v (.int .i64)) (.cons (.v (.int .i64)) .nil)))))))))))))))))) 0) .nil)) .nil)) (.cons (.cons (.v .str) (.cons (.fn 128 (.cons (.iptr (.cons (.v (.list .res)) (.cons (.v (.list (.list (.int .i64)))) (.cons (.v (.list .queue)) (.cons (.v (.int .i64)) (.cons (.v (.int .i64)) (.cons (.v (.int .i64)) (.cons (.v (.int .i64)) (.cons (.v (.int .i64)) (.cons (.v (.int .i64)) (.cons (.v (.int .i64)) (.cons (.v (.int .i64)) (.cons (.v (.int .i64)) (.cons (.v (.int .i64)) (.cons (.v (.int .i64)) (.cons (.v (.int .i64)) (.cons (.v (.int .i64)) (.cons (.v (.int .i64)) (.cons (.v (.int .i64)) .nil)))))))))))))))))) 0) .nil)) .nil)) (.cons (.cons (.v .str) (.cons (.fn 137 (.cons (.iptr (.cons (.v (.int .i64)) .nil) 0) (.cons (.iptr (.cons (.v (.int .i64)) .nil) 0) (.cons (.iptr (.cons (.v (.int .i64)) .nil) 0) .nil)))) .nil)) (.cons (.cons (.v .str) (.cons (.fn 130 (.cons (.iptr (.cons (.v (.list .res)) (.cons (.v (.list (.list (.int .i64)))) (.cons (.v (.list .queue)) (.cons (.v (.int .i64)) (.cons (.v (.int .i64)) (.cons (.v (.int .i64)) (.cons (.v (.int .i64)) (.cons (.v (.int .i64)) (.cons (.v (.int .i64)) (.cons (.v (.int .i64)) (.cons (.v (.int .i64)) (.cons (.v (.int .i64)) (.cons (.v (.int .i64)) (.cons (.v (.int .i64)) (.cons (.v (.int .i64)) (.cons (.v (.int .i64)) (.cons (.v (.int .i64)) (.cons (.v (.int .i64)) .nil)))))))))))))))))) 0) .nil)) .nil)) (.cons (.cons (.v .str) (.cons (.fn 137 (.cons (.iptr (.cons (.v (.int .i64)) .nil) 0) (.cons (.iptr (.cons (.v (.int .i64)) .nil) 0) (.cons (.iptr (.cons (.v (.int .i64)) .nil) 0) .nil)))) .nil)) (.cons (.cons (.v .str) (.cons (.fn 137 (.cons (.iptr (.cons (.v (.int .i64)) .nil) 0) (.cons (.iptr (.cons (.v (.int .i64)) .nil) 0) (.cons (.iptr (.cons (.v (.int .i64)) .nil) 0) .nil)))) .nil)) (.cons (.cons (.v .str) (.cons (.fn 137 (.cons (.iptr (.cons (.v (.int .i64)) .nil) 0) (.cons (.iptr (.cons (.v (.int .i64)) .nil) 0) (.cons (.iptr (.cons (.v (.int .i64)) .nil) 0) .nil)))) .nil)) (.cons (.cons (.v .str) (.cons (.fn 137 (.cons (.iptr (.cons (.v (.int .i64)) .nil) 0) (.cons (.iptr (.cons (.v (.int .i64)) .nil) 0) (.cons (.iptr (.cons (.v (.int .i64)) .nil) 0) .nil)))) .nil)) (.cons (.cons (.v .str) (.cons (.fn 137 (.cons (.iptr (.cons (.v (.int .i64)) .nil) 0) (.cons (.iptr (.cons (.v (.int .i64)) .nil) 0) (.cons (.iptr (.cons (.v (.int .i64)) .nil) 0) .nil)))) .nil)) (.cons (.cons (.v .str) (.cons (.fn 137 (.cons (.iptr (.cons (.v (.int .i64)) .nil) 0) (.cons (.iptr (.cons (.v (.int .i64)) .nil) 0) (.cons (.iptr (.cons (.v (.int .i64)) .nil) 0) .nil)))) .nil)) (.cons (.cons (.v .str) (.cons (.fn 137 (.cons (.iptr (.cons (.v (.int .i64)) .nil) 0) (.cons (.iptr (.cons (.v (.int .i64)) .nil) 0) (.cons (.iptr (.cons (.v (.int .i64)) .nil) 0) .nil)))) .nil)) (.cons (.cons (.v .str) (.cons (.fn 137 (.cons (.iptr (.cons (.v (.int .i64)) .nil) 0) (.cons (.iptr (.cons (.v (.int .i64)) .nil) 0) (.cons (.iptr (.cons (.v (.int .i64)) .nil) 0) .nil)))) .nil)) .nil)))))))))))))))), []), []⟩
@[reducible] def y108 : Type := (((List UInt8) × ((((List Res) × ((List (List Int)) × ((List Queue) × (Int × (Int × (Int × (Int × (Int × (Int × (Int × (Int × (Int × (Int × (Int × (Int × (Int × (Int × (Int × Unit)))))))))))))))))) × Unit) × Unit)) × (((List UInt8) × ((((List Res) × ((List (List Int)) × ((List Queue) × (Int × (Int × (Int × (Int × (Int × (Int × (Int × (Int × (Int × (Int × (Int × (Int × (Int × (Int × (Int × Unit)))))))))))))))))) × Unit) × Unit)) × (((List UInt8) × (((Int × Unit) × ((Int × Unit) × ((Int × Unit) × Unit))) × Unit)) × (((List UInt8) × ((((List Res) × ((List (List Int)) × ((List Queue) × (Int × (Int × (Int × (Int × (Int × (Int × (Int × (Int × (Int × (Int × (Int × (Int × (Int × (Int × (Int × Unit)))))))))))))))))) × Unit) × Unit)) × (((List UInt8) × ((((List Res) × ((List (List Int)) × ((List Queue) × (Int × (Int × (Int × (Int × (Int × (Int × (Int × (Int × (Int × (Int × (Int × (Int × (Int × (Int × (Int × Unit)))))))))))))))))) × Unit) × Unit)) × (((List UInt8) × (((Int × Unit) × ((Int × Unit) × ((Int × Unit) × Unit))) × Unit)) × (((List UInt8) × ((((List Res) × ((List (List Int)) × ((List Queue) × (Int × (Int × (Int × (Int × (Int × (Int × (Int × (Int × (Int × (Int × (Int × (Int × (Int × (Int × (Int × Unit)))))))))))))))))) × Unit) × Unit)) × (((List UInt8) × (((Int × Unit) × ((Int × Unit) × ((Int × Unit) × Unit))) × Unit)) × (((List UInt8) × (((Int × Unit) × ((Int × Unit) × ((Int × Unit) × Unit))) × Unit)) × (((List UInt8) × (((Int × Unit) × ((Int × Unit) × ((Int × Unit) × Unit))) × Unit)) × (((List UInt8) × (((Int × Unit) × ((Int × Unit) × ((Int × Unit) × Unit))) × Unit)) × (((List UInt8) × (((Int × Unit) × ((Int × Unit) × ((Int × Unit) × Unit))) × Unit)) × (((List UInt8) × (((Int × Unit) × ((Int × Unit) × ((Int × Unit) × Unit))) × Unit)) × (((List UInt8) × (((Int × Unit) × ((Int × Unit) × ((Int × Unit) × Unit))) × Unit)) × (((List UInt8) × (((Int × Unit) × ((Int × Unit) × ((Int × Unit) × Unit))) × Unit)) × Unit)))))))))))))))
def F108 (L : Lp) (g125 : (List UInt8) → Int → Int → Int → Option ((List UInt8) × (((Int × Unit) × ((Int × Unit) × ((Int × Unit) × Unit))) × Unit))) (as0 : Spec) : Option y108 :=
  Option.bind (g125 ([85, 115, 101, 114, 115] : List UInt8) as0.users 1 8) fun r1 =>
  Option.bind (g125 ([68, 101, 99, 97, 121] : List UInt8) as0.decay 1 16) fun r2 =>
  Option.bind (g125 ([74, 111, 98, 115] : List UInt8) as0.jobs 1 256) fun r3 =>
  Option.bind (g125 ([73, 100, 115] : List UInt8) as0.ids 1 1048576) fun r4 =>
  Option.bind (g125 ([86, 101, 114, 115, 105, 111, 110, 115] : List UInt8) as0.versions 1 65536) fun r5 =>
  Option.bind (g125 ([76, 105, 110, 103, 101, 114] : List UInt8) as0.linger 0 65536) fun r6 =>
  Option.bind (g125 ([75, 101, 101, 112] : List UInt8) as0.keep 1 16) fun r7 =>
  Option.bind (g125 ([73, 110] : List UInt8) as0.inn 1 8) fun r8 =>
  Option.bind (g125 ([79, 117, 116] : List UInt8) as0.out 1 16) fun r9 =>
  Option.bind (g125 ([67, 97, 99, 104, 101] : List UInt8) as0.cache 0 16) fun r10 =>
  some ((([78, 111, 100, 101, 115] : List UInt8), ((as0.nodes, as0.parts, as0.queues, as0.users, as0.weights.age, as0.weights.size, as0.weights.qos, as0.weights.share, as0.decay, as0.mode, as0.jobs, as0.ids, as0.versions, as0.linger, as0.keep, as0.inn, as0.out, as0.cache, ()), ()), ()), ((([80, 97, 114, 116, 115] : List UInt8), ((as0.nodes, as0.parts, as0.queues, as0.users, as0.weights.age, as0.weights.size, as0.weights.qos, as0.weights.share, as0.decay, as0.mode, as0.jobs, as0.ids, as0.versions, as0.linger, as0.keep, as0.inn, as0.out, as0.cache, ()), ()), ()), ((r1.1, ((r1.2.1.1.1, ()), (r1.2.1.2.1.1, ()), (r1.2.1.2.2.1.1, ()), ()), ()), ((([81, 117, 101, 117, 101, 115] : List UInt8), ((as0.nodes, as0.parts, as0.queues, as0.users, as0.weights.age, as0.weights.size, as0.weights.qos, as0.weights.share, as0.decay, as0.mode, as0.jobs, as0.ids, as0.versions, as0.linger, as0.keep, as0.inn, as0.out, as0.cache, ()), ()), ()), ((([87, 101, 105, 103, 104, 116, 115] : List UInt8), ((as0.nodes, as0.parts, as0.queues, as0.users, as0.weights.age, as0.weights.size, as0.weights.qos, as0.weights.share, as0.decay, as0.mode, as0.jobs, as0.ids, as0.versions, as0.linger, as0.keep, as0.inn, as0.out, as0.cache, ()), ()), ()), ((r2.1, ((r2.2.1.1.1, ()), (r2.2.1.2.1.1, ()), (r2.2.1.2.2.1.1, ()), ()), ()), ((([77, 111, 100, 101] : List UInt8), ((as0.nodes, as0.parts, as0.queues, as0.users, as0.weights.age, as0.weights.size, as0.weights.qos, as0.weights.share, as0.decay, as0.mode, as0.jobs, as0.ids, as0.versions, as0.linger, as0.keep, as0.inn, as0.out, as0.cache, ()), ()), ()), ((r3.1, ((r3.2.1.1.1, ()), (r3.2.1.2.1.1, ()), (r3.2.1.2.2.1.1, ()), ()), ()), ((r4.1, ((r4.2.1.1.1, ()), (r4.2.1.2.1.1, ()), (r4.2.1.2.2.1.1, ()), ()), ()), ((r5.1, ((r5.2.1.1.1, ()), (r5.2.1.2.1.1, ()), (r5.2.1.2.2.1.1, ()), ()), ()), ((r6.1, ((r6.2.1.1.1, ()), (r6.2.1.2.1.1, ()), (r6.2.1.2.2.1.1, ()), ()), ()), ((r7.1, ((r7.2.1.1.1, ()), (r7.2.1.2.1.1, ()), (r7.2.1.2.2.1.1, ()), ()), ()), ((r8.1, ((r8.2.1.1.1, ()), (r8.2.1.2.1.1, ()), (r8.2.1.2.2.1.1, ()), ()), ()), ((r9.1, ((r9.2.1.1.1, ()), (r9.2.1.2.1.1, ()), (r9.2.1.2.2.1.1, ()), ()), ()), ((r10.1, ((r10.2.1.1.1, ()), (r10.2.1.2.1.1, ()), (r10.2.1.2.2.1.1, ()), ()), ()), ())))))))))))))))
theorem e108 (L : Lp) (g125 : (List UInt8) → Int → Int → Int → Option ((List UInt8) × (((Int × Unit) × ((Int × Unit) × ((Int × Unit) × Unit))) × Unit))) (x : s108.args.den) (h : denH s108.heap) : nrun [⟨125, s125, fun x h => g125 x.1 x.2.1 x.2.2.1 x.2.2.2.1⟩] L n108 s108 x h = F108 L g125 x.1 := by kernel_rfl
def f108 : Spec → Option y108 := F108 (@LN LOOPS) f125
@[reducible] def t108 : Ent := ⟨108, s108, fun x h => f108 x.1⟩
theorem k108 : chkNF Tryd.prog Tryd.f108 n108 = true := by kernel_rfl
theorem ok108 : NOk Tryd.prog t108 := NOk.body (T := [t125]) mixed (nall_cons ok125 nall_nil) (oneEach_of (by kernel_rfl)) Tryd.func108 k108 (by kernel_rfl) (fun x h => e108 _ _ x h)
/- drayage/vec.numbers -/
def n80 : NFunc := ⟨12, .seq (.region 2 [
    ⟨(some 1), .box 4 (.tmp 0), none, 0, none⟩,
    ⟨(some 2), .alloc [.int .i64 (0), .int .i64 (0), .int .i64 (0), .int .i64 (0)], none, 1, none⟩] []) (.seq (.region 0 [
    ⟨(some 3), .fieldAddr 0 (.tmp 1), none, 0, none⟩,
    ⟨(some 4), .load false 1 (.tmp 3), none, 0, none⟩,
    ⟨(some 5), .fieldAddr 1 (.tmp 1), none, 0, none⟩,
    ⟨(some 6), .load false 1 (.tmp 5), none, 0, none⟩,
    ⟨(some 7), .fieldAddr 2 (.tmp 1), none, 0, none⟩,
    ⟨(some 8), .load false 1 (.tmp 7), none, 0, none⟩,
    ⟨(some 9), .fieldAddr 3 (.tmp 1), none, 0, none⟩,
    ⟨(some 10), .load false 1 (.tmp 9), none, 0, none⟩,
    ⟨(some 11), .build [.int .i64 (0), .int .i64 (0), .int .i64 (0), .int .i64 (0)] [(0, 1, (.tmp 4)), (1, 1, (.tmp 6)), (2, 1, (.tmp 8)), (3, 1, (.tmp 10))], none, 0, none⟩,
    ⟨none, .store 4 (.tmp 2) (.tmp 11), none, 0, none⟩] []) (.ret)), [.cell true 4 2], true⟩
def s80 : Sig := ⟨(.cons (.v .res) .nil), [], ((.v (.pair (.int .i64) (.pair (.int .i64) (.pair (.int .i64) (.int .i64))))), []), []⟩
def F80 (L : Lp)  (a0 : Res) : Option (Int × (Int × (Int × Int))) :=
  some (a0.cpu, (a0.mem, (a0.gpu, a0.lic)))
theorem e80 (L : Lp)  (x : s80.args.den) (h : denH s80.heap) : nrun [] L n80 s80 x h = F80 L  x.1 := by kernel_rfl
def f80 : Res → Option (Int × (Int × (Int × Int))) := F80 (@LN LOOPS) 
@[reducible] def t80 : Ent := ⟨80, s80, fun x h => f80 x.1⟩
theorem k80 : chkNF Tryd.prog Tryd.f80 n80 = true := by kernel_rfl
theorem ok80 : NOk Tryd.prog t80 := NOk.body (T := []) mixed nall_nil (oneEach_of (by kernel_rfl)) Tryd.func80 k80 (by kernel_rfl) (fun x h => e80 _  x h)
/- drayage/vec.Right -/
def n59 : NFunc := ⟨17, .seq (.region 1 [
    ⟨(some 1), .box 4 (.tmp 0), none, 0, none⟩,
    ⟨(some 2), .move (.const (.bool false)), none, 1, none⟩] []) (.seq (.seq (.region 4 [
    ⟨(some 5), .load true 4 (.tmp 1), none, 0, none⟩,
    ⟨(some 6), .call (.func 80) [(false, (.tmp 5))] false 4, none, 0, none⟩,
    ⟨(some 7), .move (.const (.int .i64 (0))), none, 4, none⟩] []) (.block 0 (.loopU [6, 7] 5 (.seq (.region 0 [
    ⟨(some 8), .bin .lss (.tmp 7) (.const (.int .i64 (4))), none, 0, none⟩] []) (.seq (.cond (.tmp 8) (.skip) (.exit 0)) (.seq (.block 1 (.seq (.region 0 [
    ⟨(some 9), .indexVal false 4 1 (.tmp 6) (.tmp 7), none, 0, none⟩,
    ⟨(some 4), .move (.tmp 9), none, 0, none⟩] []) (.seq (.region 0 [
    ⟨(some 10), .move (.tmp 4), none, 0, none⟩,
    ⟨(some 11), .bin .lss (.tmp 10) (.const (.int .i64 (0))), none, 0, none⟩,
    ⟨(some 12), .move (.tmp 11), none, 0, none⟩,
    ⟨(some 13), .move (.tmp 4), (some (12, false)), 0, none⟩,
    ⟨(some 14), .bin .gtr (.tmp 13) (.const (.int .i64 (1048576))), (some (12, false)), 0, none⟩,
    ⟨(some 15), .pick (.tmp 12) (.const (.bool true)) (.tmp 14), none, 0, none⟩] []) (.cond (.tmp 15) (.seq (.region 0 [
    ⟨(some 2), .move (.const (.bool false)), none, 0, none⟩] []) (.ret)) (.skip))))) (.region 0 [
    ⟨(some 16), .bin .add (.tmp 7) (.const (.int .i64 (1))), none, 0, none⟩,
    ⟨(some 7), .move (.tmp 16), none, 0, none⟩] []))))))) (.seq (.region 0 [
    ⟨(some 2), .move (.const (.bool true)), none, 0, none⟩] []) (.ret))), [.tmp 2], true⟩
def s59 : Sig := ⟨(.cons (.v .res) .nil), [], ((.v .bool), []), []⟩
def F59 (L : Lp) (g80 : Res → Option (Int × (Int × (Int × Int)))) (a0 : Res) : Option Bool :=
  Option.bind (g80 a0) fun r1 =>
  cond (decide (r1.1 < 0))
  (some false)
  (cond (decide (1048576 < r1.1))
  (some false)
  (cond (decide (r1.2.1 < 0))
  (some false)
  (cond (decide (1048576 < r1.2.1))
  (some false)
  (cond (decide (r1.2.2.1 < 0))
  (some false)
  (cond (decide (1048576 < r1.2.2.1))
  (some false)
  (cond (decide (r1.2.2.2 < 0))
  (some false)
  (cond (decide (1048576 < r1.2.2.2))
  (some false)
  (some true))))))))
theorem e59 (L : Lp) (g80 : Res → Option (Int × (Int × (Int × Int)))) (x : s59.args.den) (h : denH s59.heap) : nrun [⟨80, s80, fun x h => g80 x.1⟩] L n59 s59 x h = F59 L g80 x.1 := by kernel_rfl
def f59 : Res → Option Bool := F59 (@LN LOOPS) f80
@[reducible] def t59 : Ent := ⟨59, s59, fun x h => f59 x.1⟩
theorem k59 : chkNF Tryd.prog Tryd.f59 n59 = true := by kernel_rfl
theorem ok59 : NOk Tryd.prog t59 := NOk.body (T := [t80]) mixed (nall_cons ok80 nall_nil) (oneEach_of (by kernel_rfl)) Tryd.func59 k59 (by kernel_rfl) (fun x h => e59 _ _ x h)
/- drayage/spec.nodesRight -/
def n122 : NFunc := ⟨26, .seq (.region 1 [
    ⟨(some 1), .box 18 (.tmp 0), none, 0, none⟩,
    ⟨(some 2), .move (.const (.bool false)), none, 1, none⟩] []) (.seq (.seq (.region 0 [
    ⟨(some 5), .fieldAddr 0 (.tmp 1), none, 0, none⟩,
    ⟨(some 6), .load false 1 (.tmp 5), none, 0, none⟩,
    ⟨(some 7), .len (.tmp 6), none, 0, none⟩,
    ⟨(some 8), .bin .lss (.tmp 7) (.const (.int .i64 (1))), none, 0, none⟩,
    ⟨(some 9), .move (.tmp 8), none, 0, none⟩,
    ⟨(some 10), .fieldAddr 0 (.tmp 1), (some (9, false)), 0, none⟩,
    ⟨(some 11), .load false 1 (.tmp 10), (some (9, false)), 0, none⟩,
    ⟨(some 12), .len (.tmp 11), (some (9, false)), 0, none⟩,
    ⟨(some 13), .bin .gtr (.tmp 12) (.const (.int .i64 (16))), (some (9, false)), 0, none⟩,
    ⟨(some 14), .pick (.tmp 9) (.const (.bool true)) (.tmp 13), none, 0, none⟩] []) (.cond (.tmp 14) (.seq (.region 0 [
    ⟨(some 2), .move (.const (.bool false)), none, 0, none⟩] []) (.ret)) (.skip))) (.seq (.seq (.region 0 [
    ⟨(some 15), .fieldAddr 0 (.tmp 1), none, 0, none⟩,
    ⟨(some 16), .load false 1 (.tmp 15), none, 0, none⟩,
    ⟨(some 17), .len (.tmp 16), none, 0, none⟩,
    ⟨(some 18), .move (.const (.int .i64 (0))), none, 0, none⟩] []) (.block 0 (.loop [16, 17, 18] ⟨[(18, (.v (.int .i64)))], [16, 17], []⟩ (.seq (.region 0 [
    ⟨(some 19), .bin .lss (.tmp 18) (.tmp 17), none, 0, none⟩] []) (.seq (.cond (.tmp 19) (.skip) (.exit 0)) (.seq (.block 1 (.seq (.region 1 [
    ⟨(some 20), .indexSl 4 (.tmp 16) (.tmp 18), none, 0, none⟩,
    ⟨(some 21), .load true 4 (.tmp 20), none, 0, none⟩,
    ⟨(some 4), .alloc [.int .i64 (0), .int .i64 (0), .int .i64 (0), .int .i64 (0)], none, 0, none⟩,
    ⟨none, .store 4 (.tmp 4) (.tmp 21), none, 1, none⟩] []) (.seq (.region 4 [
    ⟨(some 22), .load true 4 (.tmp 4), none, 0, none⟩,
    ⟨(some 23), .call (.func 59) [(false, (.tmp 22))] false 4, none, 0, none⟩,
    ⟨(some 24), .un .not (.tmp 23), none, 4, none⟩] []) (.cond (.tmp 24) (.seq (.region 0 [
    ⟨(some 2), .move (.const (.bool false)), none, 0, none⟩] []) (.ret)) (.skip))))) (.region 0 [
    ⟨(some 25), .bin .add (.tmp 18) (.const (.int .i64 (1))), none, 0, none⟩,
    ⟨(some 18), .move (.tmp 25), none, 0, none⟩] []))))))) (.seq (.region 0 [
    ⟨(some 2), .move (.const (.bool true)), none, 0, none⟩] []) (.ret)))), [.tmp 2], true⟩
def s122 : Sig := ⟨(.cons (.v .spec) .nil), [], ((.v .bool), []), []⟩
def l122_0 (g59 : Res → Option Bool) (as0 : Spec) (nx2 : ((Int × Unit) × Unit) → Option Bool) (z3 : Int) : Option Bool :=
  cond (decide (z3 < (List.length as0.nodes : Int)))
  (cond (decide (0 ≤ z3))
  (Option.bind (as0.nodes[Int.toNat z3]?) fun y4 =>
  Option.bind (g59 y4) fun r5 =>
  cond (!r5)
  (some false)
  (nx2 ((IntKind.wrap .i64 (z3 + 1), ()), ())))
  (none))
  (some true)
def F122 (L : Lp) (g59 : Res → Option Bool) (as0 : Spec) : Option Bool :=
  cond (decide ((List.length as0.nodes : Int) < 1))
  (some false)
  (cond (decide (16 < (List.length as0.nodes : Int)))
  (some false)
  (L (fun (s1 : ((Int × Unit) × Unit)) nx2 => l122_0 g59 as0 nx2 s1.1.1) ((0, ()), ())))
theorem e122 (L : Lp) (g59 : Res → Option Bool) (x : s122.args.den) (h : denH s122.heap) : nrun [⟨59, s59, fun x h => g59 x.1⟩] L n122 s122 x h = F122 L g59 x.1 := by kernel_rfl
def f122 : Spec → Option Bool := F122 (@LN LOOPS) f59
@[reducible] def t122 : Ent := ⟨122, s122, fun x h => f122 x.1⟩
theorem k122 : chkNF Tryd.prog Tryd.f122 n122 = true := by kernel_rfl
theorem ok122 : NOk Tryd.prog t122 := NOk.body (T := [t59]) mixed (nall_cons ok59 nall_nil) (oneEach_of (by kernel_rfl)) Tryd.func122 k122 (by kernel_rfl) (fun x h => e122 _ _ x h)
/- drayage/spec.rules$1 -/
def n121 : NFunc := ⟨4, .seq (.region 0 [
    ⟨(some 1), .move (.const (.bool false)), none, 0, none⟩] []) (.seq (.region 4 [
    ⟨(some 2), .load true 18 (.tmp 0), none, 0, none⟩,
    ⟨(some 3), .call (.func 122) [(false, (.tmp 2))] false 4, none, 0, none⟩,
    ⟨(some 1), .move (.tmp 3), none, 4, none⟩] []) (.ret)), [.tmp 1], true⟩
def s121 : Sig := ⟨(.cons (.iptr (.cons (.v (.list .res)) (.cons (.v (.list (.list (.int .i64)))) (.cons (.v (.list .queue)) (.cons (.v (.int .i64)) (.cons (.v (.int .i64)) (.cons (.v (.int .i64)) (.cons (.v (.int .i64)) (.cons (.v (.int .i64)) (.cons (.v (.int .i64)) (.cons (.v (.int .i64)) (.cons (.v (.int .i64)) (.cons (.v (.int .i64)) (.cons (.v (.int .i64)) (.cons (.v (.int .i64)) (.cons (.v (.int .i64)) (.cons (.v (.int .i64)) (.cons (.v (.int .i64)) (.cons (.v (.int .i64)) .nil)))))))))))))))))) 0) .nil), [], ((.v .bool), []), []⟩
def F121 (L : Lp) (g122 : Spec → Option Bool) (a0 : (List Res)) (a1 : (List (List Int))) (a2 : (List Queue)) (a3 : Int) (a4 : Int) (a5 : Int) (a6 : Int) (a7 : Int) (a8 : Int) (a9 : Int) (a10 : Int) (a11 : Int) (a12 : Int) (a13 : Int) (a14 : Int) (a15 : Int) (a16 : Int) (a17 : Int) : Option Bool :=
  Option.bind (g122 (Spec.mk a0 a1 a2 a3 (Weights.mk a4 a5 a6 a7) a8 a9 a10 a11 a12 a13 a14 a15 a16 a17)) fun r18 =>
  some r18
theorem e121 (L : Lp) (g122 : Spec → Option Bool) (x : s121.args.den) (h : denH s121.heap) : nrun [⟨122, s122, fun x h => g122 x.1⟩] L n121 s121 x h = F121 L g122 x.1.1 x.1.2.1 x.1.2.2.1 x.1.2.2.2.1 x.1.2.2.2.2.1 x.1.2.2.2.2.2.1 x.1.2.2.2.2.2.2.1 x.1.2.2.2.2.2.2.2.1 x.1.2.2.2.2.2.2.2.2.1 x.1.2.2.2.2.2.2.2.2.2.1 x.1.2.2.2.2.2.2.2.2.2.2.1 x.1.2.2.2.2.2.2.2.2.2.2.2.1 x.1.2.2.2.2.2.2.2.2.2.2.2.2.1 x.1.2.2.2.2.2.2.2.2.2.2.2.2.2.1 x.1.2.2.2.2.2.2.2.2.2.2.2.2.2.2.1 x.1.2.2.2.2.2.2.2.2.2.2.2.2.2.2.2.1 x.1.2.2.2.2.2.2.2.2.2.2.2.2.2.2.2.2.1 x.1.2.2.2.2.2.2.2.2.2.2.2.2.2.2.2.2.2.1 := by kernel_rfl
def f121 : (List Res) → (List (List Int)) → (List Queue) → Int → Int → Int → Int → Int → Int → Int → Int → Int → Int → Int → Int → Int → Int → Int → Option Bool := F121 (@LN LOOPS) f122
@[reducible] def t121 : Ent := ⟨121, s121, fun x h => f121 x.1.1 x.1.2.1 x.1.2.2.1 x.1.2.2.2.1 x.1.2.2.2.2.1 x.1.2.2.2.2.2.1 x.1.2.2.2.2.2.2.1 x.1.2.2.2.2.2.2.2.1 x.1.2.2.2.2.2.2.2.2.1 x.1.2.2.2.2.2.2.2.2.2.1 x.1.2.2.2.2.2.2.2.2.2.2.1 x.1.2.2.2.2.2.2.2.2.2.2.2.1 x.1.2.2.2.2.2.2.2.2.2.2.2.2.1 x.1.2.2.2.2.2.2.2.2.2.2.2.2.2.1 x.1.2.2.2.2.2.2.2.2.2.2.2.2.2.2.1 x.1.2.2.2.2.2.2.2.2.2.2.2.2.2.2.2.1 x.1.2.2.2.2.2.2.2.2.2.2.2.2.2.2.2.2.1 x.1.2.2.2.2.2.2.2.2.2.2.2.2.2.2.2.2.2.1⟩
theorem k121 : chkNF Tryd.prog Tryd.f121 n121 = true := by kernel_rfl
theorem ok121 : NOk Tryd.prog t121 := NOk.body (T := [t122]) mixed (nall_cons ok122 nall_nil) (oneEach_of (by kernel_rfl)) Tryd.func121 k121 (by kernel_rfl) (fun x h => e121 _ _ x h)
/- drayage/spec.ascending -/
def n136 : NFunc := ⟨24, .seq (.region 0 [
    ⟨(some 4), .move (.const (.bool false)), none, 0, none⟩] []) (.seq (.region 0 [
    ⟨(some 5), .move (.const (.int .i64 (-1))), none, 0, none⟩] []) (.seq (.seq (.region 0 [
    ⟨(some 8), .move (.tmp 0), none, 0, none⟩,
    ⟨(some 9), .len (.tmp 8), none, 0, none⟩,
    ⟨(some 10), .move (.const (.int .i64 (0))), none, 0, none⟩] []) (.block 0 (.loop [1, 5, 8, 9, 10] ⟨[(5, (.v (.int .i64))), (10, (.v (.int .i64)))], [1, 8, 9], []⟩ (.seq (.region 0 [
    ⟨(some 11), .bin .lss (.tmp 10) (.tmp 9), none, 0, none⟩] []) (.seq (.cond (.tmp 11) (.skip) (.exit 0)) (.seq (.block 1 (.seq (.region 0 [
    ⟨(some 12), .indexSl 1 (.tmp 8) (.tmp 10), none, 0, none⟩,
    ⟨(some 13), .load false 1 (.tmp 12), none, 0, none⟩,
    ⟨(some 7), .move (.tmp 13), none, 0, none⟩] []) (.seq (.seq (.region 0 [
    ⟨(some 14), .move (.tmp 7), none, 0, none⟩,
    ⟨(some 15), .move (.tmp 5), none, 0, none⟩,
    ⟨(some 16), .bin .leq (.tmp 14) (.tmp 15), none, 0, none⟩,
    ⟨(some 17), .move (.tmp 16), none, 0, none⟩,
    ⟨(some 18), .move (.tmp 7), (some (17, false)), 0, none⟩,
    ⟨(some 19), .move (.tmp 1), (some (17, false)), 0, none⟩,
    ⟨(some 20), .bin .geq (.tmp 18) (.tmp 19), (some (17, false)), 0, none⟩,
    ⟨(some 21), .pick (.tmp 17) (.const (.bool true)) (.tmp 20), none, 0, none⟩] []) (.cond (.tmp 21) (.seq (.region 0 [
    ⟨(some 4), .move (.const (.bool false)), none, 0, none⟩] []) (.ret)) (.skip))) (.region 0 [
    ⟨(some 22), .move (.tmp 7), none, 0, none⟩,
    ⟨(some 5), .move (.tmp 22), none, 0, none⟩] [])))) (.region 0 [
    ⟨(some 23), .bin .add (.tmp 10) (.const (.int .i64 (1))), none, 0, none⟩,
    ⟨(some 10), .move (.tmp 23), none, 0, none⟩] []))))))) (.seq (.region 0 [
    ⟨(some 4), .move (.const (.bool true)), none, 0, none⟩] []) (.ret)))), [.tmp 4], true⟩
def s136 : Sig := ⟨(.cons (.v (.list (.int .i64))) (.cons (.v (.int .i64)) .nil)), [], ((.v .bool), []), []⟩
def l136_0 (al0 : (List Int)) (end1 : Int) (nx3 : ((Int × (Int × Unit)) × Unit) → Option Bool) (last4 : Int) (z5 : Int) : Option Bool :=
  cond (decide (z5 < (List.length al0 : Int)))
  (cond (decide (0 ≤ z5))
  (Option.bind (al0[Int.toNat z5]?) fun y6 =>
  cond (decide (y6 ≤ last4))
  (some false)
  (cond (decide (end1 ≤ y6))
  (some false)
  (nx3 ((y6, IntKind.wrap .i64 (z5 + 1), ()), ()))))
  (none))
  (some true)
def F136 (L : Lp)  (al0 : (List Int)) (end1 : Int) : Option Bool :=
  L (fun (s2 : ((Int × (Int × Unit)) × Unit)) nx3 => l136_0 al0 end1 nx3 s2.1.1 s2.1.2.1) (((-1), 0, ()), ())
theorem e136 (L : Lp)  (x : s136.args.den) (h : denH s136.heap) : nrun [] L n136 s136 x h = F136 L  x.1 x.2.1 := by kernel_rfl
def f136 : (List Int) → Int → Option Bool := F136 (@LN LOOPS) 
@[reducible] def t136 : Ent := ⟨136, s136, fun x h => f136 x.1 x.2.1⟩
theorem k136 : chkNF Tryd.prog Tryd.f136 n136 = true := by kernel_rfl
theorem ok136 : NOk Tryd.prog t136 := NOk.body (T := []) mixed nall_nil (oneEach_of (by kernel_rfl)) Tryd.func136 k136 (by kernel_rfl) (fun x h => e136 _  x h)
/- drayage/spec.partsRight -/
def n124 : NFunc := ⟨34, .seq (.region 1 [
    ⟨(some 1), .box 18 (.tmp 0), none, 0, none⟩,
    ⟨(some 2), .move (.const (.bool false)), none, 1, none⟩] []) (.seq (.seq (.region 0 [
    ⟨(some 5), .fieldAddr 1 (.tmp 1), none, 0, none⟩,
    ⟨(some 6), .load false 1 (.tmp 5), none, 0, none⟩,
    ⟨(some 7), .len (.tmp 6), none, 0, none⟩,
    ⟨(some 8), .bin .lss (.tmp 7) (.const (.int .i64 (1))), none, 0, none⟩,
    ⟨(some 9), .move (.tmp 8), none, 0, none⟩,
    ⟨(some 10), .fieldAddr 1 (.tmp 1), (some (9, false)), 0, none⟩,
    ⟨(some 11), .load false 1 (.tmp 10), (some (9, false)), 0, none⟩,
    ⟨(some 12), .len (.tmp 11), (some (9, false)), 0, none⟩,
    ⟨(some 13), .bin .gtr (.tmp 12) (.const (.int .i64 (8))), (some (9, false)), 0, none⟩,
    ⟨(some 14), .pick (.tmp 9) (.const (.bool true)) (.tmp 13), none, 0, none⟩] []) (.cond (.tmp 14) (.seq (.region 0 [
    ⟨(some 2), .move (.const (.bool false)), none, 0, none⟩] []) (.ret)) (.skip))) (.seq (.seq (.region 0 [
    ⟨(some 15), .fieldAddr 1 (.tmp 1), none, 0, none⟩,
    ⟨(some 16), .load false 1 (.tmp 15), none, 0, none⟩,
    ⟨(some 17), .len (.tmp 16), none, 0, none⟩,
    ⟨(some 18), .move (.const (.int .i64 (0))), none, 0, none⟩] []) (.block 0 (.loop [1, 16, 17, 18] ⟨[(1, (.ptr 0 0 0)), (18, (.v (.int .i64)))], [16, 17], [.one false .spec]⟩ (.seq (.region 0 [
    ⟨(some 19), .bin .lss (.tmp 18) (.tmp 17), none, 0, none⟩] []) (.seq (.cond (.tmp 19) (.skip) (.exit 0)) (.seq (.block 1 (.seq (.region 0 [
    ⟨(some 20), .indexSl 1 (.tmp 16) (.tmp 18), none, 0, none⟩,
    ⟨(some 21), .load false 1 (.tmp 20), none, 0, none⟩,
    ⟨(some 4), .move (.tmp 21), none, 0, none⟩] []) (.seq (.region 4 [
    ⟨(some 22), .move (.tmp 4), none, 0, none⟩,
    ⟨(some 23), .len (.tmp 22), none, 0, none⟩,
    ⟨(some 24), .bin .lss (.tmp 23) (.const (.int .i64 (1))), none, 0, none⟩,
    ⟨(some 25), .move (.tmp 24), none, 0, none⟩,
    ⟨(some 26), .move (.tmp 4), (some (25, false)), 0, none⟩,
    ⟨(some 27), .fieldAddr 0 (.tmp 1), (some (25, false)), 0, none⟩,
    ⟨(some 28), .load false 1 (.tmp 27), (some (25, false)), 0, none⟩,
    ⟨(some 29), .len (.tmp 28), (some (25, false)), 0, none⟩,
    ⟨(some 30), .call (.func 136) [(false, (.tmp 26)), (false, (.tmp 29))] false 4, (some (25, false)), 0, none⟩,
    ⟨(some 31), .un .not (.tmp 30), (some (25, false)), 4, none⟩,
    ⟨(some 32), .pick (.tmp 25) (.const (.bool true)) (.tmp 31), none, 4, none⟩] []) (.cond (.tmp 32) (.seq (.region 0 [
    ⟨(some 2), .move (.const (.bool false)), none, 0, none⟩] []) (.ret)) (.skip))))) (.region 0 [
    ⟨(some 33), .bin .add (.tmp 18) (.const (.int .i64 (1))), none, 0, none⟩,
    ⟨(some 18), .move (.tmp 33), none, 0, none⟩] []))))))) (.seq (.region 0 [
    ⟨(some 2), .move (.const (.bool true)), none, 0, none⟩] []) (.ret)))), [.tmp 2], true⟩
def s124 : Sig := ⟨(.cons (.v .spec) .nil), [], ((.v .bool), []), []⟩
def l124_0 (g136 : (List Int) → Int → Option Bool) (as0 : Spec) (nx2 : ((Unit × (Int × Unit)) × (Spec × Unit)) → Option Bool) (z3 : Int) (z4 : Spec) : Option Bool :=
  cond (decide (z3 < (List.length as0.parts : Int)))
  (cond (decide (0 ≤ z3))
  (Option.bind (as0.parts[Int.toNat z3]?) fun y5 =>
  cond (decide ((List.length y5 : Int) < 1))
  (some false)
  (Option.bind (g136 y5 (List.length z4.nodes : Int)) fun r6 =>
  cond (!r6)
  (some false)
  (nx2 (((), IntKind.wrap .i64 (z3 + 1), ()), (z4, ())))))
  (none))
  (some true)
def F124 (L : Lp) (g136 : (List Int) → Int → Option Bool) (as0 : Spec) : Option Bool :=
  cond (decide ((List.length as0.parts : Int) < 1))
  (some false)
  (cond (decide (8 < (List.length as0.parts : Int)))
  (some false)
  (L (fun (s1 : ((Unit × (Int × Unit)) × (Spec × Unit))) nx2 => l124_0 g136 as0 nx2 s1.1.2.1 s1.2.1) (((), 0, ()), (as0, ()))))
theorem e124 (L : Lp) (g136 : (List Int) → Int → Option Bool) (x : s124.args.den) (h : denH s124.heap) : nrun [⟨136, s136, fun x h => g136 x.1 x.2.1⟩] L n124 s124 x h = F124 L g136 x.1 := by kernel_rfl
def f124 : Spec → Option Bool := F124 (@LN LOOPS) f136
@[reducible] def t124 : Ent := ⟨124, s124, fun x h => f124 x.1⟩
theorem k124 : chkNF Tryd.prog Tryd.f124 n124 = true := by kernel_rfl
theorem ok124 : NOk Tryd.prog t124 := NOk.body (T := [t136]) mixed (nall_cons ok136 nall_nil) (oneEach_of (by kernel_rfl)) Tryd.func124 k124 (by kernel_rfl) (fun x h => e124 _ _ x h)
/- drayage/spec.rules$2 -/
def n123 : NFunc := ⟨4, .seq (.region 0 [
    ⟨(some 1), .move (.const (.bool false)), none, 0, none⟩] []) (.seq (.region 4 [
    ⟨(some 2), .load true 18 (.tmp 0), none, 0, none⟩,
    ⟨(some 3), .call (.func 124) [(false, (.tmp 2))] false 4, none, 0, none⟩,
    ⟨(some 1), .move (.tmp 3), none, 4, none⟩] []) (.ret)), [.tmp 1], true⟩
def s123 : Sig := ⟨(.cons (.iptr (.cons (.v (.list .res)) (.cons (.v (.list (.list (.int .i64)))) (.cons (.v (.list .queue)) (.cons (.v (.int .i64)) (.cons (.v (.int .i64)) (.cons (.v (.int .i64)) (.cons (.v (.int .i64)) (.cons (.v (.int .i64)) (.cons (.v (.int .i64)) (.cons (.v (.int .i64)) (.cons (.v (.int .i64)) (.cons (.v (.int .i64)) (.cons (.v (.int .i64)) (.cons (.v (.int .i64)) (.cons (.v (.int .i64)) (.cons (.v (.int .i64)) (.cons (.v (.int .i64)) (.cons (.v (.int .i64)) .nil)))))))))))))))))) 0) .nil), [], ((.v .bool), []), []⟩
def F123 (L : Lp) (g124 : Spec → Option Bool) (a0 : (List Res)) (a1 : (List (List Int))) (a2 : (List Queue)) (a3 : Int) (a4 : Int) (a5 : Int) (a6 : Int) (a7 : Int) (a8 : Int) (a9 : Int) (a10 : Int) (a11 : Int) (a12 : Int) (a13 : Int) (a14 : Int) (a15 : Int) (a16 : Int) (a17 : Int) : Option Bool :=
  Option.bind (g124 (Spec.mk a0 a1 a2 a3 (Weights.mk a4 a5 a6 a7) a8 a9 a10 a11 a12 a13 a14 a15 a16 a17)) fun r18 =>
  some r18
theorem e123 (L : Lp) (g124 : Spec → Option Bool) (x : s123.args.den) (h : denH s123.heap) : nrun [⟨124, s124, fun x h => g124 x.1⟩] L n123 s123 x h = F123 L g124 x.1.1 x.1.2.1 x.1.2.2.1 x.1.2.2.2.1 x.1.2.2.2.2.1 x.1.2.2.2.2.2.1 x.1.2.2.2.2.2.2.1 x.1.2.2.2.2.2.2.2.1 x.1.2.2.2.2.2.2.2.2.1 x.1.2.2.2.2.2.2.2.2.2.1 x.1.2.2.2.2.2.2.2.2.2.2.1 x.1.2.2.2.2.2.2.2.2.2.2.2.1 x.1.2.2.2.2.2.2.2.2.2.2.2.2.1 x.1.2.2.2.2.2.2.2.2.2.2.2.2.2.1 x.1.2.2.2.2.2.2.2.2.2.2.2.2.2.2.1 x.1.2.2.2.2.2.2.2.2.2.2.2.2.2.2.2.1 x.1.2.2.2.2.2.2.2.2.2.2.2.2.2.2.2.2.1 x.1.2.2.2.2.2.2.2.2.2.2.2.2.2.2.2.2.2.1 := by kernel_rfl
def f123 : (List Res) → (List (List Int)) → (List Queue) → Int → Int → Int → Int → Int → Int → Int → Int → Int → Int → Int → Int → Int → Int → Int → Option Bool := F123 (@LN LOOPS) f124
@[reducible] def t123 : Ent := ⟨123, s123, fun x h => f123 x.1.1 x.1.2.1 x.1.2.2.1 x.1.2.2.2.1 x.1.2.2.2.2.1 x.1.2.2.2.2.2.1 x.1.2.2.2.2.2.2.1 x.1.2.2.2.2.2.2.2.1 x.1.2.2.2.2.2.2.2.2.1 x.1.2.2.2.2.2.2.2.2.2.1 x.1.2.2.2.2.2.2.2.2.2.2.1 x.1.2.2.2.2.2.2.2.2.2.2.2.1 x.1.2.2.2.2.2.2.2.2.2.2.2.2.1 x.1.2.2.2.2.2.2.2.2.2.2.2.2.2.1 x.1.2.2.2.2.2.2.2.2.2.2.2.2.2.2.1 x.1.2.2.2.2.2.2.2.2.2.2.2.2.2.2.2.1 x.1.2.2.2.2.2.2.2.2.2.2.2.2.2.2.2.2.1 x.1.2.2.2.2.2.2.2.2.2.2.2.2.2.2.2.2.2.1⟩
theorem k123 : chkNF Tryd.prog Tryd.f123 n123 = true := by kernel_rfl
theorem ok123 : NOk Tryd.prog t123 := NOk.body (T := [t124]) mixed (nall_cons ok124 nall_nil) (oneEach_of (by kernel_rfl)) Tryd.func123 k123 (by kernel_rfl) (fun x h => e123 _ _ x h)
/- drayage/spec.within$1 -/
def n137 : NFunc := ⟨12, .seq (.region 0 [
    ⟨(some 3), .move (.const (.bool false)), none, 0, none⟩] []) (.seq (.region 0 [
    ⟨(some 4), .load false 1 (.tmp 0), none, 0, none⟩,
    ⟨(some 5), .load false 1 (.tmp 1), none, 0, none⟩,
    ⟨(some 6), .bin .leq (.tmp 4) (.tmp 5), none, 0, none⟩,
    ⟨(some 7), .move (.tmp 6), none, 0, none⟩,
    ⟨(some 8), .load false 1 (.tmp 1), (some (7, true)), 0, none⟩,
    ⟨(some 9), .load false 1 (.tmp 2), (some (7, true)), 0, none⟩,
    ⟨(some 10), .bin .leq (.tmp 8) (.tmp 9), (some (7, true)), 0, none⟩,
    ⟨(some 11), .pick (.tmp 7) (.tmp 10) (.const (.bool false)), none, 0, none⟩,
    ⟨(some 3), .move (.tmp 11), none, 0, none⟩] []) (.ret)), [.tmp 3], true⟩
def s137 : Sig := ⟨(.cons (.iptr (.cons (.v (.int .i64)) .nil) 0) (.cons (.iptr (.cons (.v (.int .i64)) .nil) 0) (.cons (.iptr (.cons (.v (.int .i64)) .nil) 0) .nil))), [], ((.v .bool), []), []⟩
def F137 (L : Lp)  (a0 : Int) (a1 : Int) (a2 : Int) : Option Bool :=
  cond (decide (a0 ≤ a1))
  (some (decide (a1 ≤ a2)))
  (some false)
theorem e137 (L : Lp)  (x : s137.args.den) (h : denH s137.heap) : nrun [] L n137 s137 x h = F137 L  x.1.1 x.2.1.1 x.2.2.1.1 := by kernel_rfl
def f137 : Int → Int → Int → Option Bool := F137 (@LN LOOPS) 
@[reducible] def t137 : Ent := ⟨137, s137, fun x h => f137 x.1.1 x.2.1.1 x.2.2.1.1⟩
theorem k137 : chkNF Tryd.prog Tryd.f137 n137 = true := by kernel_rfl
theorem ok137 : NOk Tryd.prog t137 := NOk.body (T := []) mixed nall_nil (oneEach_of (by kernel_rfl)) Tryd.func137 k137 (by kernel_rfl) (fun x h => e137 _  x h)
/- drayage/spec.queuesRight -/
def n127 : NFunc := ⟨69, .seq (.region 1 [
    ⟨(some 1), .box 18 (.tmp 0), none, 0, none⟩,
    ⟨(some 2), .move (.const (.bool false)), none, 1, none⟩] []) (.seq (.seq (.region 0 [
    ⟨(some 7), .fieldAddr 2 (.tmp 1), none, 0, none⟩,
    ⟨(some 8), .load false 1 (.tmp 7), none, 0, none⟩,
    ⟨(some 9), .len (.tmp 8), none, 0, none⟩,
    ⟨(some 10), .bin .lss (.tmp 9) (.const (.int .i64 (1))), none, 0, none⟩,
    ⟨(some 11), .move (.tmp 10), none, 0, none⟩,
    ⟨(some 12), .fieldAddr 2 (.tmp 1), (some (11, false)), 0, none⟩,
    ⟨(some 13), .load false 1 (.tmp 12), (some (11, false)), 0, none⟩,
    ⟨(some 14), .len (.tmp 13), (some (11, false)), 0, none⟩,
    ⟨(some 15), .bin .gtr (.tmp 14) (.const (.int .i64 (8))), (some (11, false)), 0, none⟩,
    ⟨(some 16), .pick (.tmp 11) (.const (.bool true)) (.tmp 15), none, 0, none⟩] []) (.cond (.tmp 16) (.seq (.region 0 [
    ⟨(some 2), .move (.const (.bool false)), none, 0, none⟩] []) (.ret)) (.skip))) (.seq (.seq (.region 0 [
    ⟨(some 17), .fieldAddr 2 (.tmp 1), none, 0, none⟩,
    ⟨(some 18), .load false 1 (.tmp 17), none, 0, none⟩,
    ⟨(some 19), .len (.tmp 18), none, 0, none⟩,
    ⟨(some 20), .move (.const (.int .i64 (0))), none, 0, none⟩] []) (.block 0 (.loop [1, 18, 19, 20] ⟨[(1, (.ptr 0 0 0)), (20, (.v (.int .i64)))], [18, 19], [.one false .spec]⟩ (.seq (.region 0 [
    ⟨(some 21), .bin .lss (.tmp 20) (.tmp 19), none, 0, none⟩] []) (.seq (.cond (.tmp 21) (.skip) (.exit 0)) (.seq (.block 1 (.seq (.region 1 [
    ⟨(some 22), .indexSl 6 (.tmp 18) (.tmp 20), none, 0, none⟩,
    ⟨(some 23), .load true 6 (.tmp 22), none, 0, none⟩,
    ⟨(some 4), .alloc [.int .i64 (0), .zsl, .int .i64 (0), .int .i64 (0), .int .i64 (0), .int .i64 (0)], none, 0, none⟩,
    ⟨none, .store 6 (.tmp 4) (.tmp 23), none, 1, none⟩] []) (.seq (.seq (.region 4 [
    ⟨(some 24), .fieldAddr 0 (.tmp 4), none, 0, none⟩,
    ⟨(some 25), .load false 1 (.tmp 24), none, 0, none⟩,
    ⟨(some 26), .bin .lss (.tmp 25) (.const (.int .i64 (0))), none, 0, none⟩,
    ⟨(some 27), .move (.tmp 26), none, 0, none⟩,
    ⟨(some 28), .fieldAddr 0 (.tmp 4), (some (27, false)), 0, none⟩,
    ⟨(some 29), .load false 1 (.tmp 28), (some (27, false)), 0, none⟩,
    ⟨(some 30), .fieldAddr 1 (.tmp 1), (some (27, false)), 0, none⟩,
    ⟨(some 31), .load false 1 (.tmp 30), (some (27, false)), 0, none⟩,
    ⟨(some 32), .len (.tmp 31), (some (27, false)), 0, none⟩,
    ⟨(some 33), .bin .geq (.tmp 29) (.tmp 32), (some (27, false)), 0, none⟩,
    ⟨(some 34), .pick (.tmp 27) (.const (.bool true)) (.tmp 33), none, 0, none⟩,
    ⟨(some 35), .move (.tmp 34), none, 0, none⟩,
    ⟨(some 36), .fieldAddr 1 (.tmp 4), (some (35, false)), 0, none⟩,
    ⟨(some 37), .load false 1 (.tmp 36), (some (35, false)), 0, none⟩,
    ⟨(some 38), .fieldAddr 3 (.tmp 1), (some (35, false)), 0, none⟩,
    ⟨(some 39), .load false 1 (.tmp 38), (some (35, false)), 0, none⟩,
    ⟨(some 40), .call (.func 136) [(false, (.tmp 37)), (false, (.tmp 39))] false 4, (some (35, false)), 0, none⟩,
    ⟨(some 41), .un .not (.tmp 40), (some (35, false)), 4, none⟩,
    ⟨(some 42), .pick (.tmp 35) (.const (.bool true)) (.tmp 41), none, 4, none⟩] []) (.cond (.tmp 42) (.seq (.region 0 [
    ⟨(some 2), .move (.const (.bool false)), none, 0, none⟩] []) (.ret)) (.skip))) (.seq (.seq (.region 0 [
    ⟨(some 43), .fieldAddr 2 (.tmp 4), none, 0, none⟩,
    ⟨(some 44), .load false 1 (.tmp 43), none, 0, none⟩,
    ⟨(some 45), .fieldAddr 3 (.tmp 4), none, 0, none⟩,
    ⟨(some 46), .load false 1 (.tmp 45), none, 0, none⟩,
    ⟨(some 47), .fieldAddr 4 (.tmp 4), none, 0, none⟩,
    ⟨(some 48), .load false 1 (.tmp 47), none, 0, none⟩,
    ⟨(some 49), .build [.int .i64 (0), .int .i64 (0), .int .i64 (0)] [(0, 1, (.tmp 44)), (1, 1, (.tmp 46)), (2, 1, (.tmp 48))], none, 0, none⟩,
    ⟨(some 50), .move (.const (.int .i64 (0))), none, 0, none⟩] []) (.block 2 (.loopU [1, 4, 18, 19, 20, 49, 50] 4 (.seq (.region 0 [
    ⟨(some 51), .bin .lss (.tmp 50) (.const (.int .i64 (3))), none, 0, none⟩] []) (.seq (.cond (.tmp 51) (.skip) (.exit 2)) (.seq (.block 3 (.seq (.region 0 [
    ⟨(some 52), .indexVal false 3 1 (.tmp 49) (.tmp 50), none, 0, none⟩,
    ⟨(some 6), .move (.tmp 52), none, 0, none⟩] []) (.seq (.region 0 [
    ⟨(some 53), .move (.tmp 6), none, 0, none⟩,
    ⟨(some 54), .bin .lss (.tmp 53) (.const (.int .i64 (1))), none, 0, none⟩,
    ⟨(some 55), .move (.tmp 54), none, 0, none⟩,
    ⟨(some 56), .move (.tmp 6), (some (55, false)), 0, none⟩,
    ⟨(some 57), .bin .gtr (.tmp 56) (.const (.int .i64 (256))), (some (55, false)), 0, none⟩,
    ⟨(some 58), .pick (.tmp 55) (.const (.bool true)) (.tmp 57), none, 0, none⟩] []) (.cond (.tmp 58) (.seq (.region 0 [
    ⟨(some 2), .move (.const (.bool false)), none, 0, none⟩] []) (.ret)) (.skip))))) (.region 0 [
    ⟨(some 59), .bin .add (.tmp 50) (.const (.int .i64 (1))), none, 0, none⟩,
    ⟨(some 50), .move (.tmp 59), none, 0, none⟩] []))))))) (.seq (.region 0 [
    ⟨(some 60), .fieldAddr 5 (.tmp 4), none, 0, none⟩,
    ⟨(some 61), .load false 1 (.tmp 60), none, 0, none⟩,
    ⟨(some 62), .bin .lss (.tmp 61) (.const (.int .i64 (0))), none, 0, none⟩,
    ⟨(some 63), .move (.tmp 62), none, 0, none⟩,
    ⟨(some 64), .fieldAddr 5 (.tmp 4), (some (63, false)), 0, none⟩,
    ⟨(some 65), .load false 1 (.tmp 64), (some (63, false)), 0, none⟩,
    ⟨(some 66), .bin .gtr (.tmp 65) (.const (.int .i64 (100))), (some (63, false)), 0, none⟩,
    ⟨(some 67), .pick (.tmp 63) (.const (.bool true)) (.tmp 66), none, 0, none⟩] []) (.cond (.tmp 67) (.seq (.region 0 [
    ⟨(some 2), .move (.const (.bool false)), none, 0, none⟩] []) (.ret)) (.skip))))))) (.region 0 [
    ⟨(some 68), .bin .add (.tmp 20) (.const (.int .i64 (1))), none, 0, none⟩,
    ⟨(some 20), .move (.tmp 68), none, 0, none⟩] []))))))) (.seq (.region 0 [
    ⟨(some 2), .move (.const (.bool true)), none, 0, none⟩] []) (.ret)))), [.tmp 2], true⟩
def s127 : Sig := ⟨(.cons (.v .spec) .nil), [], ((.v .bool), []), []⟩
def l127_0 (g136 : (List Int) → Int → Option Bool) (as0 : Spec) (nx2 : ((Unit × (Int × Unit)) × (Spec × Unit)) → Option Bool) (z3 : Int) (z4 : Spec) : Option Bool :=
  cond (decide (z3 < (List.length as0.queues : Int)))
  (cond (decide (0 ≤ z3))
  (Option.bind (as0.queues[Int.toNat z3]?) fun y5 =>
  cond (decide (y5.part < 0))
  (some false)
  (cond (decide ((List.length z4.parts : Int) ≤ y5.part))
  (some false)
  (Option.bind (g136 y5.users z4.users) fun r6 =>
  cond (!r6)
  (some false)
  (cond (decide (y5.maxJobs < 1))
  (some false)
  (cond (decide (256 < y5.maxJobs))
  (some false)
  (cond (decide (y5.maxRun < 1))
  (some false)
  (cond (decide (256 < y5.maxRun))
  (some false)
  (cond (decide (y5.maxUser < 1))
  (some false)
  (cond (decide (256 < y5.maxUser))
  (some false)
  (cond (decide (y5.qos < 0))
  (some false)
  (cond (decide (100 < y5.qos))
  (some false)
  (nx2 (((), IntKind.wrap .i64 (z3 + 1), ()), (z4, ()))))))))))))))
  (none))
  (some true)
def F127 (L : Lp) (g136 : (List Int) → Int → Option Bool) (as0 : Spec) : Option Bool :=
  cond (decide ((List.length as0.queues : Int) < 1))
  (some false)
  (cond (decide (8 < (List.length as0.queues : Int)))
  (some false)
  (L (fun (s1 : ((Unit × (Int × Unit)) × (Spec × Unit))) nx2 => l127_0 g136 as0 nx2 s1.1.2.1 s1.2.1) (((), 0, ()), (as0, ()))))
theorem e127 (L : Lp) (g136 : (List Int) → Int → Option Bool) (x : s127.args.den) (h : denH s127.heap) : nrun [⟨136, s136, fun x h => g136 x.1 x.2.1⟩] L n127 s127 x h = F127 L g136 x.1 := by kernel_rfl
def f127 : Spec → Option Bool := F127 (@LN LOOPS) f136
@[reducible] def t127 : Ent := ⟨127, s127, fun x h => f127 x.1⟩
theorem k127 : chkNF Tryd.prog Tryd.f127 n127 = true := by kernel_rfl
theorem ok127 : NOk Tryd.prog t127 := NOk.body (T := [t136]) mixed (nall_cons ok136 nall_nil) (oneEach_of (by kernel_rfl)) Tryd.func127 k127 (by kernel_rfl) (fun x h => e127 _ _ x h)
/- drayage/spec.rules$3 -/
def n126 : NFunc := ⟨4, .seq (.region 0 [
    ⟨(some 1), .move (.const (.bool false)), none, 0, none⟩] []) (.seq (.region 4 [
    ⟨(some 2), .load true 18 (.tmp 0), none, 0, none⟩,
    ⟨(some 3), .call (.func 127) [(false, (.tmp 2))] false 4, none, 0, none⟩,
    ⟨(some 1), .move (.tmp 3), none, 4, none⟩] []) (.ret)), [.tmp 1], true⟩
def s126 : Sig := ⟨(.cons (.iptr (.cons (.v (.list .res)) (.cons (.v (.list (.list (.int .i64)))) (.cons (.v (.list .queue)) (.cons (.v (.int .i64)) (.cons (.v (.int .i64)) (.cons (.v (.int .i64)) (.cons (.v (.int .i64)) (.cons (.v (.int .i64)) (.cons (.v (.int .i64)) (.cons (.v (.int .i64)) (.cons (.v (.int .i64)) (.cons (.v (.int .i64)) (.cons (.v (.int .i64)) (.cons (.v (.int .i64)) (.cons (.v (.int .i64)) (.cons (.v (.int .i64)) (.cons (.v (.int .i64)) (.cons (.v (.int .i64)) .nil)))))))))))))))))) 0) .nil), [], ((.v .bool), []), []⟩
def F126 (L : Lp) (g127 : Spec → Option Bool) (a0 : (List Res)) (a1 : (List (List Int))) (a2 : (List Queue)) (a3 : Int) (a4 : Int) (a5 : Int) (a6 : Int) (a7 : Int) (a8 : Int) (a9 : Int) (a10 : Int) (a11 : Int) (a12 : Int) (a13 : Int) (a14 : Int) (a15 : Int) (a16 : Int) (a17 : Int) : Option Bool :=
  Option.bind (g127 (Spec.mk a0 a1 a2 a3 (Weights.mk a4 a5 a6 a7) a8 a9 a10 a11 a12 a13 a14 a15 a16 a17)) fun r18 =>
  some r18
theorem e126 (L : Lp) (g127 : Spec → Option Bool) (x : s126.args.den) (h : denH s126.heap) : nrun [⟨127, s127, fun x h => g127 x.1⟩] L n126 s126 x h = F126 L g127 x.1.1 x.1.2.1 x.1.2.2.1 x.1.2.2.2.1 x.1.2.2.2.2.1 x.1.2.2.2.2.2.1 x.1.2.2.2.2.2.2.1 x.1.2.2.2.2.2.2.2.1 x.1.2.2.2.2.2.2.2.2.1 x.1.2.2.2.2.2.2.2.2.2.1 x.1.2.2.2.2.2.2.2.2.2.2.1 x.1.2.2.2.2.2.2.2.2.2.2.2.1 x.1.2.2.2.2.2.2.2.2.2.2.2.2.1 x.1.2.2.2.2.2.2.2.2.2.2.2.2.2.1 x.1.2.2.2.2.2.2.2.2.2.2.2.2.2.2.1 x.1.2.2.2.2.2.2.2.2.2.2.2.2.2.2.2.1 x.1.2.2.2.2.2.2.2.2.2.2.2.2.2.2.2.2.1 x.1.2.2.2.2.2.2.2.2.2.2.2.2.2.2.2.2.2.1 := by kernel_rfl
def f126 : (List Res) → (List (List Int)) → (List Queue) → Int → Int → Int → Int → Int → Int → Int → Int → Int → Int → Int → Int → Int → Int → Int → Option Bool := F126 (@LN LOOPS) f127
@[reducible] def t126 : Ent := ⟨126, s126, fun x h => f126 x.1.1 x.1.2.1 x.1.2.2.1 x.1.2.2.2.1 x.1.2.2.2.2.1 x.1.2.2.2.2.2.1 x.1.2.2.2.2.2.2.1 x.1.2.2.2.2.2.2.2.1 x.1.2.2.2.2.2.2.2.2.1 x.1.2.2.2.2.2.2.2.2.2.1 x.1.2.2.2.2.2.2.2.2.2.2.1 x.1.2.2.2.2.2.2.2.2.2.2.2.1 x.1.2.2.2.2.2.2.2.2.2.2.2.2.1 x.1.2.2.2.2.2.2.2.2.2.2.2.2.2.1 x.1.2.2.2.2.2.2.2.2.2.2.2.2.2.2.1 x.1.2.2.2.2.2.2.2.2.2.2.2.2.2.2.2.1 x.1.2.2.2.2.2.2.2.2.2.2.2.2.2.2.2.2.1 x.1.2.2.2.2.2.2.2.2.2.2.2.2.2.2.2.2.2.1⟩
theorem k126 : chkNF Tryd.prog Tryd.f126 n126 = true := by kernel_rfl
theorem ok126 : NOk Tryd.prog t126 := NOk.body (T := [t127]) mixed (nall_cons ok127 nall_nil) (oneEach_of (by kernel_rfl)) Tryd.func126 k126 (by kernel_rfl) (fun x h => e126 _ _ x h)
/- drayage/spec.weightsRight -/
def n129 : NFunc := ⟨24, .seq (.region 1 [
    ⟨(some 1), .box 4 (.tmp 0), none, 0, none⟩,
    ⟨(some 2), .move (.const (.bool false)), none, 1, none⟩] []) (.seq (.seq (.region 0 [
    ⟨(some 5), .fieldAddr 0 (.tmp 1), none, 0, none⟩,
    ⟨(some 6), .load false 1 (.tmp 5), none, 0, none⟩,
    ⟨(some 7), .fieldAddr 1 (.tmp 1), none, 0, none⟩,
    ⟨(some 8), .load false 1 (.tmp 7), none, 0, none⟩,
    ⟨(some 9), .fieldAddr 2 (.tmp 1), none, 0, none⟩,
    ⟨(some 10), .load false 1 (.tmp 9), none, 0, none⟩,
    ⟨(some 11), .fieldAddr 3 (.tmp 1), none, 0, none⟩,
    ⟨(some 12), .load false 1 (.tmp 11), none, 0, none⟩,
    ⟨(some 13), .build [.int .i64 (0), .int .i64 (0), .int .i64 (0), .int .i64 (0)] [(0, 1, (.tmp 6)), (1, 1, (.tmp 8)), (2, 1, (.tmp 10)), (3, 1, (.tmp 12))], none, 0, none⟩,
    ⟨(some 14), .move (.const (.int .i64 (0))), none, 0, none⟩] []) (.block 0 (.loopU [13, 14] 5 (.seq (.region 0 [
    ⟨(some 15), .bin .lss (.tmp 14) (.const (.int .i64 (4))), none, 0, none⟩] []) (.seq (.cond (.tmp 15) (.skip) (.exit 0)) (.seq (.block 1 (.seq (.region 0 [
    ⟨(some 16), .indexVal false 4 1 (.tmp 13) (.tmp 14), none, 0, none⟩,
    ⟨(some 4), .move (.tmp 16), none, 0, none⟩] []) (.seq (.region 0 [
    ⟨(some 17), .move (.tmp 4), none, 0, none⟩,
    ⟨(some 18), .bin .lss (.tmp 17) (.const (.int .i64 (0))), none, 0, none⟩,
    ⟨(some 19), .move (.tmp 18), none, 0, none⟩,
    ⟨(some 20), .move (.tmp 4), (some (19, false)), 0, none⟩,
    ⟨(some 21), .bin .gtr (.tmp 20) (.const (.int .i64 (1000))), (some (19, false)), 0, none⟩,
    ⟨(some 22), .pick (.tmp 19) (.const (.bool true)) (.tmp 21), none, 0, none⟩] []) (.cond (.tmp 22) (.seq (.region 0 [
    ⟨(some 2), .move (.const (.bool false)), none, 0, none⟩] []) (.ret)) (.skip))))) (.region 0 [
    ⟨(some 23), .bin .add (.tmp 14) (.const (.int .i64 (1))), none, 0, none⟩,
    ⟨(some 14), .move (.tmp 23), none, 0, none⟩] []))))))) (.seq (.region 0 [
    ⟨(some 2), .move (.const (.bool true)), none, 0, none⟩] []) (.ret))), [.tmp 2], true⟩
def s129 : Sig := ⟨(.cons (.v .weights) .nil), [], ((.v .bool), []), []⟩
def F129 (L : Lp)  (w0 : Weights) : Option Bool :=
  cond (decide (w0.age < 0))
  (some false)
  (cond (decide (1000 < w0.age))
  (some false)
  (cond (decide (w0.size < 0))
  (some false)
  (cond (decide (1000 < w0.size))
  (some false)
  (cond (decide (w0.qos < 0))
  (some false)
  (cond (decide (1000 < w0.qos))
  (some false)
  (cond (decide (w0.share < 0))
  (some false)
  (cond (decide (1000 < w0.share))
  (some false)
  (some true))))))))
theorem e129 (L : Lp)  (x : s129.args.den) (h : denH s129.heap) : nrun [] L n129 s129 x h = F129 L  x.1 := by kernel_rfl
def f129 : Weights → Option Bool := F129 (@LN LOOPS) 
@[reducible] def t129 : Ent := ⟨129, s129, fun x h => f129 x.1⟩
theorem k129 : chkNF Tryd.prog Tryd.f129 n129 = true := by kernel_rfl
theorem ok129 : NOk Tryd.prog t129 := NOk.body (T := []) mixed nall_nil (oneEach_of (by kernel_rfl)) Tryd.func129 k129 (by kernel_rfl) (fun x h => e129 _  x h)
/- drayage/spec.rules$4 -/
def n128 : NFunc := ⟨5, .seq (.region 0 [
    ⟨(some 1), .move (.const (.bool false)), none, 0, none⟩] []) (.seq (.region 4 [
    ⟨(some 2), .fieldAddr 4 (.tmp 0), none, 0, none⟩,
    ⟨(some 3), .load true 4 (.tmp 2), none, 0, none⟩,
    ⟨(some 4), .call (.func 129) [(false, (.tmp 3))] false 4, none, 0, none⟩,
    ⟨(some 1), .move (.tmp 4), none, 4, none⟩] []) (.ret)), [.tmp 1], true⟩
def s128 : Sig := ⟨(.cons (.iptr (.cons (.v (.list .res)) (.cons (.v (.list (.list (.int .i64)))) (.cons (.v (.list .queue)) (.cons (.v (.int .i64)) (.cons (.v (.int .i64)) (.cons (.v (.int .i64)) (.cons (.v (.int .i64)) (.cons (.v (.int .i64)) (.cons (.v (.int .i64)) (.cons (.v (.int .i64)) (.cons (.v (.int .i64)) (.cons (.v (.int .i64)) (.cons (.v (.int .i64)) (.cons (.v (.int .i64)) (.cons (.v (.int .i64)) (.cons (.v (.int .i64)) (.cons (.v (.int .i64)) (.cons (.v (.int .i64)) .nil)))))))))))))))))) 0) .nil), [], ((.v .bool), []), []⟩
def F128 (L : Lp) (g129 : Weights → Option Bool) (a0 : (List Res)) (a1 : (List (List Int))) (a2 : (List Queue)) (a3 : Int) (a4 : Int) (a5 : Int) (a6 : Int) (a7 : Int) (a8 : Int) (a9 : Int) (a10 : Int) (a11 : Int) (a12 : Int) (a13 : Int) (a14 : Int) (a15 : Int) (a16 : Int) (a17 : Int) : Option Bool :=
  Option.bind (g129 (Weights.mk a4 a5 a6 a7)) fun r18 =>
  some r18
theorem e128 (L : Lp) (g129 : Weights → Option Bool) (x : s128.args.den) (h : denH s128.heap) : nrun [⟨129, s129, fun x h => g129 x.1⟩] L n128 s128 x h = F128 L g129 x.1.1 x.1.2.1 x.1.2.2.1 x.1.2.2.2.1 x.1.2.2.2.2.1 x.1.2.2.2.2.2.1 x.1.2.2.2.2.2.2.1 x.1.2.2.2.2.2.2.2.1 x.1.2.2.2.2.2.2.2.2.1 x.1.2.2.2.2.2.2.2.2.2.1 x.1.2.2.2.2.2.2.2.2.2.2.1 x.1.2.2.2.2.2.2.2.2.2.2.2.1 x.1.2.2.2.2.2.2.2.2.2.2.2.2.1 x.1.2.2.2.2.2.2.2.2.2.2.2.2.2.1 x.1.2.2.2.2.2.2.2.2.2.2.2.2.2.2.1 x.1.2.2.2.2.2.2.2.2.2.2.2.2.2.2.2.1 x.1.2.2.2.2.2.2.2.2.2.2.2.2.2.2.2.2.1 x.1.2.2.2.2.2.2.2.2.2.2.2.2.2.2.2.2.2.1 := by kernel_rfl
def f128 : (List Res) → (List (List Int)) → (List Queue) → Int → Int → Int → Int → Int → Int → Int → Int → Int → Int → Int → Int → Int → Int → Int → Option Bool := F128 (@LN LOOPS) f129
@[reducible] def t128 : Ent := ⟨128, s128, fun x h => f128 x.1.1 x.1.2.1 x.1.2.2.1 x.1.2.2.2.1 x.1.2.2.2.2.1 x.1.2.2.2.2.2.1 x.1.2.2.2.2.2.2.1 x.1.2.2.2.2.2.2.2.1 x.1.2.2.2.2.2.2.2.2.1 x.1.2.2.2.2.2.2.2.2.2.1 x.1.2.2.2.2.2.2.2.2.2.2.1 x.1.2.2.2.2.2.2.2.2.2.2.2.1 x.1.2.2.2.2.2.2.2.2.2.2.2.2.1 x.1.2.2.2.2.2.2.2.2.2.2.2.2.2.1 x.1.2.2.2.2.2.2.2.2.2.2.2.2.2.2.1 x.1.2.2.2.2.2.2.2.2.2.2.2.2.2.2.2.1 x.1.2.2.2.2.2.2.2.2.2.2.2.2.2.2.2.2.1 x.1.2.2.2.2.2.2.2.2.2.2.2.2.2.2.2.2.2.1⟩
theorem k128 : chkNF Tryd.prog Tryd.f128 n128 = true := by kernel_rfl
theorem ok128 : NOk Tryd.prog t128 := NOk.body (T := [t129]) mixed (nall_cons ok129 nall_nil) (oneEach_of (by kernel_rfl)) Tryd.func128 k128 (by kernel_rfl) (fun x h => e128 _ _ x h)
/- drayage/spec.rules$5 -/
def n130 : NFunc := ⟨10, .seq (.region 0 [
    ⟨(some 1), .move (.const (.bool false)), none, 0, none⟩] []) (.seq (.region 0 [
    ⟨(some 2), .fieldAddr 9 (.tmp 0), none, 0, none⟩,
    ⟨(some 3), .load false 1 (.tmp 2), none, 0, none⟩,
    ⟨(some 4), .bin .eql (.tmp 3) (.const (.int .i64 (1))), none, 0, none⟩,
    ⟨(some 5), .move (.tmp 4), none, 0, none⟩,
    ⟨(some 6), .fieldAddr 9 (.tmp 0), (some (5, false)), 0, none⟩,
    ⟨(some 7), .load false 1 (.tmp 6), (some (5, false)), 0, none⟩,
    ⟨(some 8), .bin .eql (.tmp 7) (.const (.int .i64 (2))), (some (5, false)), 0, none⟩,
    ⟨(some 9), .pick (.tmp 5) (.const (.bool true)) (.tmp 8), none, 0, none⟩,
    ⟨(some 1), .move (.tmp 9), none, 0, none⟩] []) (.ret)), [.tmp 1], true⟩
def s130 : Sig := ⟨(.cons (.iptr (.cons (.v (.list .res)) (.cons (.v (.list (.list (.int .i64)))) (.cons (.v (.list .queue)) (.cons (.v (.int .i64)) (.cons (.v (.int .i64)) (.cons (.v (.int .i64)) (.cons (.v (.int .i64)) (.cons (.v (.int .i64)) (.cons (.v (.int .i64)) (.cons (.v (.int .i64)) (.cons (.v (.int .i64)) (.cons (.v (.int .i64)) (.cons (.v (.int .i64)) (.cons (.v (.int .i64)) (.cons (.v (.int .i64)) (.cons (.v (.int .i64)) (.cons (.v (.int .i64)) (.cons (.v (.int .i64)) .nil)))))))))))))))))) 0) .nil), [], ((.v .bool), []), []⟩
def F130 (L : Lp)  (a0 : (List Res)) (a1 : (List (List Int))) (a2 : (List Queue)) (a3 : Int) (a4 : Int) (a5 : Int) (a6 : Int) (a7 : Int) (a8 : Int) (a9 : Int) (a10 : Int) (a11 : Int) (a12 : Int) (a13 : Int) (a14 : Int) (a15 : Int) (a16 : Int) (a17 : Int) : Option Bool :=
  cond (decide (a9 = 1))
  (some true)
  (some (decide (a9 = 2)))
theorem e130 (L : Lp)  (x : s130.args.den) (h : denH s130.heap) : nrun [] L n130 s130 x h = F130 L  x.1.1 x.1.2.1 x.1.2.2.1 x.1.2.2.2.1 x.1.2.2.2.2.1 x.1.2.2.2.2.2.1 x.1.2.2.2.2.2.2.1 x.1.2.2.2.2.2.2.2.1 x.1.2.2.2.2.2.2.2.2.1 x.1.2.2.2.2.2.2.2.2.2.1 x.1.2.2.2.2.2.2.2.2.2.2.1 x.1.2.2.2.2.2.2.2.2.2.2.2.1 x.1.2.2.2.2.2.2.2.2.2.2.2.2.1 x.1.2.2.2.2.2.2.2.2.2.2.2.2.2.1 x.1.2.2.2.2.2.2.2.2.2.2.2.2.2.2.1 x.1.2.2.2.2.2.2.2.2.2.2.2.2.2.2.2.1 x.1.2.2.2.2.2.2.2.2.2.2.2.2.2.2.2.2.1 x.1.2.2.2.2.2.2.2.2.2.2.2.2.2.2.2.2.2.1 := by kernel_rfl
def f130 : (List Res) → (List (List Int)) → (List Queue) → Int → Int → Int → Int → Int → Int → Int → Int → Int → Int → Int → Int → Int → Int → Int → Option Bool := F130 (@LN LOOPS) 
@[reducible] def t130 : Ent := ⟨130, s130, fun x h => f130 x.1.1 x.1.2.1 x.1.2.2.1 x.1.2.2.2.1 x.1.2.2.2.2.1 x.1.2.2.2.2.2.1 x.1.2.2.2.2.2.2.1 x.1.2.2.2.2.2.2.2.1 x.1.2.2.2.2.2.2.2.2.1 x.1.2.2.2.2.2.2.2.2.2.1 x.1.2.2.2.2.2.2.2.2.2.2.1 x.1.2.2.2.2.2.2.2.2.2.2.2.1 x.1.2.2.2.2.2.2.2.2.2.2.2.2.1 x.1.2.2.2.2.2.2.2.2.2.2.2.2.2.1 x.1.2.2.2.2.2.2.2.2.2.2.2.2.2.2.1 x.1.2.2.2.2.2.2.2.2.2.2.2.2.2.2.2.1 x.1.2.2.2.2.2.2.2.2.2.2.2.2.2.2.2.2.1 x.1.2.2.2.2.2.2.2.2.2.2.2.2.2.2.2.2.2.1⟩
theorem k130 : chkNF Tryd.prog Tryd.f130 n130 = true := by kernel_rfl
theorem ok130 : NOk Tryd.prog t130 := NOk.body (T := []) mixed nall_nil (oneEach_of (by kernel_rfl)) Tryd.func130 k130 (by kernel_rfl) (fun x h => e130 _  x h)
/- drayage/spec.Flaw -/
def n88 : NFunc := ⟨19, .seq (.region 1 [
    ⟨(some 1), .box 18 (.tmp 0), none, 0, none⟩,
    ⟨(some 2), .move (.const (.str [])), none, 1, none⟩] []) (.seq (.seq (.region 4 [
    ⟨(some 5), .load true 18 (.tmp 1), none, 0, none⟩,
    ⟨(some 6), .call (.func 108) [(false, (.tmp 5))] false 4, none, 0, none⟩,
    ⟨(some 7), .len (.tmp 6), none, 4, none⟩,
    ⟨(some 8), .move (.const (.int .i64 (0))), none, 4, none⟩] []) (.block 0 (.loopU [6, 7, 8] 16 (.seq (.region 0 [
    ⟨(some 9), .bin .lss (.tmp 8) (.tmp 7), none, 0, none⟩] []) (.seq (.cond (.tmp 9) (.skip) (.exit 0)) (.seq (.block 1 (.seq (.region 1 [
    ⟨(some 10), .indexSl 2 (.tmp 6) (.tmp 8), none, 0, none⟩,
    ⟨(some 11), .load true 2 (.tmp 10), none, 0, none⟩,
    ⟨(some 4), .alloc [.str [], .nilfn], none, 0, none⟩,
    ⟨none, .store 2 (.tmp 4) (.tmp 11), none, 1, none⟩] []) (.seq (.region 4 [
    ⟨(some 12), .fieldAddr 1 (.tmp 4), none, 0, none⟩,
    ⟨(some 13), .load false 1 (.tmp 12), none, 0, none⟩,
    ⟨(some 14), .call (.tmp 13) [] false 4, none, 0, none⟩,
    ⟨(some 15), .un .not (.tmp 14), none, 4, none⟩] []) (.cond (.tmp 15) (.seq (.region 0 [
    ⟨(some 16), .fieldAddr 0 (.tmp 4), none, 0, none⟩,
    ⟨(some 17), .load false 1 (.tmp 16), none, 0, none⟩,
    ⟨(some 2), .move (.tmp 17), none, 0, none⟩] []) (.ret)) (.skip))))) (.region 0 [
    ⟨(some 18), .bin .add (.tmp 8) (.const (.int .i64 (1))), none, 0, none⟩,
    ⟨(some 8), .move (.tmp 18), none, 0, none⟩] []))))))) (.seq (.region 0 [
    ⟨(some 2), .move (.const (.str [])), none, 0, none⟩] []) (.ret))), [.tmp 2], true⟩
def s88 : Sig := ⟨(.cons (.v .spec) .nil), [], ((.v .str), []), []⟩
def F88 (L : Lp) (g108 : Spec → Option y108) (g121 : (List Res) → (List (List Int)) → (List Queue) → Int → Int → Int → Int → Int → Int → Int → Int → Int → Int → Int → Int → Int → Int → Int → Option Bool) (g123 : (List Res) → (List (List Int)) → (List Queue) → Int → Int → Int → Int → Int → Int → Int → Int → Int → Int → Int → Int → Int → Int → Int → Option Bool) (g137 : Int → Int → Int → Option Bool) (g126 : (List Res) → (List (List Int)) → (List Queue) → Int → Int → Int → Int → Int → Int → Int → Int → Int → Int → Int → Int → Int → Int → Int → Option Bool) (g128 : (List Res) → (List (List Int)) → (List Queue) → Int → Int → Int → Int → Int → Int → Int → Int → Int → Int → Int → Int → Int → Int → Int → Option Bool) (g130 : (List Res) → (List (List Int)) → (List Queue) → Int → Int → Int → Int → Int → Int → Int → Int → Int → Int → Int → Int → Int → Int → Int → Option Bool) (as0 : Spec) : Option (List UInt8) :=
  Option.bind (g108 as0) fun r1 =>
  Option.bind (g121 r1.1.2.1.1.1 r1.1.2.1.1.2.1 r1.1.2.1.1.2.2.1 r1.1.2.1.1.2.2.2.1 r1.1.2.1.1.2.2.2.2.1 r1.1.2.1.1.2.2.2.2.2.1 r1.1.2.1.1.2.2.2.2.2.2.1 r1.1.2.1.1.2.2.2.2.2.2.2.1 r1.1.2.1.1.2.2.2.2.2.2.2.2.1 r1.1.2.1.1.2.2.2.2.2.2.2.2.2.1 r1.1.2.1.1.2.2.2.2.2.2.2.2.2.2.1 r1.1.2.1.1.2.2.2.2.2.2.2.2.2.2.2.1 r1.1.2.1.1.2.2.2.2.2.2.2.2.2.2.2.2.1 r1.1.2.1.1.2.2.2.2.2.2.2.2.2.2.2.2.2.1 r1.1.2.1.1.2.2.2.2.2.2.2.2.2.2.2.2.2.2.1 r1.1.2.1.1.2.2.2.2.2.2.2.2.2.2.2.2.2.2.2.1 r1.1.2.1.1.2.2.2.2.2.2.2.2.2.2.2.2.2.2.2.2.1 r1.1.2.1.1.2.2.2.2.2.2.2.2.2.2.2.2.2.2.2.2.2.1) fun r2 =>
  cond (!r2)
  (some r1.1.1)
  (Option.bind (g123 r1.2.1.2.1.1.1 r1.2.1.2.1.1.2.1 r1.2.1.2.1.1.2.2.1 r1.2.1.2.1.1.2.2.2.1 r1.2.1.2.1.1.2.2.2.2.1 r1.2.1.2.1.1.2.2.2.2.2.1 r1.2.1.2.1.1.2.2.2.2.2.2.1 r1.2.1.2.1.1.2.2.2.2.2.2.2.1 r1.2.1.2.1.1.2.2.2.2.2.2.2.2.1 r1.2.1.2.1.1.2.2.2.2.2.2.2.2.2.1 r1.2.1.2.1.1.2.2.2.2.2.2.2.2.2.2.1 r1.2.1.2.1.1.2.2.2.2.2.2.2.2.2.2.2.1 r1.2.1.2.1.1.2.2.2.2.2.2.2.2.2.2.2.2.1 r1.2.1.2.1.1.2.2.2.2.2.2.2.2.2.2.2.2.2.1 r1.2.1.2.1.1.2.2.2.2.2.2.2.2.2.2.2.2.2.2.1 r1.2.1.2.1.1.2.2.2.2.2.2.2.2.2.2.2.2.2.2.2.1 r1.2.1.2.1.1.2.2.2.2.2.2.2.2.2.2.2.2.2.2.2.2.1 r1.2.1.2.1.1.2.2.2.2.2.2.2.2.2.2.2.2.2.2.2.2.2.1) fun r3 =>
  cond (!r3)
  (some r1.2.1.1)
  (Option.bind (g137 r1.2.2.1.2.1.1.1 r1.2.2.1.2.1.2.1.1 r1.2.2.1.2.1.2.2.1.1) fun r4 =>
  cond (!r4)
  (some r1.2.2.1.1)
  (Option.bind (g126 r1.2.2.2.1.2.1.1.1 r1.2.2.2.1.2.1.1.2.1 r1.2.2.2.1.2.1.1.2.2.1 r1.2.2.2.1.2.1.1.2.2.2.1 r1.2.2.2.1.2.1.1.2.2.2.2.1 r1.2.2.2.1.2.1.1.2.2.2.2.2.1 r1.2.2.2.1.2.1.1.2.2.2.2.2.2.1 r1.2.2.2.1.2.1.1.2.2.2.2.2.2.2.1 r1.2.2.2.1.2.1.1.2.2.2.2.2.2.2.2.1 r1.2.2.2.1.2.1.1.2.2.2.2.2.2.2.2.2.1 r1.2.2.2.1.2.1.1.2.2.2.2.2.2.2.2.2.2.1 r1.2.2.2.1.2.1.1.2.2.2.2.2.2.2.2.2.2.2.1 r1.2.2.2.1.2.1.1.2.2.2.2.2.2.2.2.2.2.2.2.1 r1.2.2.2.1.2.1.1.2.2.2.2.2.2.2.2.2.2.2.2.2.1 r1.2.2.2.1.2.1.1.2.2.2.2.2.2.2.2.2.2.2.2.2.2.1 r1.2.2.2.1.2.1.1.2.2.2.2.2.2.2.2.2.2.2.2.2.2.2.1 r1.2.2.2.1.2.1.1.2.2.2.2.2.2.2.2.2.2.2.2.2.2.2.2.1 r1.2.2.2.1.2.1.1.2.2.2.2.2.2.2.2.2.2.2.2.2.2.2.2.2.1) fun r5 =>
  cond (!r5)
  (some r1.2.2.2.1.1)
  (Option.bind (g128 r1.2.2.2.2.1.2.1.1.1 r1.2.2.2.2.1.2.1.1.2.1 r1.2.2.2.2.1.2.1.1.2.2.1 r1.2.2.2.2.1.2.1.1.2.2.2.1 r1.2.2.2.2.1.2.1.1.2.2.2.2.1 r1.2.2.2.2.1.2.1.1.2.2.2.2.2.1 r1.2.2.2.2.1.2.1.1.2.2.2.2.2.2.1 r1.2.2.2.2.1.2.1.1.2.2.2.2.2.2.2.1 r1.2.2.2.2.1.2.1.1.2.2.2.2.2.2.2.2.1 r1.2.2.2.2.1.2.1.1.2.2.2.2.2.2.2.2.2.1 r1.2.2.2.2.1.2.1.1.2.2.2.2.2.2.2.2.2.2.1 r1.2.2.2.2.1.2.1.1.2.2.2.2.2.2.2.2.2.2.2.1 r1.2.2.2.2.1.2.1.1.2.2.2.2.2.2.2.2.2.2.2.2.1 r1.2.2.2.2.1.2.1.1.2.2.2.2.2.2.2.2.2.2.2.2.2.1 r1.2.2.2.2.1.2.1.1.2.2.2.2.2.2.2.2.2.2.2.2.2.2.1 r1.2.2.2.2.1.2.1.1.2.2.2.2.2.2.2.2.2.2.2.2.2.2.2.1 r1.2.2.2.2.1.2.1.1.2.2.2.2.2.2.2.2.2.2.2.2.2.2.2.2.1 r1.2.2.2.2.1.2.1.1.2.2.2.2.2.2.2.2.2.2.2.2.2.2.2.2.2.1) fun r6 =>
  cond (!r6)
  (some r1.2.2.2.2.1.1)
  (Option.bind (g137 r1.2.2.2.2.2.1.2.1.1.1 r1.2.2.2.2.2.1.2.1.2.1.1 r1.2.2.2.2.2.1.2.1.2.2.1.1) fun r7 =>
  cond (!r7)
  (some r1.2.2.2.2.2.1.1)
  (Option.bind (g130 r1.2.2.2.2.2.2.1.2.1.1.1 r1.2.2.2.2.2.2.1.2.1.1.2.1 r1.2.2.2.2.2.2.1.2.1.1.2.2.1 r1.2.2.2.2.2.2.1.2.1.1.2.2.2.1 r1.2.2.2.2.2.2.1.2.1.1.2.2.2.2.1 r1.2.2.2.2.2.2.1.2.1.1.2.2.2.2.2.1 r1.2.2.2.2.2.2.1.2.1.1.2.2.2.2.2.2.1 r1.2.2.2.2.2.2.1.2.1.1.2.2.2.2.2.2.2.1 r1.2.2.2.2.2.2.1.2.1.1.2.2.2.2.2.2.2.2.1 r1.2.2.2.2.2.2.1.2.1.1.2.2.2.2.2.2.2.2.2.1 r1.2.2.2.2.2.2.1.2.1.1.2.2.2.2.2.2.2.2.2.2.1 r1.2.2.2.2.2.2.1.2.1.1.2.2.2.2.2.2.2.2.2.2.2.1 r1.2.2.2.2.2.2.1.2.1.1.2.2.2.2.2.2.2.2.2.2.2.2.1 r1.2.2.2.2.2.2.1.2.1.1.2.2.2.2.2.2.2.2.2.2.2.2.2.1 r1.2.2.2.2.2.2.1.2.1.1.2.2.2.2.2.2.2.2.2.2.2.2.2.2.1 r1.2.2.2.2.2.2.1.2.1.1.2.2.2.2.2.2.2.2.2.2.2.2.2.2.2.1 r1.2.2.2.2.2.2.1.2.1.1.2.2.2.2.2.2.2.2.2.2.2.2.2.2.2.2.1 r1.2.2.2.2.2.2.1.2.1.1.2.2.2.2.2.2.2.2.2.2.2.2.2.2.2.2.2.1) fun r8 =>
  cond (!r8)
  (some r1.2.2.2.2.2.2.1.1)
  (Option.bind (g137 r1.2.2.2.2.2.2.2.1.2.1.1.1 r1.2.2.2.2.2.2.2.1.2.1.2.1.1 r1.2.2.2.2.2.2.2.1.2.1.2.2.1.1) fun r9 =>
  cond (!r9)
  (some r1.2.2.2.2.2.2.2.1.1)
  (Option.bind (g137 r1.2.2.2.2.2.2.2.2.1.2.1.1.1 r1.2.2.2.2.2.2.2.2.1.2.1.2.1.1 r1.2.2.2.2.2.2.2.2.1.2.1.2.2.1.1) fun r10 =>
  cond (!r10)
  (some r1.2.2.2.2.2.2.2.2.1.1)
  (Option.bind (g137 r1.2.2.2.2.2.2.2.2.2.1.2.1.1.1 r1.2.2.2.2.2.2.2.2.2.1.2.1.2.1.1 r1.2.2.2.2.2.2.2.2.2.1.2.1.2.2.1.1) fun r11 =>
  cond (!r11)
  (some r1.2.2.2.2.2.2.2.2.2.1.1)
  (Option.bind (g137 r1.2.2.2.2.2.2.2.2.2.2.1.2.1.1.1 r1.2.2.2.2.2.2.2.2.2.2.1.2.1.2.1.1 r1.2.2.2.2.2.2.2.2.2.2.1.2.1.2.2.1.1) fun r12 =>
  cond (!r12)
  (some r1.2.2.2.2.2.2.2.2.2.2.1.1)
  (Option.bind (g137 r1.2.2.2.2.2.2.2.2.2.2.2.1.2.1.1.1 r1.2.2.2.2.2.2.2.2.2.2.2.1.2.1.2.1.1 r1.2.2.2.2.2.2.2.2.2.2.2.1.2.1.2.2.1.1) fun r13 =>
  cond (!r13)
  (some r1.2.2.2.2.2.2.2.2.2.2.2.1.1)
  (Option.bind (g137 r1.2.2.2.2.2.2.2.2.2.2.2.2.1.2.1.1.1 r1.2.2.2.2.2.2.2.2.2.2.2.2.1.2.1.2.1.1 r1.2.2.2.2.2.2.2.2.2.2.2.2.1.2.1.2.2.1.1) fun r14 =>
  cond (!r14)
  (some r1.2.2.2.2.2.2.2.2.2.2.2.2.1.1)
  (Option.bind (g137 r1.2.2.2.2.2.2.2.2.2.2.2.2.2.1.2.1.1.1 r1.2.2.2.2.2.2.2.2.2.2.2.2.2.1.2.1.2.1.1 r1.2.2.2.2.2.2.2.2.2.2.2.2.2.1.2.1.2.2.1.1) fun r15 =>
  cond (!r15)
  (some r1.2.2.2.2.2.2.2.2.2.2.2.2.2.1.1)
  (Option.bind (g137 r1.2.2.2.2.2.2.2.2.2.2.2.2.2.2.1.2.1.1.1 r1.2.2.2.2.2.2.2.2.2.2.2.2.2.2.1.2.1.2.1.1 r1.2.2.2.2.2.2.2.2.2.2.2.2.2.2.1.2.1.2.2.1.1) fun r16 =>
  cond (!r16)
  (some r1.2.2.2.2.2.2.2.2.2.2.2.2.2.2.1.1)
  (some ([] : List UInt8))))))))))))))))
theorem e88 (L : Lp) (g108 : Spec → Option y108) (g121 : (List Res) → (List (List Int)) → (List Queue) → Int → Int → Int → Int → Int → Int → Int → Int → Int → Int → Int → Int → Int → Int → Int → Option Bool) (g123 : (List Res) → (List (List Int)) → (List Queue) → Int → Int → Int → Int → Int → Int → Int → Int → Int → Int → Int → Int → Int → Int → Int → Option Bool) (g137 : Int → Int → Int → Option Bool) (g126 : (List Res) → (List (List Int)) → (List Queue) → Int → Int → Int → Int → Int → Int → Int → Int → Int → Int → Int → Int → Int → Int → Int → Option Bool) (g128 : (List Res) → (List (List Int)) → (List Queue) → Int → Int → Int → Int → Int → Int → Int → Int → Int → Int → Int → Int → Int → Int → Int → Option Bool) (g130 : (List Res) → (List (List Int)) → (List Queue) → Int → Int → Int → Int → Int → Int → Int → Int → Int → Int → Int → Int → Int → Int → Int → Option Bool) (x : s88.args.den) (h : denH s88.heap) : nrun [⟨108, s108, fun x h => g108 x.1⟩, ⟨121, s121, fun x h => g121 x.1.1 x.1.2.1 x.1.2.2.1 x.1.2.2.2.1 x.1.2.2.2.2.1 x.1.2.2.2.2.2.1 x.1.2.2.2.2.2.2.1 x.1.2.2.2.2.2.2.2.1 x.1.2.2.2.2.2.2.2.2.1 x.1.2.2.2.2.2.2.2.2.2.1 x.1.2.2.2.2.2.2.2.2.2.2.1 x.1.2.2.2.2.2.2.2.2.2.2.2.1 x.1.2.2.2.2.2.2.2.2.2.2.2.2.1 x.1.2.2.2.2.2.2.2.2.2.2.2.2.2.1 x.1.2.2.2.2.2.2.2.2.2.2.2.2.2.2.1 x.1.2.2.2.2.2.2.2.2.2.2.2.2.2.2.2.1 x.1.2.2.2.2.2.2.2.2.2.2.2.2.2.2.2.2.1 x.1.2.2.2.2.2.2.2.2.2.2.2.2.2.2.2.2.2.1⟩, ⟨123, s123, fun x h => g123 x.1.1 x.1.2.1 x.1.2.2.1 x.1.2.2.2.1 x.1.2.2.2.2.1 x.1.2.2.2.2.2.1 x.1.2.2.2.2.2.2.1 x.1.2.2.2.2.2.2.2.1 x.1.2.2.2.2.2.2.2.2.1 x.1.2.2.2.2.2.2.2.2.2.1 x.1.2.2.2.2.2.2.2.2.2.2.1 x.1.2.2.2.2.2.2.2.2.2.2.2.1 x.1.2.2.2.2.2.2.2.2.2.2.2.2.1 x.1.2.2.2.2.2.2.2.2.2.2.2.2.2.1 x.1.2.2.2.2.2.2.2.2.2.2.2.2.2.2.1 x.1.2.2.2.2.2.2.2.2.2.2.2.2.2.2.2.1 x.1.2.2.2.2.2.2.2.2.2.2.2.2.2.2.2.2.1 x.1.2.2.2.2.2.2.2.2.2.2.2.2.2.2.2.2.2.1⟩, ⟨137, s137, fun x h => g137 x.1.1 x.2.1.1 x.2.2.1.1⟩, ⟨126, s126, fun x h => g126 x.1.1 x.1.2.1 x.1.2.2.1 x.1.2.2.2.1 x.1.2.2.2.2.1 x.1.2.2.2.2.2.1 x.1.2.2.2.2.2.2.1 x.1.2.2.2.2.2.2.2.1 x.1.2.2.2.2.2.2.2.2.1 x.1.2.2.2.2.2.2.2.2.2.1 x.1.2.2.2.2.2.2.2.2.2.2.1 x.1.2.2.2.2.2.2.2.2.2.2.2.1 x.1.2.2.2.2.2.2.2.2.2.2.2.2.1 x.1.2.2.2.2.2.2.2.2.2.2.2.2.2.1 x.1.2.2.2.2.2.2.2.2.2.2.2.2.2.2.1 x.1.2.2.2.2.2.2.2.2.2.2.2.2.2.2.2.1 x.1.2.2.2.2.2.2.2.2.2.2.2.2.2.2.2.2.1 x.1.2.2.2.2.2.2.2.2.2.2.2.2.2.2.2.2.2.1⟩, ⟨128, s128, fun x h => g128 x.1.1 x.1.2.1 x.1.2.2.1 x.1.2.2.2.1 x.1.2.2.2.2.1 x.1.2.2.2.2.2.1 x.1.2.2.2.2.2.2.1 x.1.2.2.2.2.2.2.2.1 x.1.2.2.2.2.2.2.2.2.1 x.1.2.2.2.2.2.2.2.2.2.1 x.1.2.2.2.2.2.2.2.2.2.2.1 x.1.2.2.2.2.2.2.2.2.2.2.2.1 x.1.2.2.2.2.2.2.2.2.2.2.2.2.1 x.1.2.2.2.2.2.2.2.2.2.2.2.2.2.1 x.1.2.2.2.2.2.2.2.2.2.2.2.2.2.2.1 x.1.2.2.2.2.2.2.2.2.2.2.2.2.2.2.2.1 x.1.2.2.2.2.2.2.2.2.2.2.2.2.2.2.2.2.1 x.1.2.2.2.2.2.2.2.2.2.2.2.2.2.2.2.2.2.1⟩, ⟨130, s130, fun x h => g130 x.1.1 x.1.2.1 x.1.2.2.1 x.1.2.2.2.1 x.1.2.2.2.2.1 x.1.2.2.2.2.2.1 x.1.2.2.2.2.2.2.1 x.1.2.2.2.2.2.2.2.1 x.1.2.2.2.2.2.2.2.2.1 x.1.2.2.2.2.2.2.2.2.2.1 x.1.2.2.2.2.2.2.2.2.2.2.1 x.1.2.2.2.2.2.2.2.2.2.2.2.1 x.1.2.2.2.2.2.2.2.2.2.2.2.2.1 x.1.2.2.2.2.2.2.2.2.2.2.2.2.2.1 x.1.2.2.2.2.2.2.2.2.2.2.2.2.2.2.1 x.1.2.2.2.2.2.2.2.2.2.2.2.2.2.2.2.1 x.1.2.2.2.2.2.2.2.2.2.2.2.2.2.2.2.2.1 x.1.2.2.2.2.2.2.2.2.2.2.2.2.2.2.2.2.2.1⟩] L n88 s88 x h = F88 L g108 g121 g123 g137 g126 g128 g130 x.1 := by kernel_rfl
def f88 : Spec → Option (List UInt8) := F88 (@LN LOOPS) f108 f121 f123 f137 f126 f128 f130
@[reducible] def t88 : Ent := ⟨88, s88, fun x h => f88 x.1⟩
theorem k88 : chkNF Tryd.prog Tryd.f88 n88 = true := by kernel_rfl
theorem ok88 : NOk Tryd.prog t88 := NOk.body (T := [t108, t121, t123, t137, t126, t128, t130]) mixed (nall_cons ok108 (nall_cons ok121 (nall_cons ok123 (nall_cons ok137 (nall_cons ok126 (nall_cons ok128 (nall_cons ok130 nall_nil))))))) (oneEach_of (by kernel_rfl)) Tryd.func88 k88 (by kernel_rfl) (fun x h => e88 _ _ _ _ _ _ _ _ x h)
/- drayage/spec.Right -/
def n76 : NFunc := ⟨6, .seq (.region 1 [
    ⟨(some 1), .box 18 (.tmp 0), none, 0, none⟩,
    ⟨(some 2), .move (.const (.bool false)), none, 1, none⟩] []) (.seq (.region 4 [
    ⟨(some 3), .load true 18 (.tmp 1), none, 0, none⟩,
    ⟨(some 4), .call (.func 88) [(false, (.tmp 3))] false 4, none, 0, none⟩,
    ⟨(some 5), .bin .eql (.tmp 4) (.const (.str [])), none, 4, none⟩,
    ⟨(some 2), .move (.tmp 5), none, 4, none⟩] []) (.ret)), [.tmp 2], true⟩
def s76 : Sig := ⟨(.cons (.v .spec) .nil), [], ((.v .bool), []), []⟩
def F76 (L : Lp) (g88 : Spec → Option (List UInt8)) (as0 : Spec) : Option Bool :=
  Option.bind (g88 as0) fun r1 =>
  some (decide (r1 = ([] : List UInt8)))
theorem e76 (L : Lp) (g88 : Spec → Option (List UInt8)) (x : s76.args.den) (h : denH s76.heap) : nrun [⟨88, s88, fun x h => g88 x.1⟩] L n76 s76 x h = F76 L g88 x.1 := by kernel_rfl
def f76 : Spec → Option Bool := F76 (@LN LOOPS) f88
@[reducible] def t76 : Ent := ⟨76, s76, fun x h => f76 x.1⟩
theorem k76 : chkNF Tryd.prog Tryd.f76 n76 = true := by kernel_rfl
theorem ok76 : NOk Tryd.prog t76 := NOk.body (T := [t88]) mixed (nall_cons ok88 nall_nil) (oneEach_of (by kernel_rfl)) Tryd.func76 k76 (by kernel_rfl) (fun x h => e76 _ _ x h)
/- drayage/job.within -/
def n89 : NFunc := ⟨15, .seq (.region 0 [
    ⟨(some 6), .move (.const (.bool false)), none, 0, none⟩] []) (.seq (.region 0 [
    ⟨(some 7), .move (.tmp 1), none, 0, none⟩,
    ⟨(some 8), .move (.tmp 0), none, 0, none⟩,
    ⟨(some 9), .bin .leq (.tmp 7) (.tmp 8), none, 0, none⟩,
    ⟨(some 10), .move (.tmp 9), none, 0, none⟩,
    ⟨(some 11), .move (.tmp 0), (some (10, true)), 0, none⟩,
    ⟨(some 12), .move (.tmp 2), (some (10, true)), 0, none⟩,
    ⟨(some 13), .bin .leq (.tmp 11) (.tmp 12), (some (10, true)), 0, none⟩,
    ⟨(some 14), .pick (.tmp 10) (.tmp 13) (.const (.bool false)), none, 0, none⟩,
    ⟨(some 6), .move (.tmp 14), none, 0, none⟩] []) (.ret)), [.tmp 6], true⟩
def s89 : Sig := ⟨(.cons (.v (.int .i64)) (.cons (.v (.int .i64)) (.cons (.v (.int .i64)) .nil))), [], ((.v .bool), []), []⟩
def F89 (L : Lp)  (an0 : Int) (lo1 : Int) (hi2 : Int) : Option Bool :=
  cond (decide (lo1 ≤ an0))
  (some (decide (an0 ≤ hi2)))
  (some false)
theorem e89 (L : Lp)  (x : s89.args.den) (h : denH s89.heap) : nrun [] L n89 s89 x h = F89 L  x.1 x.2.1 x.2.2.1 := by kernel_rfl
def f89 : Int → Int → Int → Option Bool := F89 (@LN LOOPS) 
@[reducible] def t89 : Ent := ⟨89, s89, fun x h => f89 x.1 x.2.1 x.2.2.1⟩
theorem k89 : chkNF Tryd.prog Tryd.f89 n89 = true := by kernel_rfl
theorem ok89 : NOk Tryd.prog t89 := NOk.body (T := []) mixed nall_nil (oneEach_of (by kernel_rfl)) Tryd.func89 k89 (by kernel_rfl) (fun x h => e89 _  x h)
/- drayage/job.afterRight -/
def n90 : NFunc := ⟨24, .seq (.region 1 [
    ⟨(some 1), .box 18 (.tmp 0), none, 0, none⟩,
    ⟨(some 2), .move (.const (.bool false)), none, 1, none⟩] []) (.seq (.seq (.region 0 [
    ⟨(some 5), .fieldAddr 9 (.tmp 1), none, 0, none⟩,
    ⟨(some 6), .load false 1 (.tmp 5), none, 0, none⟩,
    ⟨(some 7), .len (.tmp 6), none, 0, none⟩,
    ⟨(some 8), .bin .gtr (.tmp 7) (.const (.int .i64 (4))), none, 0, none⟩] []) (.cond (.tmp 8) (.seq (.region 0 [
    ⟨(some 2), .move (.const (.bool false)), none, 0, none⟩] []) (.ret)) (.skip))) (.seq (.seq (.region 0 [
    ⟨(some 9), .fieldAddr 9 (.tmp 1), none, 0, none⟩,
    ⟨(some 10), .load false 1 (.tmp 9), none, 0, none⟩,
    ⟨(some 11), .len (.tmp 10), none, 0, none⟩,
    ⟨(some 12), .move (.const (.int .i64 (0))), none, 0, none⟩] []) (.block 0 (.loop [1, 10, 11, 12] ⟨[(1, (.ptr 0 0 0)), (12, (.v (.int .i64)))], [10, 11], [.one false .job]⟩ (.seq (.region 0 [
    ⟨(some 13), .bin .lss (.tmp 12) (.tmp 11), none, 0, none⟩] []) (.seq (.cond (.tmp 13) (.skip) (.exit 0)) (.seq (.block 1 (.seq (.region 1 [
    ⟨(some 14), .indexSl 2 (.tmp 10) (.tmp 12), none, 0, none⟩,
    ⟨(some 15), .load true 2 (.tmp 14), none, 0, none⟩,
    ⟨(some 4), .alloc [.int .i64 (0), .bool false], none, 0, none⟩,
    ⟨none, .store 2 (.tmp 4) (.tmp 15), none, 1, none⟩] []) (.seq (.region 4 [
    ⟨(some 16), .fieldAddr 0 (.tmp 4), none, 0, none⟩,
    ⟨(some 17), .load false 1 (.tmp 16), none, 0, none⟩,
    ⟨(some 18), .fieldAddr 0 (.tmp 1), none, 0, none⟩,
    ⟨(some 19), .load false 1 (.tmp 18), none, 0, none⟩,
    ⟨(some 20), .bin .sub (.tmp 19) (.const (.int .i64 (1))), none, 0, none⟩,
    ⟨(some 21), .call (.func 89) [(false, (.tmp 17)), (false, (.const (.int .i64 (1)))), (false, (.tmp 20))] false 4, none, 0, none⟩,
    ⟨(some 22), .un .not (.tmp 21), none, 4, none⟩] []) (.cond (.tmp 22) (.seq (.region 0 [
    ⟨(some 2), .move (.const (.bool false)), none, 0, none⟩] []) (.ret)) (.skip))))) (.region 0 [
    ⟨(some 23), .bin .add (.tmp 12) (.const (.int .i64 (1))), none, 0, none⟩,
    ⟨(some 12), .move (.tmp 23), none, 0, none⟩] []))))))) (.seq (.region 0 [
    ⟨(some 2), .move (.const (.bool true)), none, 0, none⟩] []) (.ret)))), [.tmp 2], true⟩
def s90 : Sig := ⟨(.cons (.v .job) .nil), [], ((.v .bool), []), []⟩
def l90_0 (g89 : Int → Int → Int → Option Bool) (j0 : Job) (nx2 : ((Unit × (Int × Unit)) × (Job × Unit)) → Option Bool) (z3 : Int) (z4 : Job) : Option Bool :=
  cond (decide (z3 < (List.length j0.after : Int)))
  (cond (decide (0 ≤ z3))
  (Option.bind (j0.after[Int.toNat z3]?) fun y5 =>
  Option.bind (g89 y5.job 1 (IntKind.wrap .i64 (z4.id - 1))) fun r6 =>
  cond (!r6)
  (some false)
  (nx2 (((), IntKind.wrap .i64 (z3 + 1), ()), (z4, ()))))
  (none))
  (some true)
def F90 (L : Lp) (g89 : Int → Int → Int → Option Bool) (j0 : Job) : Option Bool :=
  cond (decide (4 < (List.length j0.after : Int)))
  (some false)
  (L (fun (s1 : ((Unit × (Int × Unit)) × (Job × Unit))) nx2 => l90_0 g89 j0 nx2 s1.1.2.1 s1.2.1) (((), 0, ()), (j0, ())))
theorem e90 (L : Lp) (g89 : Int → Int → Int → Option Bool) (x : s90.args.den) (h : denH s90.heap) : nrun [⟨89, s89, fun x h => g89 x.1 x.2.1 x.2.2.1⟩] L n90 s90 x h = F90 L g89 x.1 := by kernel_rfl
def f90 : Job → Option Bool := F90 (@LN LOOPS) f89
@[reducible] def t90 : Ent := ⟨90, s90, fun x h => f90 x.1⟩
theorem k90 : chkNF Tryd.prog Tryd.f90 n90 = true := by kernel_rfl
theorem ok90 : NOk Tryd.prog t90 := NOk.body (T := [t89]) mixed (nall_cons ok89 nall_nil) (oneEach_of (by kernel_rfl)) Tryd.func90 k90 (by kernel_rfl) (fun x h => e90 _ _ x h)
/- drayage/life.Name -/
def n109 : NFunc := ⟨16, .seq (.region 0 [
    ⟨(some 2), .move (.const (.str [])), none, 0, none⟩] []) (.seq (.seq (.region 0 [
    ⟨(some 3), .move (.tmp 0), none, 0, none⟩] []) (.block 0 (.seq (.region 0 [
    ⟨(some 5), .bin .eql (.tmp 3) (.const (.int .i64 (1))), none, 0, none⟩,
    ⟨(some 4), .move (.tmp 5), none, 0, none⟩] []) (.cond (.tmp 4) (.seq (.region 0 [
    ⟨(some 2), .move (.const (.str [113, 117, 101, 117, 101, 100])), none, 0, none⟩] []) (.ret)) (.seq (.region 0 [
    ⟨(some 7), .bin .eql (.tmp 3) (.const (.int .i64 (2))), none, 0, none⟩,
    ⟨(some 6), .move (.tmp 7), none, 0, none⟩] []) (.cond (.tmp 6) (.seq (.region 0 [
    ⟨(some 2), .move (.const (.str [104, 101, 108, 100])), none, 0, none⟩] []) (.ret)) (.seq (.region 0 [
    ⟨(some 9), .bin .eql (.tmp 3) (.const (.int .i64 (3))), none, 0, none⟩,
    ⟨(some 8), .move (.tmp 9), none, 0, none⟩] []) (.cond (.tmp 8) (.seq (.region 0 [
    ⟨(some 2), .move (.const (.str [114, 117, 110, 110, 105, 110, 103])), none, 0, none⟩] []) (.ret)) (.seq (.region 0 [
    ⟨(some 11), .bin .eql (.tmp 3) (.const (.int .i64 (4))), none, 0, none⟩,
    ⟨(some 10), .move (.tmp 11), none, 0, none⟩] []) (.cond (.tmp 10) (.seq (.region 0 [
    ⟨(some 2), .move (.const (.str [101, 120, 105, 116, 105, 110, 103])), none, 0, none⟩] []) (.ret)) (.seq (.region 0 [
    ⟨(some 13), .bin .eql (.tmp 3) (.const (.int .i64 (5))), none, 0, none⟩,
    ⟨(some 12), .move (.tmp 13), none, 0, none⟩] []) (.cond (.tmp 12) (.seq (.region 0 [
    ⟨(some 2), .move (.const (.str [99, 111, 109, 112, 108, 101, 116, 101, 100])), none, 0, none⟩] []) (.ret)) (.seq (.region 0 [
    ⟨(some 15), .bin .eql (.tmp 3) (.const (.int .i64 (6))), none, 0, none⟩,
    ⟨(some 14), .move (.tmp 15), none, 0, none⟩] []) (.cond (.tmp 14) (.seq (.region 0 [
    ⟨(some 2), .move (.const (.str [99, 97, 110, 99, 101, 108, 108, 101, 100])), none, 0, none⟩] []) (.ret)) (.skip))))))))))))))) (.seq (.region 0 [
    ⟨(some 2), .move (.const (.str [])), none, 0, none⟩] []) (.ret))), [.tmp 2], true⟩
def s109 : Sig := ⟨(.cons (.v (.int .i64)) .nil), [], ((.v .str), []), []⟩
def F109 (L : Lp)  (state0 : Int) : Option (List UInt8) :=
  cond (decide (state0 = 1))
  (some ([113, 117, 101, 117, 101, 100] : List UInt8))
  (cond (decide (state0 = 2))
  (some ([104, 101, 108, 100] : List UInt8))
  (cond (decide (state0 = 3))
  (some ([114, 117, 110, 110, 105, 110, 103] : List UInt8))
  (cond (decide (state0 = 4))
  (some ([101, 120, 105, 116, 105, 110, 103] : List UInt8))
  (cond (decide (state0 = 5))
  (some ([99, 111, 109, 112, 108, 101, 116, 101, 100] : List UInt8))
  (cond (decide (state0 = 6))
  (some ([99, 97, 110, 99, 101, 108, 108, 101, 100] : List UInt8))
  (some ([] : List UInt8)))))))
theorem e109 (L : Lp)  (x : s109.args.den) (h : denH s109.heap) : nrun [] L n109 s109 x h = F109 L  x.1 := by kernel_rfl
def f109 : Int → Option (List UInt8) := F109 (@LN LOOPS) 
@[reducible] def t109 : Ent := ⟨109, s109, fun x h => f109 x.1⟩
theorem k109 : chkNF Tryd.prog Tryd.f109 n109 = true := by kernel_rfl
theorem ok109 : NOk Tryd.prog t109 := NOk.body (T := []) mixed nall_nil (oneEach_of (by kernel_rfl)) Tryd.func109 k109 (by kernel_rfl) (fun x h => e109 _  x h)
/- drayage/life.Waits -/
def n93 : NFunc := ⟨9, .seq (.region 0 [
    ⟨(some 2), .move (.const (.bool false)), none, 0, none⟩] []) (.seq (.region 0 [
    ⟨(some 3), .move (.tmp 0), none, 0, none⟩,
    ⟨(some 4), .bin .eql (.tmp 3) (.const (.int .i64 (1))), none, 0, none⟩,
    ⟨(some 5), .move (.tmp 4), none, 0, none⟩,
    ⟨(some 6), .move (.tmp 0), (some (5, false)), 0, none⟩,
    ⟨(some 7), .bin .eql (.tmp 6) (.const (.int .i64 (2))), (some (5, false)), 0, none⟩,
    ⟨(some 8), .pick (.tmp 5) (.const (.bool true)) (.tmp 7), none, 0, none⟩,
    ⟨(some 2), .move (.tmp 8), none, 0, none⟩] []) (.ret)), [.tmp 2], true⟩
def s93 : Sig := ⟨(.cons (.v (.int .i64)) .nil), [], ((.v .bool), []), []⟩
def F93 (L : Lp)  (state0 : Int) : Option Bool :=
  cond (decide (state0 = 1))
  (some true)
  (some (decide (state0 = 2)))
theorem e93 (L : Lp)  (x : s93.args.den) (h : denH s93.heap) : nrun [] L n93 s93 x h = F93 L  x.1 := by kernel_rfl
def f93 : Int → Option Bool := F93 (@LN LOOPS) 
@[reducible] def t93 : Ent := ⟨93, s93, fun x h => f93 x.1⟩
theorem k93 : chkNF Tryd.prog Tryd.f93 n93 = true := by kernel_rfl
theorem ok93 : NOk Tryd.prog t93 := NOk.body (T := []) mixed nall_nil (oneEach_of (by kernel_rfl)) Tryd.func93 k93 (by kernel_rfl) (fun x h => e93 _  x h)
/- drayage/life.Over -/
def n96 : NFunc := ⟨9, .seq (.region 0 [
    ⟨(some 2), .move (.const (.bool false)), none, 0, none⟩] []) (.seq (.region 0 [
    ⟨(some 3), .move (.tmp 0), none, 0, none⟩,
    ⟨(some 4), .bin .eql (.tmp 3) (.const (.int .i64 (5))), none, 0, none⟩,
    ⟨(some 5), .move (.tmp 4), none, 0, none⟩,
    ⟨(some 6), .move (.tmp 0), (some (5, false)), 0, none⟩,
    ⟨(some 7), .bin .eql (.tmp 6) (.const (.int .i64 (6))), (some (5, false)), 0, none⟩,
    ⟨(some 8), .pick (.tmp 5) (.const (.bool true)) (.tmp 7), none, 0, none⟩,
    ⟨(some 2), .move (.tmp 8), none, 0, none⟩] []) (.ret)), [.tmp 2], true⟩
def s96 : Sig := ⟨(.cons (.v (.int .i64)) .nil), [], ((.v .bool), []), []⟩
def F96 (L : Lp)  (state0 : Int) : Option Bool :=
  cond (decide (state0 = 5))
  (some true)
  (some (decide (state0 = 6)))
theorem e96 (L : Lp)  (x : s96.args.den) (h : denH s96.heap) : nrun [] L n96 s96 x h = F96 L  x.1 := by kernel_rfl
def f96 : Int → Option Bool := F96 (@LN LOOPS) 
@[reducible] def t96 : Ent := ⟨96, s96, fun x h => f96 x.1⟩
theorem k96 : chkNF Tryd.prog Tryd.f96 n96 = true := by kernel_rfl
theorem ok96 : NOk Tryd.prog t96 := NOk.body (T := []) mixed nall_nil (oneEach_of (by kernel_rfl)) Tryd.func96 k96 (by kernel_rfl) (fun x h => e96 _  x h)
/- drayage/job.stateRight -/
def n91 : NFunc := ⟨53, .seq (.region 1 [
    ⟨(some 1), .box 18 (.tmp 0), none, 0, none⟩,
    ⟨(some 2), .move (.const (.bool false)), none, 1, none⟩] []) (.seq (.block 0 (.seq (.region 4 [
    ⟨(some 4), .fieldAddr 10 (.tmp 1), none, 0, none⟩,
    ⟨(some 5), .load false 1 (.tmp 4), none, 0, none⟩,
    ⟨(some 6), .call (.func 109) [(false, (.tmp 5))] false 4, none, 0, none⟩,
    ⟨(some 7), .bin .eql (.tmp 6) (.const (.str [])), none, 4, none⟩,
    ⟨(some 3), .move (.tmp 7), none, 4, none⟩] []) (.cond (.tmp 3) (.seq (.region 0 [
    ⟨(some 2), .move (.const (.bool false)), none, 0, none⟩] []) (.ret)) (.seq (.meet [1, 8] [] ⟨[(1, (.ptr 0 0 0)), (8, (.v .bool))], [], [.one false .job]⟩ (.region 4 [
    ⟨(some 9), .fieldAddr 15 (.tmp 1), none, 0, none⟩,
    ⟨(some 10), .load false 1 (.tmp 9), none, 0, none⟩,
    ⟨(some 11), .bin .neq (.tmp 10) (.const (.int .i64 (0))), none, 0, none⟩,
    ⟨(some 12), .move (.tmp 11), none, 0, none⟩,
    ⟨(some 13), .fieldAddr 10 (.tmp 1), (some (12, true)), 0, none⟩,
    ⟨(some 14), .load false 1 (.tmp 13), (some (12, true)), 0, none⟩,
    ⟨(some 15), .call (.func 93) [(false, (.tmp 14))] false 4, (some (12, true)), 0, none⟩,
    ⟨(some 16), .pick (.tmp 12) (.tmp 15) (.const (.bool false)), none, 4, none⟩,
    ⟨(some 8), .move (.tmp 16), none, 4, none⟩] [])) (.cond (.tmp 8) (.seq (.region 0 [
    ⟨(some 2), .move (.const (.bool false)), none, 0, none⟩] []) (.ret)) (.seq (.meet [1, 17] [] ⟨[(1, (.ptr 0 0 0)), (17, (.v .bool))], [], [.one false .job]⟩ (.region 4 [
    ⟨(some 18), .fieldAddr 16 (.tmp 1), none, 0, none⟩,
    ⟨(some 19), .load false 1 (.tmp 18), none, 0, none⟩,
    ⟨(some 20), .bin .neq (.tmp 19) (.const (.int .i64 (0))), none, 0, none⟩,
    ⟨(some 21), .move (.tmp 20), none, 0, none⟩,
    ⟨(some 22), .fieldAddr 10 (.tmp 1), (some (21, true)), 0, none⟩,
    ⟨(some 23), .load false 1 (.tmp 22), (some (21, true)), 0, none⟩,
    ⟨(some 24), .call (.func 96) [(false, (.tmp 23))] false 4, (some (21, true)), 0, none⟩,
    ⟨(some 25), .un .not (.tmp 24), (some (21, true)), 4, none⟩,
    ⟨(some 26), .pick (.tmp 21) (.tmp 25) (.const (.bool false)), none, 4, none⟩,
    ⟨(some 17), .move (.tmp 26), none, 4, none⟩] [])) (.cond (.tmp 17) (.seq (.region 0 [
    ⟨(some 2), .move (.const (.bool false)), none, 0, none⟩] []) (.ret)) (.seq (.meet [1, 27] [] ⟨[(1, (.ptr 0 0 0)), (27, (.v .bool))], [], [.one false .job]⟩ (.region 0 [
    ⟨(some 28), .fieldAddr 11 (.tmp 1), none, 0, none⟩,
    ⟨(some 29), .load false 1 (.tmp 28), none, 0, none⟩,
    ⟨(some 30), .move (.tmp 29), none, 0, none⟩,
    ⟨(some 31), .fieldAddr 10 (.tmp 1), (some (30, true)), 0, none⟩,
    ⟨(some 32), .load false 1 (.tmp 31), (some (30, true)), 0, none⟩,
    ⟨(some 33), .bin .neq (.tmp 32) (.const (.int .i64 (4))), (some (30, true)), 0, none⟩,
    ⟨(some 34), .pick (.tmp 30) (.tmp 33) (.const (.bool false)), none, 0, none⟩,
    ⟨(some 35), .move (.tmp 34), none, 0, none⟩,
    ⟨(some 36), .fieldAddr 10 (.tmp 1), (some (35, true)), 0, none⟩,
    ⟨(some 37), .load false 1 (.tmp 36), (some (35, true)), 0, none⟩,
    ⟨(some 38), .bin .neq (.tmp 37) (.const (.int .i64 (5))), (some (35, true)), 0, none⟩,
    ⟨(some 39), .pick (.tmp 35) (.tmp 38) (.const (.bool false)), none, 0, none⟩,
    ⟨(some 27), .move (.tmp 39), none, 0, none⟩] [])) (.cond (.tmp 27) (.seq (.region 0 [
    ⟨(some 2), .move (.const (.bool false)), none, 0, none⟩] []) (.ret)) (.seq (.region 0 [
    ⟨(some 41), .fieldAddr 12 (.tmp 1), none, 0, none⟩,
    ⟨(some 42), .load false 1 (.tmp 41), none, 0, none⟩,
    ⟨(some 43), .move (.tmp 42), none, 0, none⟩,
    ⟨(some 44), .fieldAddr 10 (.tmp 1), (some (43, true)), 0, none⟩,
    ⟨(some 45), .load false 1 (.tmp 44), (some (43, true)), 0, none⟩,
    ⟨(some 46), .bin .neq (.tmp 45) (.const (.int .i64 (4))), (some (43, true)), 0, none⟩,
    ⟨(some 47), .pick (.tmp 43) (.tmp 46) (.const (.bool false)), none, 0, none⟩,
    ⟨(some 48), .move (.tmp 47), none, 0, none⟩,
    ⟨(some 49), .fieldAddr 10 (.tmp 1), (some (48, true)), 0, none⟩,
    ⟨(some 50), .load false 1 (.tmp 49), (some (48, true)), 0, none⟩,
    ⟨(some 51), .bin .neq (.tmp 50) (.const (.int .i64 (6))), (some (48, true)), 0, none⟩,
    ⟨(some 52), .pick (.tmp 48) (.tmp 51) (.const (.bool false)), none, 0, none⟩,
    ⟨(some 40), .move (.tmp 52), none, 0, none⟩] []) (.cond (.tmp 40) (.seq (.region 0 [
    ⟨(some 2), .move (.const (.bool false)), none, 0, none⟩] []) (.ret)) (.skip)))))))))))) (.seq (.region 0 [
    ⟨(some 2), .move (.const (.bool true)), none, 0, none⟩] []) (.ret))), [.tmp 2], true⟩
def s91 : Sig := ⟨(.cons (.v .job) .nil), [], ((.v .bool), []), []⟩
def F91 (L : Lp) (g109 : Int → Option (List UInt8)) (g93 : Int → Option Bool) (g96 : Int → Option Bool) (j0 : Job) : Option Bool :=
  Option.bind (g109 j0.state) fun r1 =>
  cond (decide (r1 = ([] : List UInt8)))
  (some false)
  (Option.bind (α := ((Unit × (Bool × Unit)) × (Job × Unit)))
  (cond (!decide (j0.start = 0))
  (Option.bind (g93 j0.state) fun r2 =>
  some (((), r2, ()), (j0, ())))
  (some (((), false, ()), (j0, ())))) fun x3 =>
  cond x3.1.2.1
  (some false)
  (Option.bind (α := ((Unit × (Bool × Unit)) × (Job × Unit)))
  (cond (!decide (x3.2.1.fin = 0))
  (Option.bind (g96 x3.2.1.state) fun r4 =>
  some (((), !r4, ()), (x3.2.1, ())))
  (some (((), false, ()), (x3.2.1, ())))) fun x5 =>
  cond x5.1.2.1
  (some false)
  (Option.bind (α := ((Unit × (Bool × Unit)) × (Job × Unit)))
  (cond x5.2.1.ok
  (cond (!decide (x5.2.1.state = 4))
  (some (((), !decide (x5.2.1.state = 5), ()), (x5.2.1, ())))
  (some (((), false, ()), (x5.2.1, ()))))
  (some (((), false, ()), (x5.2.1, ())))) fun x6 =>
  cond x6.1.2.1
  (some false)
  (cond x6.2.1.kill
  (cond (!decide (x6.2.1.state = 4))
  (cond (!decide (x6.2.1.state = 6))
  (some false)
  (some true))
  (some true))
  (some true)))))
theorem e91 (L : Lp) (g109 : Int → Option (List UInt8)) (g93 : Int → Option Bool) (g96 : Int → Option Bool) (x : s91.args.den) (h : denH s91.heap) : nrun [⟨109, s109, fun x h => g109 x.1⟩, ⟨93, s93, fun x h => g93 x.1⟩, ⟨96, s96, fun x h => g96 x.1⟩] L n91 s91 x h = F91 L g109 g93 g96 x.1 := by kernel_rfl
def f91 : Job → Option Bool := F91 (@LN LOOPS) f109 f93 f96
@[reducible] def t91 : Ent := ⟨91, s91, fun x h => f91 x.1⟩
theorem k91 : chkNF Tryd.prog Tryd.f91 n91 = true := by kernel_rfl
theorem ok91 : NOk Tryd.prog t91 := NOk.body (T := [t109, t93, t96]) mixed (nall_cons ok109 (nall_cons ok93 (nall_cons ok96 nall_nil))) (oneEach_of (by kernel_rfl)) Tryd.func91 k91 (by kernel_rfl) (fun x h => e91 _ _ _ _ x h)
/- drayage/job.Right -/
def n77 : NFunc := ⟨72, .seq (.region 1 [
    ⟨(some 1), .box 18 (.tmp 0), none, 0, none⟩,
    ⟨(some 2), .move (.const (.bool false)), none, 1, none⟩] []) (.seq (.region 52 [
    ⟨(some 3), .fieldAddr 0 (.tmp 1), none, 0, none⟩,
    ⟨(some 4), .load false 1 (.tmp 3), none, 0, none⟩,
    ⟨(some 5), .call (.func 89) [(false, (.tmp 4)), (false, (.const (.int .i64 (1)))), (false, (.const (.int .i64 (1048576))))] false 4, none, 0, none⟩,
    ⟨(some 6), .move (.tmp 5), none, 4, none⟩,
    ⟨(some 7), .fieldAddr 1 (.tmp 1), (some (6, true)), 4, none⟩,
    ⟨(some 8), .load false 1 (.tmp 7), (some (6, true)), 4, none⟩,
    ⟨(some 9), .call (.func 89) [(false, (.tmp 8)), (false, (.const (.int .i64 (0)))), (false, (.const (.int .i64 (7))))] false 4, (some (6, true)), 4, none⟩,
    ⟨(some 10), .pick (.tmp 6) (.tmp 9) (.const (.bool false)), none, 8, none⟩,
    ⟨(some 11), .move (.tmp 10), none, 8, none⟩,
    ⟨(some 12), .fieldAddr 2 (.tmp 1), (some (11, true)), 8, none⟩,
    ⟨(some 13), .load false 1 (.tmp 12), (some (11, true)), 8, none⟩,
    ⟨(some 14), .call (.func 89) [(false, (.tmp 13)), (false, (.const (.int .i64 (0)))), (false, (.const (.int .i64 (7))))] false 4, (some (11, true)), 8, none⟩,
    ⟨(some 15), .pick (.tmp 11) (.tmp 14) (.const (.bool false)), none, 12, none⟩,
    ⟨(some 16), .move (.tmp 15), none, 12, none⟩,
    ⟨(some 17), .fieldAddr 3 (.tmp 1), (some (16, true)), 12, none⟩,
    ⟨(some 18), .load false 1 (.tmp 17), (some (16, true)), 12, none⟩,
    ⟨(some 19), .call (.func 89) [(false, (.tmp 18)), (false, (.const (.int .i64 (1)))), (false, (.const (.int .i64 (64))))] false 4, (some (16, true)), 12, none⟩,
    ⟨(some 20), .pick (.tmp 16) (.tmp 19) (.const (.bool false)), none, 16, none⟩,
    ⟨(some 21), .move (.tmp 20), none, 16, none⟩,
    ⟨(some 22), .fieldAddr 4 (.tmp 1), (some (21, true)), 16, none⟩,
    ⟨(some 23), .load true 4 (.tmp 22), (some (21, true)), 16, none⟩,
    ⟨(some 24), .call (.func 59) [(false, (.tmp 23))] false 4, (some (21, true)), 16, none⟩,
    ⟨(some 25), .pick (.tmp 21) (.tmp 24) (.const (.bool false)), none, 20, none⟩,
    ⟨(some 26), .move (.tmp 25), none, 20, none⟩,
    ⟨(some 27), .fieldAddr 4 (.tmp 1), (some (26, true)), 20, none⟩,
    ⟨(some 28), .load true 4 (.tmp 27), (some (26, true)), 20, none⟩,
    ⟨(some 29), .build [.int .i64 (0), .int .i64 (0), .int .i64 (0), .int .i64 (0)] [], (some (26, true)), 20, none⟩,
    ⟨(some 30), .eqAgg (true, [.int .i64, .int .i64, .int .i64, .int .i64]) (.tmp 28) (.tmp 29), (some (26, true)), 20, none⟩,
    ⟨(some 31), .pick (.tmp 26) (.tmp 30) (.const (.bool false)), none, 20, none⟩,
    ⟨(some 32), .move (.tmp 31), none, 20, none⟩,
    ⟨(some 33), .fieldAddr 8 (.tmp 1), (some (32, true)), 20, none⟩,
    ⟨(some 34), .load false 1 (.tmp 33), (some (32, true)), 20, none⟩,
    ⟨(some 35), .call (.func 89) [(false, (.tmp 34)), (false, (.const (.int .i64 (1)))), (false, (.const (.int .i64 (65536))))] false 4, (some (32, true)), 20, none⟩,
    ⟨(some 36), .pick (.tmp 32) (.tmp 35) (.const (.bool false)), none, 24, none⟩,
    ⟨(some 37), .move (.tmp 36), none, 24, none⟩,
    ⟨(some 38), .load true 18 (.tmp 1), (some (37, true)), 24, none⟩,
    ⟨(some 39), .call (.func 90) [(false, (.tmp 38))] false 4, (some (37, true)), 24, none⟩,
    ⟨(some 40), .pick (.tmp 37) (.tmp 39) (.const (.bool false)), none, 28, none⟩,
    ⟨(some 41), .move (.tmp 40), none, 28, none⟩,
    ⟨(some 42), .fieldAddr 13 (.tmp 1), (some (41, true)), 28, none⟩,
    ⟨(some 43), .load false 1 (.tmp 42), (some (41, true)), 28, none⟩,
    ⟨(some 44), .call (.func 89) [(false, (.tmp 43)), (false, (.const (.int .i64 (1)))), (false, (.const (.int .i64 (281474976710656))))] false 4, (some (41, true)), 28, none⟩,
    ⟨(some 45), .pick (.tmp 41) (.tmp 44) (.const (.bool false)), none, 32, none⟩,
    ⟨(some 46), .move (.tmp 45), none, 32, none⟩,
    ⟨(some 47), .fieldAddr 14 (.tmp 1), (some (46, true)), 32, none⟩,
    ⟨(some 48), .load false 1 (.tmp 47), (some (46, true)), 32, none⟩,
    ⟨(some 49), .call (.func 89) [(false, (.tmp 48)), (false, (.const (.int .i64 (0)))), (false, (.const (.int .i64 (1099511627776))))] false 4, (some (46, true)), 32, none⟩,
    ⟨(some 50), .pick (.tmp 46) (.tmp 49) (.const (.bool false)), none, 36, none⟩,
    ⟨(some 51), .move (.tmp 50), none, 36, none⟩,
    ⟨(some 52), .fieldAddr 15 (.tmp 1), (some (51, true)), 36, none⟩,
    ⟨(some 53), .load false 1 (.tmp 52), (some (51, true)), 36, none⟩,
    ⟨(some 54), .call (.func 89) [(false, (.tmp 53)), (false, (.const (.int .i64 (0)))), (false, (.const (.int .i64 (1099511627776))))] false 4, (some (51, true)), 36, none⟩,
    ⟨(some 55), .pick (.tmp 51) (.tmp 54) (.const (.bool false)), none, 40, none⟩,
    ⟨(some 56), .move (.tmp 55), none, 40, none⟩,
    ⟨(some 57), .fieldAddr 16 (.tmp 1), (some (56, true)), 40, none⟩,
    ⟨(some 58), .load false 1 (.tmp 57), (some (56, true)), 40, none⟩,
    ⟨(some 59), .call (.func 89) [(false, (.tmp 58)), (false, (.const (.int .i64 (0)))), (false, (.const (.int .i64 (1099511627776))))] false 4, (some (56, true)), 40, none⟩,
    ⟨(some 60), .pick (.tmp 56) (.tmp 59) (.const (.bool false)), none, 44, none⟩,
    ⟨(some 61), .move (.tmp 60), none, 44, none⟩,
    ⟨(some 62), .fieldAddr 17 (.tmp 1), (some (61, true)), 44, none⟩,
    ⟨(some 63), .load false 1 (.tmp 62), (some (61, true)), 44, none⟩,
    ⟨(some 64), .fieldAddr 0 (.tmp 1), (some (61, true)), 44, none⟩,
    ⟨(some 65), .load false 1 (.tmp 64), (some (61, true)), 44, none⟩,
    ⟨(some 66), .call (.func 89) [(false, (.tmp 63)), (false, (.const (.int .i64 (0)))), (false, (.tmp 65))] false 4, (some (61, true)), 44, none⟩,
    ⟨(some 67), .pick (.tmp 61) (.tmp 66) (.const (.bool false)), none, 48, none⟩,
    ⟨(some 68), .move (.tmp 67), none, 48, none⟩,
    ⟨(some 69), .load true 18 (.tmp 1), (some (68, true)), 48, none⟩,
    ⟨(some 70), .call (.func 91) [(false, (.tmp 69))] false 4, (some (68, true)), 48, none⟩,
    ⟨(some 71), .pick (.tmp 68) (.tmp 70) (.const (.bool false)), none, 52, none⟩,
    ⟨(some 2), .move (.tmp 71), none, 52, none⟩] []) (.ret)), [.tmp 2], true⟩
def s77 : Sig := ⟨(.cons (.v .job) .nil), [], ((.v .bool), []), []⟩
def F77 (L : Lp) (g89 : Int → Int → Int → Option Bool) (g59 : Res → Option Bool) (g90 : Job → Option Bool) (g91 : Job → Option Bool) (j0 : Job) : Option Bool :=
  Option.bind (g89 j0.id 1 1048576) fun r1 =>
  cond r1
  (Option.bind (g89 j0.user 0 7) fun r2 =>
  cond r2
  (Option.bind (g89 j0.queue 0 7) fun r3 =>
  cond r3
  (Option.bind (g89 j0.many 1 64) fun r4 =>
  cond r4
  (Option.bind (g59 j0.need) fun r5 =>
  cond r5
  (cond (!((decide (j0.need.cpu = 0)) && ((decide (j0.need.mem = 0)) && ((decide (j0.need.gpu = 0)) && ((decide (j0.need.lic = 0)) && true)))))
  (Option.bind (g89 j0.wall 1 65536) fun r6 =>
  cond r6
  (Option.bind (g90 j0) fun r7 =>
  cond r7
  (Option.bind (g89 j0.version 1 281474976710656) fun r8 =>
  cond r8
  (Option.bind (g89 j0.born 0 1099511627776) fun r9 =>
  cond r9
  (Option.bind (g89 j0.start 0 1099511627776) fun r10 =>
  cond r10
  (Option.bind (g89 j0.fin 0 1099511627776) fun r11 =>
  cond r11
  (Option.bind (g89 j0.array 0 j0.id) fun r12 =>
  cond r12
  (Option.bind (g91 j0) fun r13 =>
  some r13)
  (some false))
  (some false))
  (some false))
  (some false))
  (some false))
  (some false))
  (some false))
  (some false))
  (some false))
  (some false))
  (some false))
  (some false))
  (some false)
theorem e77 (L : Lp) (g89 : Int → Int → Int → Option Bool) (g59 : Res → Option Bool) (g90 : Job → Option Bool) (g91 : Job → Option Bool) (x : s77.args.den) (h : denH s77.heap) : nrun [⟨89, s89, fun x h => g89 x.1 x.2.1 x.2.2.1⟩, ⟨59, s59, fun x h => g59 x.1⟩, ⟨90, s90, fun x h => g90 x.1⟩, ⟨91, s91, fun x h => g91 x.1⟩] L n77 s77 x h = F77 L g89 g59 g90 g91 x.1 := by kernel_rfl
def f77 : Job → Option Bool := F77 (@LN LOOPS) f89 f59 f90 f91
@[reducible] def t77 : Ent := ⟨77, s77, fun x h => f77 x.1⟩
theorem k77 : chkNF Tryd.prog Tryd.f77 n77 = true := by kernel_rfl
theorem ok77 : NOk Tryd.prog t77 := NOk.body (T := [t89, t59, t90, t91]) mixed (nall_cons ok89 (nall_cons ok59 (nall_cons ok90 (nall_cons ok91 nall_nil)))) (oneEach_of (by kernel_rfl)) Tryd.func77 k77 (by kernel_rfl) (fun x h => e77 _ _ _ _ _ x h)
/- drayage/life.Has -/
def n110 : NFunc := ⟨9, .seq (.region 0 [
    ⟨(some 2), .move (.const (.bool false)), none, 0, none⟩] []) (.seq (.region 0 [
    ⟨(some 3), .move (.tmp 0), none, 0, none⟩,
    ⟨(some 4), .bin .eql (.tmp 3) (.const (.int .i64 (3))), none, 0, none⟩,
    ⟨(some 5), .move (.tmp 4), none, 0, none⟩,
    ⟨(some 6), .move (.tmp 0), (some (5, false)), 0, none⟩,
    ⟨(some 7), .bin .eql (.tmp 6) (.const (.int .i64 (4))), (some (5, false)), 0, none⟩,
    ⟨(some 8), .pick (.tmp 5) (.const (.bool true)) (.tmp 7), none, 0, none⟩,
    ⟨(some 2), .move (.tmp 8), none, 0, none⟩] []) (.ret)), [.tmp 2], true⟩
def s110 : Sig := ⟨(.cons (.v (.int .i64)) .nil), [], ((.v .bool), []), []⟩
def F110 (L : Lp)  (state0 : Int) : Option Bool :=
  cond (decide (state0 = 3))
  (some true)
  (some (decide (state0 = 4)))
theorem e110 (L : Lp)  (x : s110.args.den) (h : denH s110.heap) : nrun [] L n110 s110 x h = F110 L  x.1 := by kernel_rfl
def f110 : Int → Option Bool := F110 (@LN LOOPS) 
@[reducible] def t110 : Ent := ⟨110, s110, fun x h => f110 x.1⟩
theorem k110 : chkNF Tryd.prog Tryd.f110 n110 = true := by kernel_rfl
theorem ok110 : NOk Tryd.prog t110 := NOk.body (T := []) mixed nall_nil (oneEach_of (by kernel_rfl)) Tryd.func110 k110 (by kernel_rfl) (fun x h => e110 _  x h)
/- drayage/life.Next -/
def n92 : NFunc := ⟨69, .seq (.region 0 [
    ⟨(some 4), .move (.const (.int .i64 (0))), none, 0, none⟩,
    ⟨(some 5), .move (.const (.bool false)), none, 0, none⟩] []) (.seq (.block 0 (.seq (.meet [0, 1, 6] [] ⟨[(6, (.v .bool))], [0, 1], []⟩ (.region 0 [
    ⟨(some 7), .move (.tmp 1), none, 0, none⟩,
    ⟨(some 8), .bin .eql (.tmp 7) (.const (.int .i64 (1))), none, 0, none⟩,
    ⟨(some 9), .move (.tmp 8), none, 0, none⟩,
    ⟨(some 10), .move (.tmp 0), (some (9, true)), 0, none⟩,
    ⟨(some 11), .bin .eql (.tmp 10) (.const (.int .i64 (1))), (some (9, true)), 0, none⟩,
    ⟨(some 12), .pick (.tmp 9) (.tmp 11) (.const (.bool false)), none, 0, none⟩,
    ⟨(some 6), .move (.tmp 12), none, 0, none⟩] [])) (.cond (.tmp 6) (.seq (.region 0 [
    ⟨(some 4), .move (.const (.int .i64 (2))), none, 0, none⟩,
    ⟨(some 5), .move (.const (.bool true)), none, 0, none⟩] []) (.ret)) (.seq (.meet [0, 1, 13] [] ⟨[(13, (.v .bool))], [0, 1], []⟩ (.region 0 [
    ⟨(some 14), .move (.tmp 1), none, 0, none⟩,
    ⟨(some 15), .bin .eql (.tmp 14) (.const (.int .i64 (2))), none, 0, none⟩,
    ⟨(some 16), .move (.tmp 15), none, 0, none⟩,
    ⟨(some 17), .move (.tmp 0), (some (16, true)), 0, none⟩,
    ⟨(some 18), .bin .eql (.tmp 17) (.const (.int .i64 (2))), (some (16, true)), 0, none⟩,
    ⟨(some 19), .pick (.tmp 16) (.tmp 18) (.const (.bool false)), none, 0, none⟩,
    ⟨(some 13), .move (.tmp 19), none, 0, none⟩] [])) (.cond (.tmp 13) (.seq (.region 0 [
    ⟨(some 4), .move (.const (.int .i64 (1))), none, 0, none⟩,
    ⟨(some 5), .move (.const (.bool true)), none, 0, none⟩] []) (.ret)) (.seq (.meet [0, 1, 20] [] ⟨[(20, (.v .bool))], [0, 1], []⟩ (.region 0 [
    ⟨(some 21), .move (.tmp 1), none, 0, none⟩,
    ⟨(some 22), .bin .eql (.tmp 21) (.const (.int .i64 (3))), none, 0, none⟩,
    ⟨(some 23), .move (.tmp 22), none, 0, none⟩,
    ⟨(some 24), .move (.tmp 0), (some (23, true)), 0, none⟩,
    ⟨(some 25), .bin .eql (.tmp 24) (.const (.int .i64 (1))), (some (23, true)), 0, none⟩,
    ⟨(some 26), .pick (.tmp 23) (.tmp 25) (.const (.bool false)), none, 0, none⟩,
    ⟨(some 20), .move (.tmp 26), none, 0, none⟩] [])) (.cond (.tmp 20) (.seq (.region 0 [
    ⟨(some 4), .move (.const (.int .i64 (3))), none, 0, none⟩,
    ⟨(some 5), .move (.const (.bool true)), none, 0, none⟩] []) (.ret)) (.seq (.meet [0, 1, 27] [] ⟨[(27, (.v .bool))], [0, 1], []⟩ (.region 0 [
    ⟨(some 28), .move (.tmp 1), none, 0, none⟩,
    ⟨(some 29), .bin .eql (.tmp 28) (.const (.int .i64 (4))), none, 0, none⟩,
    ⟨(some 30), .move (.tmp 29), none, 0, none⟩,
    ⟨(some 31), .move (.tmp 0), (some (30, true)), 0, none⟩,
    ⟨(some 32), .bin .eql (.tmp 31) (.const (.int .i64 (3))), (some (30, true)), 0, none⟩,
    ⟨(some 33), .pick (.tmp 30) (.tmp 32) (.const (.bool false)), none, 0, none⟩,
    ⟨(some 27), .move (.tmp 33), none, 0, none⟩] [])) (.cond (.tmp 27) (.seq (.region 0 [
    ⟨(some 4), .move (.const (.int .i64 (1))), none, 0, none⟩,
    ⟨(some 5), .move (.const (.bool true)), none, 0, none⟩] []) (.ret)) (.seq (.meet [0, 1, 34] [] ⟨[(34, (.v .bool))], [0, 1], []⟩ (.region 0 [
    ⟨(some 35), .move (.tmp 1), none, 0, none⟩,
    ⟨(some 36), .bin .eql (.tmp 35) (.const (.int .i64 (5))), none, 0, none⟩,
    ⟨(some 37), .move (.tmp 36), none, 0, none⟩,
    ⟨(some 38), .move (.tmp 0), (some (37, true)), 0, none⟩,
    ⟨(some 39), .bin .eql (.tmp 38) (.const (.int .i64 (3))), (some (37, true)), 0, none⟩,
    ⟨(some 40), .pick (.tmp 37) (.tmp 39) (.const (.bool false)), none, 0, none⟩,
    ⟨(some 34), .move (.tmp 40), none, 0, none⟩] [])) (.cond (.tmp 34) (.seq (.region 0 [
    ⟨(some 4), .move (.const (.int .i64 (4))), none, 0, none⟩,
    ⟨(some 5), .move (.const (.bool true)), none, 0, none⟩] []) (.ret)) (.seq (.meet [0, 1, 41] [] ⟨[(41, (.v .bool))], [0, 1], []⟩ (.region 0 [
    ⟨(some 42), .move (.tmp 1), none, 0, none⟩,
    ⟨(some 43), .bin .eql (.tmp 42) (.const (.int .i64 (6))), none, 0, none⟩,
    ⟨(some 44), .move (.tmp 43), none, 0, none⟩,
    ⟨(some 45), .move (.tmp 0), (some (44, true)), 0, none⟩,
    ⟨(some 46), .bin .eql (.tmp 45) (.const (.int .i64 (3))), (some (44, true)), 0, none⟩,
    ⟨(some 47), .pick (.tmp 44) (.tmp 46) (.const (.bool false)), none, 0, none⟩,
    ⟨(some 41), .move (.tmp 47), none, 0, none⟩] [])) (.cond (.tmp 41) (.seq (.region 0 [
    ⟨(some 4), .move (.const (.int .i64 (4))), none, 0, none⟩,
    ⟨(some 5), .move (.const (.bool true)), none, 0, none⟩] []) (.ret)) (.seq (.region 4 [
    ⟨(some 49), .move (.tmp 1), none, 0, none⟩,
    ⟨(some 50), .bin .eql (.tmp 49) (.const (.int .i64 (6))), none, 0, none⟩,
    ⟨(some 51), .move (.tmp 50), none, 0, none⟩,
    ⟨(some 52), .move (.tmp 0), (some (51, true)), 0, none⟩,
    ⟨(some 53), .call (.func 93) [(false, (.tmp 52))] false 4, (some (51, true)), 0, none⟩,
    ⟨(some 54), .pick (.tmp 51) (.tmp 53) (.const (.bool false)), none, 4, none⟩,
    ⟨(some 48), .move (.tmp 54), none, 4, none⟩] []) (.cond (.tmp 48) (.seq (.region 0 [
    ⟨(some 4), .move (.const (.int .i64 (6))), none, 0, none⟩,
    ⟨(some 5), .move (.const (.bool true)), none, 0, none⟩] []) (.ret)) (.seq (.region 4 [
    ⟨(some 56), .move (.tmp 1), none, 0, none⟩,
    ⟨(some 57), .bin .eql (.tmp 56) (.const (.int .i64 (7))), none, 0, none⟩,
    ⟨(some 58), .move (.tmp 57), none, 0, none⟩,
    ⟨(some 59), .move (.tmp 0), (some (58, true)), 0, none⟩,
    ⟨(some 60), .call (.func 110) [(false, (.tmp 59))] false 4, (some (58, true)), 0, none⟩,
    ⟨(some 61), .pick (.tmp 58) (.tmp 60) (.const (.bool false)), none, 4, none⟩,
    ⟨(some 55), .move (.tmp 61), none, 4, none⟩] []) (.cond (.tmp 55) (.seq (.region 0 [
    ⟨(some 4), .move (.const (.int .i64 (5))), none, 0, none⟩,
    ⟨(some 5), .move (.const (.bool true)), none, 0, none⟩] []) (.ret)) (.seq (.region 0 [
    ⟨(some 63), .move (.tmp 1), none, 0, none⟩,
    ⟨(some 64), .bin .eql (.tmp 63) (.const (.int .i64 (8))), none, 0, none⟩,
    ⟨(some 65), .move (.tmp 64), none, 0, none⟩,
    ⟨(some 66), .move (.tmp 0), (some (65, true)), 0, none⟩,
    ⟨(some 67), .bin .eql (.tmp 66) (.const (.int .i64 (4))), (some (65, true)), 0, none⟩,
    ⟨(some 68), .pick (.tmp 65) (.tmp 67) (.const (.bool false)), none, 0, none⟩,
    ⟨(some 62), .move (.tmp 68), none, 0, none⟩] []) (.cond (.tmp 62) (.seq (.region 0 [
    ⟨(some 4), .move (.const (.int .i64 (6))), none, 0, none⟩,
    ⟨(some 5), .move (.const (.bool true)), none, 0, none⟩] []) (.ret)) (.skip)))))))))))))))))))) (.seq (.region 0 [
    ⟨(some 4), .move (.const (.int .i64 (0))), none, 0, none⟩,
    ⟨(some 5), .move (.const (.bool false)), none, 0, none⟩] []) (.ret))), [.tmp 4, .tmp 5], true⟩
def s92 : Sig := ⟨(.cons (.v (.int .i64)) (.cons (.v (.int .i64)) .nil)), [], ((.tup (.cons (.v (.int .i64)) (.cons (.v .bool) .nil))), []), []⟩
def F92 (L : Lp) (g93 : Int → Option Bool) (g110 : Int → Option Bool) (state0 : Int) (what1 : Int) : Option (Int × (Bool × Unit)) :=
  Option.bind (α := ((Bool × Unit) × Unit))
  (cond (decide (what1 = 1))
  (some ((decide (state0 = 1), ()), ()))
  (some ((false, ()), ()))) fun x2 =>
  cond x2.1.1
  (some (2, true, ()))
  (Option.bind (α := ((Bool × Unit) × Unit))
  (cond (decide (what1 = 2))
  (some ((decide (state0 = 2), ()), ()))
  (some ((false, ()), ()))) fun x3 =>
  cond x3.1.1
  (some (1, true, ()))
  (Option.bind (α := ((Bool × Unit) × Unit))
  (cond (decide (what1 = 3))
  (some ((decide (state0 = 1), ()), ()))
  (some ((false, ()), ()))) fun x4 =>
  cond x4.1.1
  (some (3, true, ()))
  (Option.bind (α := ((Bool × Unit) × Unit))
  (cond (decide (what1 = 4))
  (some ((decide (state0 = 3), ()), ()))
  (some ((false, ()), ()))) fun x5 =>
  cond x5.1.1
  (some (1, true, ()))
  (Option.bind (α := ((Bool × Unit) × Unit))
  (cond (decide (what1 = 5))
  (some ((decide (state0 = 3), ()), ()))
  (some ((false, ()), ()))) fun x6 =>
  cond x6.1.1
  (some (4, true, ()))
  (Option.bind (α := ((Bool × Unit) × Unit))
  (cond (decide (what1 = 6))
  (some ((decide (state0 = 3), ()), ()))
  (some ((false, ()), ()))) fun x7 =>
  cond x7.1.1
  (some (4, true, ()))
  (cond (decide (what1 = 6))
  (Option.bind (g93 state0) fun r8 =>
  cond r8
  (some (6, true, ()))
  (cond (decide (what1 = 7))
  (Option.bind (g110 state0) fun r9 =>
  cond r9
  (some (5, true, ()))
  (cond (decide (what1 = 8))
  (cond (decide (state0 = 4))
  (some (6, true, ()))
  (some (0, false, ())))
  (some (0, false, ()))))
  (cond (decide (what1 = 8))
  (cond (decide (state0 = 4))
  (some (6, true, ()))
  (some (0, false, ())))
  (some (0, false, ())))))
  (cond (decide (what1 = 7))
  (Option.bind (g110 state0) fun r10 =>
  cond r10
  (some (5, true, ()))
  (cond (decide (what1 = 8))
  (cond (decide (state0 = 4))
  (some (6, true, ()))
  (some (0, false, ())))
  (some (0, false, ()))))
  (cond (decide (what1 = 8))
  (cond (decide (state0 = 4))
  (some (6, true, ()))
  (some (0, false, ())))
  (some (0, false, ()))))))))))
theorem e92 (L : Lp) (g93 : Int → Option Bool) (g110 : Int → Option Bool) (x : s92.args.den) (h : denH s92.heap) : nrun [⟨93, s93, fun x h => g93 x.1⟩, ⟨110, s110, fun x h => g110 x.1⟩] L n92 s92 x h = F92 L g93 g110 x.1 x.2.1 := by kernel_rfl
def f92 : Int → Int → Option (Int × (Bool × Unit)) := F92 (@LN LOOPS) f93 f110
@[reducible] def t92 : Ent := ⟨92, s92, fun x h => f92 x.1 x.2.1⟩
theorem k92 : chkNF Tryd.prog Tryd.f92 n92 = true := by kernel_rfl
theorem ok92 : NOk Tryd.prog t92 := NOk.body (T := [t93, t110]) mixed (nall_cons ok93 (nall_cons ok110 nall_nil)) (oneEach_of (by kernel_rfl)) Tryd.func92 k92 (by kernel_rfl) (fun x h => e92 _ _ _ x h)
/- drayage/vec.Times -/
def s111 : Sig := ⟨(.cons (.v .res) (.cons (.v (.int .i64)) .nil)), [], ((.tup (.cons (.v .res) (.cons (.v (.int .i64)) .nil))), []), []⟩
def f111 : Res → Int → Option (Res × (Int × Unit)) := vecTimes
@[reducible] def t111 : Ent := ⟨111, s111, fun x h => f111 x.1 x.2.1⟩
theorem ok111 : NOk Tryd.prog t111 := ext111
/- drayage/submit.Demand -/
def n94 : NFunc := ⟨42, .seq (.region 1 [
    ⟨(some 1), .box 17 (.tmp 0), none, 0, none⟩,
    ⟨(some 2), .move (.const (.int .i64 (0))), none, 1, none⟩] []) (.seq (.seq (.region 4 [
    ⟨(some 5), .fieldAddr 5 (.tmp 1), none, 0, none⟩,
    ⟨(some 6), .load false 1 (.tmp 5), none, 0, none⟩,
    ⟨(some 7), .bin .lss (.tmp 6) (.const (.int .i64 (1))), none, 0, none⟩,
    ⟨(some 8), .move (.tmp 7), none, 0, none⟩,
    ⟨(some 9), .fieldAddr 5 (.tmp 1), (some (8, false)), 0, none⟩,
    ⟨(some 10), .load false 1 (.tmp 9), (some (8, false)), 0, none⟩,
    ⟨(some 11), .bin .gtr (.tmp 10) (.const (.int .i64 (64))), (some (8, false)), 0, none⟩,
    ⟨(some 12), .pick (.tmp 8) (.const (.bool true)) (.tmp 11), none, 0, none⟩,
    ⟨(some 13), .move (.tmp 12), none, 0, none⟩,
    ⟨(some 14), .fieldAddr 6 (.tmp 1), (some (13, false)), 0, none⟩,
    ⟨(some 15), .load true 4 (.tmp 14), (some (13, false)), 0, none⟩,
    ⟨(some 16), .call (.func 59) [(false, (.tmp 15))] false 4, (some (13, false)), 0, none⟩,
    ⟨(some 17), .un .not (.tmp 16), (some (13, false)), 4, none⟩,
    ⟨(some 18), .pick (.tmp 13) (.const (.bool true)) (.tmp 17), none, 4, none⟩,
    ⟨(some 19), .move (.tmp 18), none, 4, none⟩,
    ⟨(some 20), .fieldAddr 6 (.tmp 1), (some (19, false)), 4, none⟩,
    ⟨(some 21), .load true 4 (.tmp 20), (some (19, false)), 4, none⟩,
    ⟨(some 22), .build [.int .i64 (0), .int .i64 (0), .int .i64 (0), .int .i64 (0)] [], (some (19, false)), 4, none⟩,
    ⟨(some 23), .eqAgg (false, [.int .i64, .int .i64, .int .i64, .int .i64]) (.tmp 21) (.tmp 22), (some (19, false)), 4, none⟩,
    ⟨(some 24), .pick (.tmp 19) (.const (.bool true)) (.tmp 23), none, 4, none⟩] []) (.cond (.tmp 24) (.seq (.region 0 [
    ⟨(some 2), .move (.const (.int .i64 (2))), none, 0, none⟩] []) (.ret)) (.skip))) (.seq (.seq (.region 0 [
    ⟨(some 25), .fieldAddr 10 (.tmp 1), none, 0, none⟩,
    ⟨(some 26), .load false 1 (.tmp 25), none, 0, none⟩,
    ⟨(some 27), .bin .lss (.tmp 26) (.const (.int .i64 (1))), none, 0, none⟩,
    ⟨(some 28), .move (.tmp 27), none, 0, none⟩,
    ⟨(some 29), .fieldAddr 10 (.tmp 1), (some (28, false)), 0, none⟩,
    ⟨(some 30), .load false 1 (.tmp 29), (some (28, false)), 0, none⟩,
    ⟨(some 31), .bin .gtr (.tmp 30) (.const (.int .i64 (65536))), (some (28, false)), 0, none⟩,
    ⟨(some 32), .pick (.tmp 28) (.const (.bool true)) (.tmp 31), none, 0, none⟩] []) (.cond (.tmp 32) (.seq (.region 0 [
    ⟨(some 2), .move (.const (.int .i64 (2))), none, 0, none⟩] []) (.ret)) (.skip))) (.seq (.region 5 [
    ⟨(some 34), .fieldAddr 6 (.tmp 1), none, 0, none⟩,
    ⟨(some 35), .load true 4 (.tmp 34), none, 0, none⟩,
    ⟨(some 36), .fieldAddr 5 (.tmp 1), none, 0, none⟩,
    ⟨(some 37), .load false 1 (.tmp 36), none, 0, none⟩,
    ⟨(some 38), .call (.func 111) [(false, (.tmp 35)), (false, (.tmp 37))] false 4, none, 0, none⟩,
    ⟨(some 33), .move (.tmp 38), none, 4, none⟩,
    ⟨(some 39), .extract (.tmp 33) 0, none, 4, none⟩,
    ⟨(some 40), .extract (.tmp 33) 1, none, 4, none⟩,
    ⟨(some 3), .alloc [.int .i64 (0), .int .i64 (0), .int .i64 (0), .int .i64 (0)], none, 4, none⟩,
    ⟨none, .store 4 (.tmp 3) (.tmp 39), none, 5, none⟩,
    ⟨(some 4), .move (.tmp 40), none, 5, none⟩] []) (.seq (.region 0 [
    ⟨(some 41), .move (.tmp 4), none, 0, none⟩,
    ⟨(some 2), .move (.tmp 41), none, 0, none⟩] []) (.ret))))), [.tmp 2], true⟩
def s94 : Sig := ⟨(.cons (.v .request) .nil), [], ((.v (.int .i64)), []), []⟩
def F94 (L : Lp) (g59 : Res → Option Bool) (g111 : Res → Int → Option (Res × (Int × Unit))) (ar0 : Request) : Option Int :=
  cond (decide (ar0.many < 1))
  (some 2)
  (cond (decide (64 < ar0.many))
  (some 2)
  (Option.bind (g59 ar0.need) fun r1 =>
  cond (!r1)
  (some 2)
  (cond ((decide (ar0.need.cpu = 0)) && ((decide (ar0.need.mem = 0)) && ((decide (ar0.need.gpu = 0)) && ((decide (ar0.need.lic = 0)) && true))))
  (some 2)
  (cond (decide (ar0.wall < 1))
  (some 2)
  (cond (decide (65536 < ar0.wall))
  (some 2)
  (Option.bind (g111 ar0.need ar0.many) fun r2 =>
  some r2.2.1))))))
theorem e94 (L : Lp) (g59 : Res → Option Bool) (g111 : Res → Int → Option (Res × (Int × Unit))) (x : s94.args.den) (h : denH s94.heap) : nrun [⟨59, s59, fun x h => g59 x.1⟩, ⟨111, s111, fun x h => g111 x.1 x.2.1⟩] L n94 s94 x h = F94 L g59 g111 x.1 := by kernel_rfl
def f94 : Request → Option Int := F94 (@LN LOOPS) f59 f111
@[reducible] def t94 : Ent := ⟨94, s94, fun x h => f94 x.1⟩
theorem k94 : chkNF Tryd.prog Tryd.f94 n94 = true := by kernel_rfl
theorem ok94 : NOk Tryd.prog t94 := NOk.body (T := [t59, t111]) mixed (nall_cons ok59 (nall_cons ok111 nall_nil)) (oneEach_of (by kernel_rfl)) Tryd.func94 k94 (by kernel_rfl) (fun x h => e94 _ _ _ x h)
/- drayage/vec.Count -/
def n133 : NFunc := ⟨44, .seq (.region 2 [
    ⟨(some 2), .box 4 (.tmp 0), none, 0, none⟩,
    ⟨(some 3), .box 4 (.tmp 1), none, 1, none⟩,
    ⟨(some 4), .move (.const (.int .i64 (0))), none, 2, none⟩] []) (.seq (.seq (.region 8 [
    ⟨(some 9), .load true 4 (.tmp 2), none, 0, none⟩,
    ⟨(some 10), .call (.func 59) [(false, (.tmp 9))] false 4, none, 0, none⟩,
    ⟨(some 11), .un .not (.tmp 10), none, 4, none⟩,
    ⟨(some 12), .move (.tmp 11), none, 4, none⟩,
    ⟨(some 13), .load true 4 (.tmp 3), (some (12, false)), 4, none⟩,
    ⟨(some 14), .call (.func 59) [(false, (.tmp 13))] false 4, (some (12, false)), 4, none⟩,
    ⟨(some 15), .un .not (.tmp 14), (some (12, false)), 8, none⟩,
    ⟨(some 16), .pick (.tmp 12) (.const (.bool true)) (.tmp 15), none, 8, none⟩,
    ⟨(some 17), .move (.tmp 16), none, 8, none⟩,
    ⟨(some 18), .load true 4 (.tmp 3), (some (17, false)), 8, none⟩,
    ⟨(some 19), .build [.int .i64 (0), .int .i64 (0), .int .i64 (0), .int .i64 (0)] [], (some (17, false)), 8, none⟩,
    ⟨(some 20), .eqAgg (false, [.int .i64, .int .i64, .int .i64, .int .i64]) (.tmp 18) (.tmp 19), (some (17, false)), 8, none⟩,
    ⟨(some 21), .pick (.tmp 17) (.const (.bool true)) (.tmp 20), none, 8, none⟩] []) (.cond (.tmp 21) (.seq (.region 0 [
    ⟨(some 4), .move (.const (.int .i64 (0))), none, 0, none⟩] []) (.ret)) (.skip))) (.seq (.region 0 [
    ⟨(some 5), .move (.const (.int .i64 (64))), none, 0, none⟩] []) (.seq (.region 10 [
    ⟨(some 22), .load true 4 (.tmp 2), none, 0, (some ([], none))⟩,
    ⟨(some 23), .call (.func 80) [(false, (.tmp 22))] true 4, none, 0, (some ([], none))⟩,
    ⟨(some 24), .load true 4 (.tmp 3), none, 4, (some ([], none))⟩,
    ⟨(some 25), .call (.func 80) [(false, (.tmp 24))] true 4, none, 4, (some ([0, 1, 2, 3], none))⟩,
    ⟨(some 6), .alloc [.int .i64 (0), .int .i64 (0), .int .i64 (0), .int .i64 (0)], none, 8, (some ([], none))⟩,
    ⟨(some 7), .alloc [.int .i64 (0), .int .i64 (0), .int .i64 (0), .int .i64 (0)], none, 9, (some ([], none))⟩,
    ⟨none, .store 4 (.tmp 6) (.tmp 23), none, 10, (some ([0, 1, 2, 3, 4, 5, 6, 7, 8, 9], none))⟩,
    ⟨none, .store 4 (.tmp 7) (.tmp 25), none, 10, (some ([0, 1, 2, 3, 4, 5, 6, 7, 8, 9], none))⟩] []) (.seq (.seq (.region 0 [
    ⟨(some 26), .move (.const (.int .i64 (0))), none, 0, none⟩] []) (.block 0 (.loop [5, 6, 7, 26] ⟨[(5, (.v (.int .i64))), (6, (.ptr 0 0 0)), (7, (.ptr 1 0 0)), (26, (.v (.int .i64)))], [], [.one false (.pair (.int .i64) (.pair (.int .i64) (.pair (.int .i64) (.int .i64)))), .one false (.pair (.int .i64) (.pair (.int .i64) (.pair (.int .i64) (.int .i64))))]⟩ (.seq (.region 0 [
    ⟨(some 27), .bin .lss (.tmp 26) (.const (.int .i64 (4))), none, 0, none⟩] []) (.seq (.cond (.tmp 27) (.skip) (.exit 0)) (.seq (.meet [5, 6, 7, 26] [] ⟨[(5, (.v (.int .i64))), (6, (.ptr 0 0 0)), (7, (.ptr 1 0 0))], [26], [.one false (.pair (.int .i64) (.pair (.int .i64) (.pair (.int .i64) (.int .i64)))), .one false (.pair (.int .i64) (.pair (.int .i64) (.pair (.int .i64) (.int .i64))))]⟩ (.block 1 (.seq (.region 0 [
    ⟨(some 28), .move (.tmp 26), none, 0, none⟩,
    ⟨(some 8), .move (.tmp 28), none, 0, none⟩] []) (.seq (.meet [6, 7, 26, 8, 5, 32] [] ⟨[(6, (.ptr 0 0 0)), (7, (.ptr 1 0 0)), (32, (.v .bool))], [5, 8, 26], [.one false (.pair (.int .i64) (.pair (.int .i64) (.pair (.int .i64) (.int .i64)))), .one false (.pair (.int .i64) (.pair (.int .i64) (.pair (.int .i64) (.int .i64))))]⟩ (.region 0 [
    ⟨(some 29), .move (.tmp 8), none, 0, none⟩,
    ⟨(some 30), .indexArr 4 1 (.tmp 7) (.tmp 29), none, 0, none⟩,
    ⟨(some 31), .load false 1 (.tmp 30), none, 0, none⟩,
    ⟨(some 32), .bin .gtr (.tmp 31) (.const (.int .i64 (0))), none, 0, none⟩] [⟨30, none, some (29, 4)⟩])) (.cond (.tmp 32) (.region 0 [
    ⟨(some 33), .move (.tmp 5), none, 0, (some ([], none))⟩,
    ⟨(some 34), .move (.tmp 8), none, 0, (some ([], none))⟩,
    ⟨(some 35), .indexArr 4 1 (.tmp 6) (.tmp 34), none, 0, (some ([], none))⟩,
    ⟨(some 36), .load false 1 (.tmp 35), none, 0, (some ([], none))⟩,
    ⟨(some 37), .move (.tmp 8), none, 0, (some ([], none))⟩,
    ⟨(some 38), .indexArr 4 1 (.tmp 7) (.tmp 37), none, 0, (some ([], none))⟩,
    ⟨(some 39), .load false 1 (.tmp 38), none, 0, (some ([], none))⟩,
    ⟨(some 40), .bin .quo (.tmp 36) (.tmp 39), none, 0, (some ([], none))⟩,
    ⟨(some 41), .minmax false (.tmp 33) (.tmp 40), none, 0, (some ([], none))⟩,
    ⟨(some 5), .move (.tmp 41), none, 0, (some ([], none))⟩] [⟨35, none, some (34, 4)⟩, ⟨38, none, some (37, 4)⟩]) (.skip)))))) (.region 0 [
    ⟨(some 42), .bin .add (.tmp 26) (.const (.int .i64 (1))), none, 0, none⟩,
    ⟨(some 26), .move (.tmp 42), none, 0, none⟩] []))))))) (.seq (.region 0 [
    ⟨(some 43), .move (.tmp 5), none, 0, none⟩,
    ⟨(some 4), .move (.tmp 43), none, 0, none⟩] []) (.ret)))))), [.tmp 4], true⟩
def s133 : Sig := ⟨(.cons (.v .res) (.cons (.v .res) .nil)), [], ((.v (.int .i64)), []), []⟩
def l133_0  (nx7 : ((Int × (Unit × (Unit × (Int × Unit)))) × ((Int × (Int × (Int × Int))) × ((Int × (Int × (Int × Int))) × Unit))) → Option Int) (zn8 : Int) (z9 : Int) (z10 : (Int × (Int × (Int × Int)))) (z11 : (Int × (Int × (Int × Int)))) : Option Int :=
  cond (decide (z9 < 4))
  (Option.bind (α := ((Int × (Unit × (Unit × Unit))) × ((Int × (Int × (Int × Int))) × ((Int × (Int × (Int × Int))) × Unit))))
  (Option.bind (α := ((Unit × (Unit × (Bool × Unit))) × ((Int × (Int × (Int × Int))) × ((Int × (Int × (Int × Int))) × Unit))))
  (cond (decide (z9 = 3))
  (some (((), (), decide (0 < z11.2.2.2), ()), (z10, z11, ())))
  (cond (decide (z9 = 2))
  (some (((), (), decide (0 < z11.2.2.1), ()), (z10, z11, ())))
  (cond (decide (z9 = 1))
  (some (((), (), decide (0 < z11.2.1), ()), (z10, z11, ())))
  (cond (decide (z9 = 0))
  (some (((), (), decide (0 < z11.1), ()), (z10, z11, ())))
  (none))))) fun x12 =>
  cond x12.1.2.2.1
  (cond (decide (z9 = 3))
  (cond (decide (z9 = 3))
  (cond (decide (x12.2.2.1.2.2.2 = 0))
  (none)
  (let v13 := if (IntKind.wrap .i64 (Int.tdiv x12.2.1.2.2.2 x12.2.2.1.2.2.2)) < zn8 then (IntKind.wrap .i64 (Int.tdiv x12.2.1.2.2.2 x12.2.2.1.2.2.2)) else zn8
  some ((v13, (), (), ()), (x12.2.1, x12.2.2.1, ()))))
  (cond (decide (z9 = 2))
  (cond (decide (x12.2.2.1.2.2.1 = 0))
  (none)
  (let v14 := if (IntKind.wrap .i64 (Int.tdiv x12.2.1.2.2.2 x12.2.2.1.2.2.1)) < zn8 then (IntKind.wrap .i64 (Int.tdiv x12.2.1.2.2.2 x12.2.2.1.2.2.1)) else zn8
  some ((v14, (), (), ()), (x12.2.1, x12.2.2.1, ()))))
  (cond (decide (z9 = 1))
  (cond (decide (x12.2.2.1.2.1 = 0))
  (none)
  (let v15 := if (IntKind.wrap .i64 (Int.tdiv x12.2.1.2.2.2 x12.2.2.1.2.1)) < zn8 then (IntKind.wrap .i64 (Int.tdiv x12.2.1.2.2.2 x12.2.2.1.2.1)) else zn8
  some ((v15, (), (), ()), (x12.2.1, x12.2.2.1, ()))))
  (cond (decide (z9 = 0))
  (cond (decide (x12.2.2.1.1 = 0))
  (none)
  (let v16 := if (IntKind.wrap .i64 (Int.tdiv x12.2.1.2.2.2 x12.2.2.1.1)) < zn8 then (IntKind.wrap .i64 (Int.tdiv x12.2.1.2.2.2 x12.2.2.1.1)) else zn8
  some ((v16, (), (), ()), (x12.2.1, x12.2.2.1, ()))))
  (none)))))
  (cond (decide (z9 = 2))
  (cond (decide (z9 = 3))
  (cond (decide (x12.2.2.1.2.2.2 = 0))
  (none)
  (let v17 := if (IntKind.wrap .i64 (Int.tdiv x12.2.1.2.2.1 x12.2.2.1.2.2.2)) < zn8 then (IntKind.wrap .i64 (Int.tdiv x12.2.1.2.2.1 x12.2.2.1.2.2.2)) else zn8
  some ((v17, (), (), ()), (x12.2.1, x12.2.2.1, ()))))
  (cond (decide (z9 = 2))
  (cond (decide (x12.2.2.1.2.2.1 = 0))
  (none)
  (let v18 := if (IntKind.wrap .i64 (Int.tdiv x12.2.1.2.2.1 x12.2.2.1.2.2.1)) < zn8 then (IntKind.wrap .i64 (Int.tdiv x12.2.1.2.2.1 x12.2.2.1.2.2.1)) else zn8
  some ((v18, (), (), ()), (x12.2.1, x12.2.2.1, ()))))
  (cond (decide (z9 = 1))
  (cond (decide (x12.2.2.1.2.1 = 0))
  (none)
  (let v19 := if (IntKind.wrap .i64 (Int.tdiv x12.2.1.2.2.1 x12.2.2.1.2.1)) < zn8 then (IntKind.wrap .i64 (Int.tdiv x12.2.1.2.2.1 x12.2.2.1.2.1)) else zn8
  some ((v19, (), (), ()), (x12.2.1, x12.2.2.1, ()))))
  (cond (decide (z9 = 0))
  (cond (decide (x12.2.2.1.1 = 0))
  (none)
  (let v20 := if (IntKind.wrap .i64 (Int.tdiv x12.2.1.2.2.1 x12.2.2.1.1)) < zn8 then (IntKind.wrap .i64 (Int.tdiv x12.2.1.2.2.1 x12.2.2.1.1)) else zn8
  some ((v20, (), (), ()), (x12.2.1, x12.2.2.1, ()))))
  (none)))))
  (cond (decide (z9 = 1))
  (cond (decide (z9 = 3))
  (cond (decide (x12.2.2.1.2.2.2 = 0))
  (none)
  (let v21 := if (IntKind.wrap .i64 (Int.tdiv x12.2.1.2.1 x12.2.2.1.2.2.2)) < zn8 then (IntKind.wrap .i64 (Int.tdiv x12.2.1.2.1 x12.2.2.1.2.2.2)) else zn8
  some ((v21, (), (), ()), (x12.2.1, x12.2.2.1, ()))))
  (cond (decide (z9 = 2))
  (cond (decide (x12.2.2.1.2.2.1 = 0))
  (none)
  (let v22 := if (IntKind.wrap .i64 (Int.tdiv x12.2.1.2.1 x12.2.2.1.2.2.1)) < zn8 then (IntKind.wrap .i64 (Int.tdiv x12.2.1.2.1 x12.2.2.1.2.2.1)) else zn8
  some ((v22, (), (), ()), (x12.2.1, x12.2.2.1, ()))))
  (cond (decide (z9 = 1))
  (cond (decide (x12.2.2.1.2.1 = 0))
  (none)
  (let v23 := if (IntKind.wrap .i64 (Int.tdiv x12.2.1.2.1 x12.2.2.1.2.1)) < zn8 then (IntKind.wrap .i64 (Int.tdiv x12.2.1.2.1 x12.2.2.1.2.1)) else zn8
  some ((v23, (), (), ()), (x12.2.1, x12.2.2.1, ()))))
  (cond (decide (z9 = 0))
  (cond (decide (x12.2.2.1.1 = 0))
  (none)
  (let v24 := if (IntKind.wrap .i64 (Int.tdiv x12.2.1.2.1 x12.2.2.1.1)) < zn8 then (IntKind.wrap .i64 (Int.tdiv x12.2.1.2.1 x12.2.2.1.1)) else zn8
  some ((v24, (), (), ()), (x12.2.1, x12.2.2.1, ()))))
  (none)))))
  (cond (decide (z9 = 0))
  (cond (decide (z9 = 3))
  (cond (decide (x12.2.2.1.2.2.2 = 0))
  (none)
  (let v25 := if (IntKind.wrap .i64 (Int.tdiv x12.2.1.1 x12.2.2.1.2.2.2)) < zn8 then (IntKind.wrap .i64 (Int.tdiv x12.2.1.1 x12.2.2.1.2.2.2)) else zn8
  some ((v25, (), (), ()), (x12.2.1, x12.2.2.1, ()))))
  (cond (decide (z9 = 2))
  (cond (decide (x12.2.2.1.2.2.1 = 0))
  (none)
  (let v26 := if (IntKind.wrap .i64 (Int.tdiv x12.2.1.1 x12.2.2.1.2.2.1)) < zn8 then (IntKind.wrap .i64 (Int.tdiv x12.2.1.1 x12.2.2.1.2.2.1)) else zn8
  some ((v26, (), (), ()), (x12.2.1, x12.2.2.1, ()))))
  (cond (decide (z9 = 1))
  (cond (decide (x12.2.2.1.2.1 = 0))
  (none)
  (let v27 := if (IntKind.wrap .i64 (Int.tdiv x12.2.1.1 x12.2.2.1.2.1)) < zn8 then (IntKind.wrap .i64 (Int.tdiv x12.2.1.1 x12.2.2.1.2.1)) else zn8
  some ((v27, (), (), ()), (x12.2.1, x12.2.2.1, ()))))
  (cond (decide (z9 = 0))
  (cond (decide (x12.2.2.1.1 = 0))
  (none)
  (let v28 := if (IntKind.wrap .i64 (Int.tdiv x12.2.1.1 x12.2.2.1.1)) < zn8 then (IntKind.wrap .i64 (Int.tdiv x12.2.1.1 x12.2.2.1.1)) else zn8
  some ((v28, (), (), ()), (x12.2.1, x12.2.2.1, ()))))
  (none)))))
  (none)))))
  (some ((zn8, (), (), ()), (x12.2.1, x12.2.2.1, ())))) fun x29 =>
  nx7 ((x29.1.1, (), (), IntKind.wrap .i64 (z9 + 1), ()), (x29.2.1, x29.2.2.1, ())))
  (some zn8)
def F133 (L : Lp) (g59 : Res → Option Bool) (g80 : Res → Option (Int × (Int × (Int × Int)))) (free0 : Res) (need1 : Res) : Option Int :=
  Option.bind (g59 free0) fun r2 =>
  cond (!r2)
  (some 0)
  (Option.bind (g59 need1) fun r3 =>
  cond (!r3)
  (some 0)
  (cond ((decide (need1.cpu = 0)) && ((decide (need1.mem = 0)) && ((decide (need1.gpu = 0)) && ((decide (need1.lic = 0)) && true))))
  (some 0)
  (Option.bind (g80 free0) fun r4 =>
  Option.bind (g80 need1) fun r5 =>
  L (fun (s6 : ((Int × (Unit × (Unit × (Int × Unit)))) × ((Int × (Int × (Int × Int))) × ((Int × (Int × (Int × Int))) × Unit)))) nx7 => l133_0 nx7 s6.1.1 s6.1.2.2.2.1 s6.2.1 s6.2.2.1) ((64, (), (), 0, ()), (r4, r5, ())))))
theorem e133 (L : Lp) (g59 : Res → Option Bool) (g80 : Res → Option (Int × (Int × (Int × Int)))) (x : s133.args.den) (h : denH s133.heap) : nrun [⟨59, s59, fun x h => g59 x.1⟩, ⟨80, s80, fun x h => g80 x.1⟩] L n133 s133 x h = F133 L g59 g80 x.1 x.2.1 := by kernel_rfl
def f133 : Res → Res → Option Int := F133 (@LN LOOPS) f59 f80
@[reducible] def t133 : Ent := ⟨133, s133, fun x h => f133 x.1 x.2.1⟩
theorem k133 : chkNF Tryd.prog Tryd.f133 n133 = true := by kernel_rfl
theorem ok133 : NOk Tryd.prog t133 := NOk.body (T := [t59, t80]) mixed (nall_cons ok59 (nall_cons ok80 nall_nil)) (oneEach_of (by kernel_rfl)) Tryd.func133 k133 (by kernel_rfl) (fun x h => e133 _ _ _ x h)
/- drayage/spec.Room -/
def n112 : NFunc := ⟨45, .seq (.region 2 [
    ⟨(some 3), .box 18 (.tmp 0), none, 0, none⟩,
    ⟨(some 5), .box 4 (.tmp 2), none, 1, none⟩,
    ⟨(some 6), .move (.const (.int .i64 (0))), none, 2, none⟩] []) (.seq (.seq (.region 4 [
    ⟨(some 10), .load true 18 (.tmp 3), none, 0, none⟩,
    ⟨(some 11), .call (.func 76) [(false, (.tmp 10))] false 4, none, 0, none⟩,
    ⟨(some 12), .un .not (.tmp 11), none, 4, none⟩,
    ⟨(some 13), .move (.tmp 12), none, 4, none⟩,
    ⟨(some 14), .move (.tmp 1), (some (13, false)), 4, none⟩,
    ⟨(some 15), .bin .lss (.tmp 14) (.const (.int .i64 (0))), (some (13, false)), 4, none⟩,
    ⟨(some 16), .pick (.tmp 13) (.const (.bool true)) (.tmp 15), none, 4, none⟩,
    ⟨(some 17), .move (.tmp 16), none, 4, none⟩,
    ⟨(some 18), .move (.tmp 1), (some (17, false)), 4, none⟩,
    ⟨(some 19), .fieldAddr 1 (.tmp 3), (some (17, false)), 4, none⟩,
    ⟨(some 20), .load false 1 (.tmp 19), (some (17, false)), 4, none⟩,
    ⟨(some 21), .len (.tmp 20), (some (17, false)), 4, none⟩,
    ⟨(some 22), .bin .geq (.tmp 18) (.tmp 21), (some (17, false)), 4, none⟩,
    ⟨(some 23), .pick (.tmp 17) (.const (.bool true)) (.tmp 22), none, 4, none⟩] []) (.cond (.tmp 23) (.seq (.region 0 [
    ⟨(some 6), .move (.const (.int .i64 (0))), none, 0, none⟩] []) (.ret)) (.skip))) (.seq (.region 0 [
    ⟨(some 7), .move (.const (.int .i64 (0))), none, 0, none⟩] []) (.seq (.seq (.region 0 [
    ⟨(some 24), .fieldAddr 1 (.tmp 3), none, 0, none⟩,
    ⟨(some 25), .load false 1 (.tmp 24), none, 0, none⟩,
    ⟨(some 26), .move (.tmp 1), none, 0, none⟩,
    ⟨(some 27), .indexSl 1 (.tmp 25) (.tmp 26), none, 0, none⟩,
    ⟨(some 28), .load false 1 (.tmp 27), none, 0, none⟩,
    ⟨(some 29), .len (.tmp 28), none, 0, none⟩,
    ⟨(some 30), .move (.const (.int .i64 (0))), none, 0, none⟩] []) (.block 0 (.loop [3, 5, 7, 28, 29, 30] ⟨[(3, (.ptr 0 0 0)), (5, (.ptr 1 0 0)), (7, (.v (.int .i64))), (30, (.v (.int .i64)))], [28, 29], [.one false .spec, .one false .res]⟩ (.seq (.region 0 [
    ⟨(some 31), .bin .lss (.tmp 30) (.tmp 29), none, 0, none⟩] []) (.seq (.cond (.tmp 31) (.skip) (.exit 0)) (.seq (.block 1 (.seq (.region 0 [
    ⟨(some 32), .indexSl 1 (.tmp 28) (.tmp 30), none, 0, none⟩,
    ⟨(some 33), .load false 1 (.tmp 32), none, 0, none⟩,
    ⟨(some 9), .move (.tmp 33), none, 0, none⟩] []) (.region 4 [
    ⟨(some 34), .move (.tmp 7), none, 0, (some ([], none))⟩,
    ⟨(some 35), .fieldAddr 0 (.tmp 3), none, 0, (some ([], none))⟩,
    ⟨(some 36), .load false 1 (.tmp 35), none, 0, (some ([], none))⟩,
    ⟨(some 37), .move (.tmp 9), none, 0, (some ([], none))⟩,
    ⟨(some 38), .indexSl 4 (.tmp 36) (.tmp 37), none, 0, (some ([], none))⟩,
    ⟨(some 39), .load true 4 (.tmp 38), none, 0, (some ([], none))⟩,
    ⟨(some 40), .load true 4 (.tmp 5), none, 0, (some ([], none))⟩,
    ⟨(some 41), .call (.func 133) [(false, (.tmp 39)), (false, (.tmp 40))] false 4, none, 0, (some ([], none))⟩,
    ⟨(some 42), .bin .add (.tmp 34) (.tmp 41), none, 4, (some ([0, 1, 2, 3], none))⟩,
    ⟨(some 7), .move (.tmp 42), none, 4, (some ([0, 1, 2, 3], none))⟩] []))) (.region 0 [
    ⟨(some 43), .bin .add (.tmp 30) (.const (.int .i64 (1))), none, 0, none⟩,
    ⟨(some 30), .move (.tmp 43), none, 0, none⟩] []))))))) (.seq (.region 0 [
    ⟨(some 44), .move (.tmp 7), none, 0, none⟩,
    ⟨(some 6), .move (.tmp 44), none, 0, none⟩] []) (.ret))))), [.tmp 6], true⟩
def s112 : Sig := ⟨(.cons (.v .spec) (.cons (.v (.int .i64)) (.cons (.v .res) .nil))), [], ((.v (.int .i64)), []), []⟩
def l112_0 (g133 : Res → Res → Option Int) (y4 : (List Int)) (nx6 : ((Unit × (Unit × (Int × (Int × Unit)))) × (Spec × (Res × Unit))) → Option Int) (room7 : Int) (z8 : Int) (z9 : Spec) (z10 : Res) : Option Int :=
  cond (decide (z8 < (List.length y4 : Int)))
  (cond (decide (0 ≤ z8))
  (Option.bind (y4[Int.toNat z8]?) fun y11 =>
  cond (decide (0 ≤ y11))
  (Option.bind (z9.nodes[Int.toNat y11]?) fun y12 =>
  Option.bind (g133 y12 z10) fun r13 =>
  nx6 (((), (), IntKind.wrap .i64 (room7 + r13), IntKind.wrap .i64 (z8 + 1), ()), (z9, z10, ())))
  (none))
  (none))
  (some room7)
def F112 (L : Lp) (g76 : Spec → Option Bool) (g133 : Res → Res → Option Int) (as0 : Spec) (part1 : Int) (need2 : Res) : Option Int :=
  Option.bind (g76 as0) fun r3 =>
  cond (!r3)
  (some 0)
  (cond (decide (part1 < 0))
  (some 0)
  (cond (decide ((List.length as0.parts : Int) ≤ part1))
  (some 0)
  (cond (decide (0 ≤ part1))
  (Option.bind (as0.parts[Int.toNat part1]?) fun y4 =>
  L (fun (s5 : ((Unit × (Unit × (Int × (Int × Unit)))) × (Spec × (Res × Unit)))) nx6 => l112_0 g133 y4 nx6 s5.1.2.2.1 s5.1.2.2.2.1 s5.2.1 s5.2.2.1) (((), (), 0, 0, ()), (as0, need2, ())))
  (none))))
theorem e112 (L : Lp) (g76 : Spec → Option Bool) (g133 : Res → Res → Option Int) (x : s112.args.den) (h : denH s112.heap) : nrun [⟨76, s76, fun x h => g76 x.1⟩, ⟨133, s133, fun x h => g133 x.1 x.2.1⟩] L n112 s112 x h = F112 L g76 g133 x.1 x.2.1 x.2.2.1 := by kernel_rfl
def f112 : Spec → Int → Res → Option Int := F112 (@LN LOOPS) f76 f133
@[reducible] def t112 : Ent := ⟨112, s112, fun x h => f112 x.1 x.2.1 x.2.2.1⟩
theorem k112 : chkNF Tryd.prog Tryd.f112 n112 = true := by kernel_rfl
theorem ok112 : NOk Tryd.prog t112 := NOk.body (T := [t76, t133]) mixed (nall_cons ok76 (nall_cons ok133 nall_nil)) (oneEach_of (by kernel_rfl)) Tryd.func112 k112 (by kernel_rfl) (fun x h => e112 _ _ _ x h)
/- drayage/spec.Fits -/
def n95 : NFunc := ⟨38, .seq (.region 2 [
    ⟨(some 4), .box 18 (.tmp 0), none, 0, none⟩,
    ⟨(some 7), .box 4 (.tmp 3), none, 1, none⟩,
    ⟨(some 8), .move (.const (.bool false)), none, 2, none⟩] []) (.seq (.seq (.region 4 [
    ⟨(some 9), .load true 18 (.tmp 4), none, 0, none⟩,
    ⟨(some 10), .call (.func 76) [(false, (.tmp 9))] false 4, none, 0, none⟩,
    ⟨(some 11), .un .not (.tmp 10), none, 4, none⟩,
    ⟨(some 12), .move (.tmp 11), none, 4, none⟩,
    ⟨(some 13), .move (.tmp 1), (some (12, false)), 4, none⟩,
    ⟨(some 14), .bin .lss (.tmp 13) (.const (.int .i64 (0))), (some (12, false)), 4, none⟩,
    ⟨(some 15), .pick (.tmp 12) (.const (.bool true)) (.tmp 14), none, 4, none⟩,
    ⟨(some 16), .move (.tmp 15), none, 4, none⟩,
    ⟨(some 17), .move (.tmp 1), (some (16, false)), 4, none⟩,
    ⟨(some 18), .fieldAddr 2 (.tmp 4), (some (16, false)), 4, none⟩,
    ⟨(some 19), .load false 1 (.tmp 18), (some (16, false)), 4, none⟩,
    ⟨(some 20), .len (.tmp 19), (some (16, false)), 4, none⟩,
    ⟨(some 21), .bin .geq (.tmp 17) (.tmp 20), (some (16, false)), 4, none⟩,
    ⟨(some 22), .pick (.tmp 16) (.const (.bool true)) (.tmp 21), none, 4, none⟩,
    ⟨(some 23), .move (.tmp 22), none, 4, none⟩,
    ⟨(some 24), .move (.tmp 2), (some (23, false)), 4, none⟩,
    ⟨(some 25), .bin .lss (.tmp 24) (.const (.int .i64 (1))), (some (23, false)), 4, none⟩,
    ⟨(some 26), .pick (.tmp 23) (.const (.bool true)) (.tmp 25), none, 4, none⟩] []) (.cond (.tmp 26) (.seq (.region 0 [
    ⟨(some 8), .move (.const (.bool false)), none, 0, none⟩] []) (.ret)) (.skip))) (.seq (.region 4 [
    ⟨(some 27), .load true 18 (.tmp 4), none, 0, (some ([], none))⟩,
    ⟨(some 28), .fieldAddr 2 (.tmp 4), none, 0, (some ([], none))⟩,
    ⟨(some 29), .load false 1 (.tmp 28), none, 0, (some ([], none))⟩,
    ⟨(some 30), .move (.tmp 1), none, 0, (some ([], none))⟩,
    ⟨(some 31), .indexSl 6 (.tmp 29) (.tmp 30), none, 0, (some ([], none))⟩,
    ⟨(some 32), .fieldAddr 0 (.tmp 31), none, 0, (some ([], none))⟩,
    ⟨(some 33), .load false 1 (.tmp 32), none, 0, (some ([], none))⟩,
    ⟨(some 34), .load true 4 (.tmp 7), none, 0, (some ([], none))⟩,
    ⟨(some 35), .call (.func 112) [(false, (.tmp 27)), (false, (.tmp 33)), (false, (.tmp 34))] false 4, none, 0, (some ([], none))⟩,
    ⟨(some 36), .move (.tmp 2), none, 4, (some ([], none))⟩,
    ⟨(some 37), .bin .geq (.tmp 35) (.tmp 36), none, 4, (some ([0, 1, 2, 3], none))⟩,
    ⟨(some 8), .move (.tmp 37), none, 4, (some ([0, 1, 2, 3], none))⟩] []) (.ret))), [.tmp 8], true⟩
def s95 : Sig := ⟨(.cons (.v .spec) (.cons (.v (.int .i64)) (.cons (.v (.int .i64)) (.cons (.v .res) .nil)))), [], ((.v .bool), []), []⟩
def F95 (L : Lp) (g76 : Spec → Option Bool) (g112 : Spec → Int → Res → Option Int) (as0 : Spec) (queue1 : Int) (many2 : Int) (need3 : Res) : Option Bool :=
  Option.bind (g76 as0) fun r4 =>
  cond (!r4)
  (some false)
  (cond (decide (queue1 < 0))
  (some false)
  (cond (decide ((List.length as0.queues : Int) ≤ queue1))
  (some false)
  (cond (decide (many2 < 1))
  (some false)
  (cond (decide (0 ≤ queue1))
  (Option.bind (as0.queues[Int.toNat queue1]?) fun y5 =>
  Option.bind (g112 as0 y5.part need3) fun r6 =>
  some (decide (many2 ≤ r6)))
  (none)))))
theorem e95 (L : Lp) (g76 : Spec → Option Bool) (g112 : Spec → Int → Res → Option Int) (x : s95.args.den) (h : denH s95.heap) : nrun [⟨76, s76, fun x h => g76 x.1⟩, ⟨112, s112, fun x h => g112 x.1 x.2.1 x.2.2.1⟩] L n95 s95 x h = F95 L g76 g112 x.1 x.2.1 x.2.2.1 x.2.2.2.1 := by kernel_rfl
def f95 : Spec → Int → Int → Res → Option Bool := F95 (@LN LOOPS) f76 f112
@[reducible] def t95 : Ent := ⟨95, s95, fun x h => f95 x.1 x.2.1 x.2.2.1 x.2.2.2.1⟩
theorem k95 : chkNF Tryd.prog Tryd.f95 n95 = true := by kernel_rfl
theorem ok95 : NOk Tryd.prog t95 := NOk.body (T := [t76, t112]) mixed (nall_cons ok76 (nall_cons ok112 nall_nil)) (oneEach_of (by kernel_rfl)) Tryd.func95 k95 (by kernel_rfl) (fun x h => e95 _ _ _ x h)
/- drayage/alter.possible -/
def n78 : NFunc := ⟨45, .seq (.region 3 [
    ⟨(some 3), .box 18 (.tmp 0), none, 0, none⟩,
    ⟨(some 4), .box 18 (.tmp 1), none, 1, none⟩,
    ⟨(some 5), .box 17 (.tmp 2), none, 2, none⟩,
    ⟨(some 6), .move (.const (.int .i64 (0))), none, 3, none⟩] []) (.seq (.seq (.meet [5, 4, 3, 14] [] ⟨[(3, (.ptr 0 0 0)), (4, (.ptr 1 0 0)), (5, (.ptr 2 0 0)), (14, (.v .bool))], [], [.one false .spec, .one false .job, .one false .request]⟩ (.region 0 [
    ⟨(some 10), .fieldAddr 0 (.tmp 5), none, 0, none⟩,
    ⟨(some 11), .load false 1 (.tmp 10), none, 0, none⟩,
    ⟨(some 12), .indexArr 6 1 (.glob 1) (.tmp 11), none, 0, none⟩,
    ⟨(some 13), .load false 1 (.tmp 12), none, 0, none⟩,
    ⟨(some 14), .bin .neq (.tmp 13) (.const (.int .i64 (-1))), none, 0, none⟩] [⟨12, none, some (11, 6)⟩])) (.cond (.tmp 14) (.seq (.seq (.meet [8] [] ⟨[(8, (.v .bool))], [], []⟩ (.region 4 [
    ⟨(some 16), .fieldAddr 10 (.tmp 4), none, 0, (some ([], none))⟩,
    ⟨(some 17), .load false 1 (.tmp 16), none, 0, (some ([], none))⟩,
    ⟨(some 18), .fieldAddr 0 (.tmp 5), none, 0, (some ([], none))⟩,
    ⟨(some 19), .load false 1 (.tmp 18), none, 0, (some ([], none))⟩,
    ⟨(some 20), .indexArr 6 1 (.glob 1) (.tmp 19), none, 0, (some ([], none))⟩,
    ⟨(some 21), .load false 1 (.tmp 20), none, 0, (some ([], none))⟩,
    ⟨(some 22), .call (.func 92) [(false, (.tmp 17)), (false, (.tmp 21))] false 4, none, 0, (some ([], none))⟩,
    ⟨(some 15), .move (.tmp 22), none, 4, (some ([0, 1, 2, 3], none))⟩,
    ⟨(some 23), .extract (.tmp 15) 0, none, 4, (some ([0, 1, 2, 3], none))⟩,
    ⟨(some 24), .extract (.tmp 15) 1, none, 4, (some ([0, 1, 2, 3], none))⟩,
    ⟨(some 7), .move (.tmp 23), none, 4, (some ([0, 1, 2, 3], none))⟩,
    ⟨(some 8), .move (.tmp 24), none, 4, (some ([0, 1, 2, 3], none))⟩] [⟨20, none, some (19, 6)⟩])) (.seq (.region 0 [
    ⟨(some 25), .move (.tmp 8), none, 0, none⟩,
    ⟨(some 26), .un .not (.tmp 25), none, 0, none⟩] []) (.cond (.tmp 26) (.seq (.region 0 [
    ⟨(some 6), .move (.const (.int .i64 (31))), none, 0, none⟩] []) (.ret)) (.skip)))) (.seq (.region 0 [
    ⟨(some 6), .move (.const (.int .i64 (0))), none, 0, none⟩] []) (.ret))) (.skip))) (.seq (.seq (.region 4 [
    ⟨(some 27), .fieldAddr 10 (.tmp 4), none, 0, none⟩,
    ⟨(some 28), .load false 1 (.tmp 27), none, 0, none⟩,
    ⟨(some 29), .call (.func 93) [(false, (.tmp 28))] false 4, none, 0, none⟩,
    ⟨(some 30), .un .not (.tmp 29), none, 4, none⟩] []) (.cond (.tmp 30) (.seq (.region 0 [
    ⟨(some 6), .move (.const (.int .i64 (31))), none, 0, none⟩] []) (.ret)) (.skip))) (.seq (.seq (.region 4 [
    ⟨(some 31), .load true 17 (.tmp 5), none, 0, none⟩,
    ⟨(some 32), .call (.func 94) [(false, (.tmp 31))] false 4, none, 0, none⟩,
    ⟨(some 9), .move (.tmp 32), none, 4, none⟩] []) (.seq (.region 0 [
    ⟨(some 33), .move (.tmp 9), none, 0, none⟩,
    ⟨(some 34), .bin .neq (.tmp 33) (.const (.int .i64 (0))), none, 0, none⟩] []) (.cond (.tmp 34) (.seq (.region 0 [
    ⟨(some 35), .move (.tmp 9), none, 0, none⟩,
    ⟨(some 6), .move (.tmp 35), none, 0, none⟩] []) (.ret)) (.skip)))) (.seq (.seq (.region 4 [
    ⟨(some 36), .load true 18 (.tmp 3), none, 0, none⟩,
    ⟨(some 37), .fieldAddr 2 (.tmp 4), none, 0, none⟩,
    ⟨(some 38), .load false 1 (.tmp 37), none, 0, none⟩,
    ⟨(some 39), .fieldAddr 5 (.tmp 5), none, 0, none⟩,
    ⟨(some 40), .load false 1 (.tmp 39), none, 0, none⟩,
    ⟨(some 41), .fieldAddr 6 (.tmp 5), none, 0, none⟩,
    ⟨(some 42), .load true 4 (.tmp 41), none, 0, none⟩,
    ⟨(some 43), .call (.func 95) [(false, (.tmp 36)), (false, (.tmp 38)), (false, (.tmp 40)), (false, (.tmp 42))] false 4, none, 0, none⟩,
    ⟨(some 44), .un .not (.tmp 43), none, 4, none⟩] []) (.cond (.tmp 44) (.seq (.region 0 [
    ⟨(some 6), .move (.const (.int .i64 (37))), none, 0, none⟩] []) (.ret)) (.skip))) (.seq (.region 0 [
    ⟨(some 6), .move (.const (.int .i64 (0))), none, 0, none⟩] []) (.ret)))))), [.tmp 6], true⟩
def s78 : Sig := ⟨(.cons (.v .spec) (.cons (.v .job) (.cons (.v .request) .nil))), [], ((.v (.int .i64)), []), []⟩
def F78 (L : Lp) (g92 : Int → Int → Option (Int × (Bool × Unit))) (g93 : Int → Option Bool) (g94 : Request → Option Int) (g95 : Spec → Int → Int → Res → Option Bool) (as0 : Spec) (j1 : Job) (ar2 : Request) : Option Int :=
  Option.bind (α := ((Unit × (Unit × (Unit × (Bool × Unit)))) × (Spec × (Job × (Request × Unit)))))
  (cond (decide (ar2.kind = 5))
  (some (((), (), (), true, ()), (as0, j1, ar2, ())))
  (cond (decide (ar2.kind = 4))
  (some (((), (), (), true, ()), (as0, j1, ar2, ())))
  (cond (decide (ar2.kind = 3))
  (some (((), (), (), true, ()), (as0, j1, ar2, ())))
  (cond (decide (ar2.kind = 2))
  (some (((), (), (), false, ()), (as0, j1, ar2, ())))
  (cond (decide (ar2.kind = 1))
  (some (((), (), (), true, ()), (as0, j1, ar2, ())))
  (cond (decide (ar2.kind = 0))
  (some (((), (), (), true, ()), (as0, j1, ar2, ())))
  (none))))))) fun x3 =>
  cond x3.1.2.2.2.1
  (Option.bind (α := ((Bool × Unit) × Unit))
  (cond (decide (x3.2.2.2.1.kind = 5))
  (Option.bind (g92 x3.2.2.1.state 6) fun r4 =>
  some ((r4.2.1, ()), ()))
  (cond (decide (x3.2.2.2.1.kind = 4))
  (Option.bind (g92 x3.2.2.1.state 2) fun r5 =>
  some ((r5.2.1, ()), ()))
  (cond (decide (x3.2.2.2.1.kind = 3))
  (Option.bind (g92 x3.2.2.1.state 1) fun r6 =>
  some ((r6.2.1, ()), ()))
  (cond (decide (x3.2.2.2.1.kind = 2))
  (Option.bind (g92 x3.2.2.1.state (-1)) fun r7 =>
  some ((r7.2.1, ()), ()))
  (cond (decide (x3.2.2.2.1.kind = 1))
  (Option.bind (g92 x3.2.2.1.state 0) fun r8 =>
  some ((r8.2.1, ()), ()))
  (cond (decide (x3.2.2.2.1.kind = 0))
  (Option.bind (g92 x3.2.2.1.state 0) fun r9 =>
  some ((r9.2.1, ()), ()))
  (none))))))) fun x10 =>
  cond (!x10.1.1)
  (some 31)
  (some 0))
  (Option.bind (g93 x3.2.2.1.state) fun r11 =>
  cond (!r11)
  (some 31)
  (Option.bind (g94 x3.2.2.2.1) fun r12 =>
  cond (!decide (r12 = 0))
  (some r12)
  (Option.bind (g95 x3.2.1 x3.2.2.1.queue x3.2.2.2.1.many x3.2.2.2.1.need) fun r13 =>
  cond (!r13)
  (some 37)
  (some 0))))
theorem e78 (L : Lp) (g92 : Int → Int → Option (Int × (Bool × Unit))) (g93 : Int → Option Bool) (g94 : Request → Option Int) (g95 : Spec → Int → Int → Res → Option Bool) (x : s78.args.den) (h : denH s78.heap) : nrun [⟨92, s92, fun x h => g92 x.1 x.2.1⟩, ⟨93, s93, fun x h => g93 x.1⟩, ⟨94, s94, fun x h => g94 x.1⟩, ⟨95, s95, fun x h => g95 x.1 x.2.1 x.2.2.1 x.2.2.2.1⟩] L n78 s78 x h = F78 L g92 g93 g94 g95 x.1 x.2.1 x.2.2.1 := by kernel_rfl
def f78 : Spec → Job → Request → Option Int := F78 (@LN LOOPS) f92 f93 f94 f95
@[reducible] def t78 : Ent := ⟨78, s78, fun x h => f78 x.1 x.2.1 x.2.2.1⟩
theorem k78 : chkNF Tryd.prog Tryd.f78 n78 = true := by kernel_rfl
theorem ok78 : NOk Tryd.prog t78 := NOk.body (T := [t92, t93, t94, t95]) mixed (nall_cons ok92 (nall_cons ok93 (nall_cons ok94 (nall_cons ok95 nall_nil)))) (oneEach_of (by kernel_rfl)) Tryd.func78 k78 (by kernel_rfl) (fun x h => e78 _ _ _ _ _ x h)
/- drayage/alter.Check -/
def n56 : NFunc := ⟨64, .seq (.region 3 [
    ⟨(some 4), .box 18 (.tmp 0), none, 0, none⟩,
    ⟨(some 5), .box 18 (.tmp 1), none, 1, none⟩,
    ⟨(some 7), .box 17 (.tmp 3), none, 2, none⟩,
    ⟨(some 8), .move (.const (.int .i64 (0))), none, 3, none⟩] []) (.seq (.seq (.region 12 [
    ⟨(some 10), .fieldAddr 0 (.tmp 7), none, 0, none⟩,
    ⟨(some 11), .load false 1 (.tmp 10), none, 0, none⟩,
    ⟨(some 12), .call (.func 50) [(false, (.tmp 11))] false 4, none, 0, none⟩,
    ⟨(some 13), .un .not (.tmp 12), none, 4, none⟩,
    ⟨(some 14), .move (.tmp 13), none, 4, none⟩,
    ⟨(some 15), .load true 18 (.tmp 4), (some (14, false)), 4, none⟩,
    ⟨(some 16), .call (.func 76) [(false, (.tmp 15))] false 4, (some (14, false)), 4, none⟩,
    ⟨(some 17), .un .not (.tmp 16), (some (14, false)), 8, none⟩,
    ⟨(some 18), .pick (.tmp 14) (.const (.bool true)) (.tmp 17), none, 8, none⟩,
    ⟨(some 19), .move (.tmp 18), none, 8, none⟩,
    ⟨(some 20), .load true 18 (.tmp 5), (some (19, false)), 8, none⟩,
    ⟨(some 21), .call (.func 77) [(false, (.tmp 20))] false 4, (some (19, false)), 8, none⟩,
    ⟨(some 22), .un .not (.tmp 21), (some (19, false)), 12, none⟩,
    ⟨(some 23), .pick (.tmp 19) (.const (.bool true)) (.tmp 22), none, 12, none⟩,
    ⟨(some 24), .move (.tmp 23), none, 12, none⟩,
    ⟨(some 25), .move (.tmp 2), (some (24, false)), 12, none⟩,
    ⟨(some 26), .bin .lss (.tmp 25) (.const (.int .i64 (0))), (some (24, false)), 12, none⟩,
    ⟨(some 27), .pick (.tmp 24) (.const (.bool true)) (.tmp 26), none, 12, none⟩,
    ⟨(some 28), .move (.tmp 27), none, 12, none⟩,
    ⟨(some 29), .move (.tmp 2), (some (28, false)), 12, none⟩,
    ⟨(some 30), .fieldAddr 3 (.tmp 4), (some (28, false)), 12, none⟩,
    ⟨(some 31), .load false 1 (.tmp 30), (some (28, false)), 12, none⟩,
    ⟨(some 32), .bin .geq (.tmp 29) (.tmp 31), (some (28, false)), 12, none⟩,
    ⟨(some 33), .pick (.tmp 28) (.const (.bool true)) (.tmp 32), none, 12, none⟩] []) (.cond (.tmp 33) (.seq (.region 0 [
    ⟨(some 8), .move (.const (.int .i64 (2))), none, 0, none⟩] []) (.ret)) (.skip))) (.seq (.join [4, 5, 7] [] ⟨[(4, (.ptr 0 0 0)), (5, (.ptr 1 0 0)), (7, (.ptr 2 0 0))], [], [.one false .spec, .one false .job, .one false .request]⟩ (.seq (.region 0 [
    ⟨(some 34), .move (.tmp 2), none, 0, none⟩,
    ⟨(some 35), .fieldAddr 1 (.tmp 5), none, 0, none⟩,
    ⟨(some 36), .load false 1 (.tmp 35), none, 0, none⟩,
    ⟨(some 37), .bin .neq (.tmp 34) (.tmp 36), none, 0, none⟩,
    ⟨(some 38), .move (.tmp 37), none, 0, none⟩,
    ⟨(some 39), .move (.tmp 2), (some (38, true)), 0, none⟩,
    ⟨(some 40), .bin .neq (.tmp 39) (.const (.int .i64 (0))), (some (38, true)), 0, none⟩,
    ⟨(some 41), .pick (.tmp 38) (.tmp 40) (.const (.bool false)), none, 0, none⟩] []) (.cond (.tmp 41) (.seq (.region 0 [
    ⟨(some 8), .move (.const (.int .i64 (33))), none, 0, none⟩] []) (.ret)) (.skip)))) (.seq (.join [4, 5, 7] [] ⟨[(4, (.ptr 0 0 0)), (5, (.ptr 1 0 0)), (7, (.ptr 2 0 0))], [], [.one false .spec, .one false .job, .one false .request]⟩ (.seq (.region 0 [
    ⟨(some 42), .fieldAddr 3 (.tmp 7), none, 0, none⟩,
    ⟨(some 43), .load false 1 (.tmp 42), none, 0, none⟩,
    ⟨(some 44), .bin .neq (.tmp 43) (.const (.int .i64 (0))), none, 0, none⟩,
    ⟨(some 45), .move (.tmp 44), none, 0, none⟩,
    ⟨(some 46), .fieldAddr 3 (.tmp 7), (some (45, true)), 0, none⟩,
    ⟨(some 47), .load false 1 (.tmp 46), (some (45, true)), 0, none⟩,
    ⟨(some 48), .fieldAddr 13 (.tmp 5), (some (45, true)), 0, none⟩,
    ⟨(some 49), .load false 1 (.tmp 48), (some (45, true)), 0, none⟩,
    ⟨(some 50), .bin .neq (.tmp 47) (.tmp 49), (some (45, true)), 0, none⟩,
    ⟨(some 51), .pick (.tmp 45) (.tmp 50) (.const (.bool false)), none, 0, none⟩] []) (.cond (.tmp 51) (.seq (.region 0 [
    ⟨(some 8), .move (.const (.int .i64 (32))), none, 0, none⟩] []) (.ret)) (.skip)))) (.seq (.seq (.region 4 [
    ⟨(some 52), .load true 18 (.tmp 4), none, 0, none⟩,
    ⟨(some 53), .load true 18 (.tmp 5), none, 0, none⟩,
    ⟨(some 54), .load true 17 (.tmp 7), none, 0, none⟩,
    ⟨(some 55), .call (.func 78) [(false, (.tmp 52)), (false, (.tmp 53)), (false, (.tmp 54))] false 4, none, 0, none⟩,
    ⟨(some 9), .move (.tmp 55), none, 4, none⟩] []) (.seq (.region 0 [
    ⟨(some 56), .move (.tmp 9), none, 0, none⟩,
    ⟨(some 57), .bin .neq (.tmp 56) (.const (.int .i64 (0))), none, 0, none⟩] []) (.cond (.tmp 57) (.seq (.region 0 [
    ⟨(some 58), .move (.tmp 9), none, 0, none⟩,
    ⟨(some 8), .move (.tmp 58), none, 0, none⟩] []) (.ret)) (.skip)))) (.seq (.seq (.region 0 [
    ⟨(some 59), .fieldAddr 13 (.tmp 5), none, 0, none⟩,
    ⟨(some 60), .load false 1 (.tmp 59), none, 0, none⟩,
    ⟨(some 61), .fieldAddr 12 (.tmp 4), none, 0, none⟩,
    ⟨(some 62), .load false 1 (.tmp 61), none, 0, none⟩,
    ⟨(some 63), .bin .geq (.tmp 60) (.tmp 62), none, 0, none⟩] []) (.cond (.tmp 63) (.seq (.region 0 [
    ⟨(some 8), .move (.const (.int .i64 (41))), none, 0, none⟩] []) (.ret)) (.skip))) (.seq (.region 0 [
    ⟨(some 8), .move (.const (.int .i64 (0))), none, 0, none⟩] []) (.ret))))))), [.tmp 8], true⟩
def s56 : Sig := ⟨(.cons (.v .spec) (.cons (.v .job) (.cons (.v (.int .i64)) (.cons (.v .request) .nil)))), [], ((.v (.int .i64)), []), []⟩
def F56 (L : Lp) (g50 : Int → Option Bool) (g76 : Spec → Option Bool) (g77 : Job → Option Bool) (g78 : Spec → Job → Request → Option Int) (as0 : Spec) (j1 : Job) (user2 : Int) (ar3 : Request) : Option Int :=
  Option.bind (g50 ar3.kind) fun r4 =>
  cond (!r4)
  (some 2)
  (Option.bind (g76 as0) fun r5 =>
  cond (!r5)
  (some 2)
  (Option.bind (g77 j1) fun r6 =>
  cond (!r6)
  (some 2)
  (cond (decide (user2 < 0))
  (some 2)
  (cond (decide (as0.users ≤ user2))
  (some 2)
  (Option.bind (α := (((Unit × (Unit × (Unit × Unit))) × (Spec × (Job × (Request × Unit)))) ⊕ Int))
  (cond (!decide (user2 = j1.user))
  (cond (!decide (user2 = 0))
  (some (.inr 33))
  (some (.inl (((), (), (), ()), (as0, j1, ar3, ())))))
  (some (.inl (((), (), (), ()), (as0, j1, ar3, ()))))) (Sum.elim (fun x7 =>
  Option.bind (α := (((Unit × (Unit × (Unit × Unit))) × (Spec × (Job × (Request × Unit)))) ⊕ Int))
  (cond (!decide (x7.2.2.2.1.version = 0))
  (cond (!decide (x7.2.2.2.1.version = x7.2.2.1.version))
  (some (.inr 32))
  (some (.inl (((), (), (), ()), (x7.2.1, x7.2.2.1, x7.2.2.2.1, ())))))
  (some (.inl (((), (), (), ()), (x7.2.1, x7.2.2.1, x7.2.2.2.1, ()))))) (Sum.elim (fun x8 =>
  Option.bind (g78 x8.2.1 x8.2.2.1 x8.2.2.2.1) fun r9 =>
  cond (!decide (r9 = 0))
  (some r9)
  (cond (decide (x8.2.1.versions ≤ x8.2.2.1.version))
  (some 41)
  (some 0))) some)) some))))))
theorem e56 (L : Lp) (g50 : Int → Option Bool) (g76 : Spec → Option Bool) (g77 : Job → Option Bool) (g78 : Spec → Job → Request → Option Int) (x : s56.args.den) (h : denH s56.heap) : nrun [⟨50, s50, fun x h => g50 x.1⟩, ⟨76, s76, fun x h => g76 x.1⟩, ⟨77, s77, fun x h => g77 x.1⟩, ⟨78, s78, fun x h => g78 x.1 x.2.1 x.2.2.1⟩] L n56 s56 x h = F56 L g50 g76 g77 g78 x.1 x.2.1 x.2.2.1 x.2.2.2.1 := by kernel_rfl
def f56 : Spec → Job → Int → Request → Option Int := F56 (@LN LOOPS) f50 f76 f77 f78
@[reducible] def t56 : Ent := ⟨56, s56, fun x h => f56 x.1 x.2.1 x.2.2.1 x.2.2.2.1⟩
theorem k56 : chkNF Tryd.prog Tryd.f56 n56 = true := by kernel_rfl
theorem ok56 : NOk Tryd.prog t56 := NOk.body (T := [t50, t76, t77, t78]) mixed (nall_cons ok50 (nall_cons ok76 (nall_cons ok77 (nall_cons ok78 nall_nil)))) (oneEach_of (by kernel_rfl)) Tryd.func56 k56 (by kernel_rfl) (fun x h => e56 _ _ _ _ _ x h)
/- drayage/job.Step -/
def n79 : NFunc := ⟨76, .seq (.region 2 [
    ⟨(some 4), .box 18 (.tmp 0), none, 0, none⟩,
    ⟨(some 8), .alloc [.int .i64 (0), .int .i64 (0), .int .i64 (0), .int .i64 (0), .int .i64 (0), .int .i64 (0), .int .i64 (0), .int .i64 (0), .int .i64 (0), .zsl, .int .i64 (0), .bool false, .bool false, .int .i64 (0), .int .i64 (0), .int .i64 (0), .int .i64 (0), .int .i64 (0)], none, 1, none⟩,
    ⟨(some 9), .move (.const (.int .i64 (0))), none, 2, none⟩] []) (.seq (.seq (.region 8 [
    ⟨(some 13), .load true 18 (.tmp 4), none, 0, none⟩,
    ⟨(some 14), .call (.func 77) [(false, (.tmp 13))] false 4, none, 0, none⟩,
    ⟨(some 15), .un .not (.tmp 14), none, 4, none⟩,
    ⟨(some 16), .move (.tmp 15), none, 4, none⟩,
    ⟨(some 17), .move (.tmp 2), (some (16, false)), 4, none⟩,
    ⟨(some 18), .call (.func 89) [(false, (.tmp 17)), (false, (.const (.int .i64 (0)))), (false, (.const (.int .i64 (1099511627776))))] false 4, (some (16, false)), 4, none⟩,
    ⟨(some 19), .un .not (.tmp 18), (some (16, false)), 8, none⟩,
    ⟨(some 20), .pick (.tmp 16) (.const (.bool true)) (.tmp 19), none, 8, none⟩] []) (.cond (.tmp 20) (.seq (.region 0 [
    ⟨(some 21), .build [.int .i64 (0), .int .i64 (0), .int .i64 (0), .int .i64 (0), .int .i64 (0), .int .i64 (0), .int .i64 (0), .int .i64 (0), .int .i64 (0), .zsl, .int .i64 (0), .bool false, .bool false, .int .i64 (0), .int .i64 (0), .int .i64 (0), .int .i64 (0), .int .i64 (0)] [], none, 0, none⟩,
    ⟨none, .store 18 (.tmp 8) (.tmp 21), none, 0, none⟩,
    ⟨(some 9), .move (.const (.int .i64 (2))), none, 0, none⟩] []) (.ret)) (.skip))) (.seq (.region 0 [
    ⟨(some 22), .fieldAddr 10 (.tmp 4), none, 0, none⟩,
    ⟨(some 23), .load false 1 (.tmp 22), none, 0, none⟩,
    ⟨(some 10), .move (.tmp 23), none, 0, none⟩] []) (.seq (.region 4 [
    ⟨(some 25), .move (.tmp 10), none, 0, none⟩,
    ⟨(some 26), .move (.tmp 1), none, 0, none⟩,
    ⟨(some 27), .call (.func 92) [(false, (.tmp 25)), (false, (.tmp 26))] false 4, none, 0, none⟩,
    ⟨(some 24), .move (.tmp 27), none, 4, none⟩,
    ⟨(some 28), .extract (.tmp 24) 0, none, 4, none⟩,
    ⟨(some 29), .extract (.tmp 24) 1, none, 4, none⟩,
    ⟨(some 11), .move (.tmp 28), none, 4, none⟩,
    ⟨(some 12), .move (.tmp 29), none, 4, none⟩] []) (.seq (.seq (.region 0 [
    ⟨(some 30), .move (.tmp 12), none, 0, none⟩,
    ⟨(some 31), .un .not (.tmp 30), none, 0, none⟩] []) (.cond (.tmp 31) (.seq (.region 0 [
    ⟨(some 32), .build [.int .i64 (0), .int .i64 (0), .int .i64 (0), .int .i64 (0), .int .i64 (0), .int .i64 (0), .int .i64 (0), .int .i64 (0), .int .i64 (0), .zsl, .int .i64 (0), .bool false, .bool false, .int .i64 (0), .int .i64 (0), .int .i64 (0), .int .i64 (0), .int .i64 (0)] [], none, 0, none⟩,
    ⟨none, .store 18 (.tmp 8) (.tmp 32), none, 0, none⟩,
    ⟨(some 9), .move (.const (.int .i64 (31))), none, 0, none⟩] []) (.ret)) (.skip))) (.seq (.seq (.region 0 [
    ⟨(some 33), .fieldAddr 13 (.tmp 4), none, 0, none⟩,
    ⟨(some 34), .load false 1 (.tmp 33), none, 0, none⟩,
    ⟨(some 35), .bin .eql (.tmp 34) (.const (.int .i64 (281474976710656))), none, 0, none⟩] []) (.cond (.tmp 35) (.seq (.region 0 [
    ⟨(some 36), .build [.int .i64 (0), .int .i64 (0), .int .i64 (0), .int .i64 (0), .int .i64 (0), .int .i64 (0), .int .i64 (0), .int .i64 (0), .int .i64 (0), .zsl, .int .i64 (0), .bool false, .bool false, .int .i64 (0), .int .i64 (0), .int .i64 (0), .int .i64 (0), .int .i64 (0)] [], none, 0, none⟩,
    ⟨none, .store 18 (.tmp 8) (.tmp 36), none, 0, none⟩,
    ⟨(some 9), .move (.const (.int .i64 (41))), none, 0, none⟩] []) (.ret)) (.skip))) (.seq (.region 4 [
    ⟨(some 37), .fieldAddr 9 (.tmp 4), none, 0, none⟩,
    ⟨(some 38), .load false 1 (.tmp 37), none, 0, none⟩,
    ⟨(some 39), .call (.func 54) [(false, (.tmp 38))] false 4, none, 0, none⟩,
    ⟨(some 40), .fieldAddr 9 (.tmp 4), none, 4, none⟩,
    ⟨none, .store 1 (.tmp 40) (.tmp 39), none, 4, none⟩] []) (.seq (.region 0 [
    ⟨(some 41), .move (.tmp 11), none, 0, none⟩,
    ⟨(some 42), .fieldAddr 10 (.tmp 4), none, 0, none⟩,
    ⟨none, .store 1 (.tmp 42) (.tmp 41), none, 0, none⟩] []) (.seq (.region 0 [
    ⟨(some 43), .fieldAddr 13 (.tmp 4), none, 0, none⟩,
    ⟨(some 44), .load false 1 (.tmp 43), none, 0, none⟩,
    ⟨(some 45), .bin .add (.tmp 44) (.const (.int .i64 (1))), none, 0, none⟩,
    ⟨(some 46), .fieldAddr 13 (.tmp 4), none, 0, none⟩,
    ⟨none, .store 1 (.tmp 46) (.tmp 45), none, 0, none⟩] []) (.seq (.seq (.region 0 [
    ⟨(some 47), .move (.tmp 1), none, 0, none⟩] []) (.block 0 (.seq (.block 6 (.seq (.block 5 (.seq (.block 4 (.seq (.block 3 (.seq (.block 2 (.seq (.block 1 (.seq (.seq (.seq (.region 0 [
    ⟨(some 49), .bin .eql (.tmp 47) (.const (.int .i64 (3))), none, 0, none⟩,
    ⟨(some 48), .move (.tmp 49), none, 0, none⟩] []) (.cond (.tmp 48) (.exit 1) (.skip))) (.seq (.seq (.region 0 [
    ⟨(some 51), .bin .eql (.tmp 47) (.const (.int .i64 (4))), none, 0, none⟩,
    ⟨(some 50), .move (.tmp 51), none, 0, none⟩] []) (.cond (.tmp 50) (.exit 2) (.skip))) (.seq (.seq (.region 0 [
    ⟨(some 53), .bin .eql (.tmp 47) (.const (.int .i64 (5))), none, 0, none⟩,
    ⟨(some 52), .move (.tmp 53), none, 0, none⟩] []) (.cond (.tmp 52) (.exit 3) (.skip))) (.seq (.seq (.region 0 [
    ⟨(some 55), .bin .eql (.tmp 47) (.const (.int .i64 (6))), none, 0, none⟩,
    ⟨(some 54), .move (.tmp 55), none, 0, none⟩] []) (.cond (.tmp 54) (.exit 4) (.skip))) (.seq (.seq (.region 0 [
    ⟨(some 57), .bin .eql (.tmp 47) (.const (.int .i64 (7))), none, 0, none⟩,
    ⟨(some 56), .move (.tmp 57), none, 0, none⟩] []) (.cond (.tmp 56) (.exit 5) (.skip))) (.seq (.region 0 [
    ⟨(some 59), .bin .eql (.tmp 47) (.const (.int .i64 (8))), none, 0, none⟩,
    ⟨(some 58), .move (.tmp 59), none, 0, none⟩] []) (.cond (.tmp 58) (.exit 6) (.skip)))))))) (.exit 0))) (.seq (.region 0 [
    ⟨(some 60), .move (.tmp 2), none, 0, none⟩,
    ⟨(some 61), .fieldAddr 15 (.tmp 4), none, 0, none⟩,
    ⟨none, .store 1 (.tmp 61) (.tmp 60), none, 0, none⟩] []) (.exit 0)))) (.seq (.region 0 [
    ⟨(some 62), .fieldAddr 15 (.tmp 4), none, 0, none⟩,
    ⟨none, .store 1 (.tmp 62) (.const (.int .i64 (0))), none, 0, none⟩] []) (.exit 0)))) (.seq (.region 0 [
    ⟨(some 63), .move (.tmp 3), none, 0, none⟩,
    ⟨(some 64), .fieldAddr 11 (.tmp 4), none, 0, none⟩,
    ⟨none, .store 1 (.tmp 64) (.tmp 63), none, 0, none⟩] []) (.exit 0)))) (.seq (.seq (.region 0 [
    ⟨(some 65), .fieldAddr 12 (.tmp 4), none, 0, none⟩,
    ⟨none, .store 1 (.tmp 65) (.const (.bool true)), none, 0, none⟩] []) (.region 0 [
    ⟨(some 66), .fieldAddr 11 (.tmp 4), none, 0, none⟩,
    ⟨none, .store 1 (.tmp 66) (.const (.bool false)), none, 0, none⟩] [])) (.exit 0)))) (.seq (.region 0 [
    ⟨(some 67), .fieldAddr 12 (.tmp 4), none, 0, none⟩,
    ⟨none, .store 1 (.tmp 67) (.const (.bool false)), none, 0, none⟩] []) (.seq (.region 0 [
    ⟨(some 68), .move (.tmp 10), none, 0, none⟩,
    ⟨(some 69), .bin .neq (.tmp 68) (.const (.int .i64 (3))), none, 0, none⟩] []) (.cond (.tmp 69) (.exit 0) (.skip)))))) (.seq (.region 0 [
    ⟨(some 70), .fieldAddr 11 (.tmp 4), none, 0, none⟩,
    ⟨none, .store 1 (.tmp 70) (.const (.bool false)), none, 0, none⟩] []) (.exit 0))))) (.seq (.seq (.region 4 [
    ⟨(some 71), .move (.tmp 11), none, 0, none⟩,
    ⟨(some 72), .call (.func 96) [(false, (.tmp 71))] false 4, none, 0, none⟩] []) (.cond (.tmp 72) (.region 0 [
    ⟨(some 73), .move (.tmp 2), none, 0, none⟩,
    ⟨(some 74), .fieldAddr 16 (.tmp 4), none, 0, none⟩,
    ⟨none, .store 1 (.tmp 74) (.tmp 73), none, 0, none⟩] []) (.skip))) (.seq (.region 0 [
    ⟨(some 75), .load true 18 (.tmp 4), none, 0, none⟩,
    ⟨none, .store 18 (.tmp 8) (.tmp 75), none, 0, none⟩,
    ⟨(some 9), .move (.const (.int .i64 (0))), none, 0, none⟩] []) (.ret)))))))))))), [.cell true 18 8, .tmp 9], true⟩
def s79 : Sig := ⟨(.cons (.v .job) (.cons (.v (.int .i64)) (.cons (.v (.int .i64)) (.cons (.v .bool) .nil)))), [], ((.tup (.cons (.v .job) (.cons (.v (.int .i64)) .nil))), []), []⟩
def F79 (L : Lp) (g77 : Job → Option Bool) (g89 : Int → Int → Int → Option Bool) (g92 : Int → Int → Option (Int × (Bool × Unit))) (g54 : (List Dep) → Option (Unit × ((List Dep) × Unit))) (g96 : Int → Option Bool) (j0 : Job) (what1 : Int) (now2 : Int) (ok3 : Bool) : Option (Job × (Int × Unit)) :=
  Option.bind (g77 j0) fun r4 =>
  cond (!r4)
  (some (Job.mk 0 0 0 0 (Res.mk 0 0 0 0) 0 [] 0 false false 0 0 0 0 0, 2, ()))
  (Option.bind (g89 now2 0 1099511627776) fun r5 =>
  cond (!r5)
  (some (Job.mk 0 0 0 0 (Res.mk 0 0 0 0) 0 [] 0 false false 0 0 0 0 0, 2, ()))
  (Option.bind (g92 j0.state what1) fun r6 =>
  cond (!r6.2.1)
  (some (Job.mk 0 0 0 0 (Res.mk 0 0 0 0) 0 [] 0 false false 0 0 0 0 0, 31, ()))
  (cond (decide (j0.version = 281474976710656))
  (some (Job.mk 0 0 0 0 (Res.mk 0 0 0 0) 0 [] 0 false false 0 0 0 0 0, 41, ()))
  (Option.bind (g54 j0.after) fun r7 =>
  cond (decide (what1 = 3))
  (Option.bind (g96 r6.1) fun r8 =>
  cond r8
  (some (Job.mk j0.id j0.user j0.queue j0.many j0.need j0.wall r7.2.1 r6.1 j0.ok j0.kill (IntKind.wrap .i64 (j0.version + 1)) j0.born now2 now2 j0.array, 0, ()))
  (some (Job.mk j0.id j0.user j0.queue j0.many j0.need j0.wall r7.2.1 r6.1 j0.ok j0.kill (IntKind.wrap .i64 (j0.version + 1)) j0.born now2 j0.fin j0.array, 0, ())))
  (cond (decide (what1 = 4))
  (Option.bind (g96 r6.1) fun r9 =>
  cond r9
  (some (Job.mk j0.id j0.user j0.queue j0.many j0.need j0.wall r7.2.1 r6.1 j0.ok j0.kill (IntKind.wrap .i64 (j0.version + 1)) j0.born 0 now2 j0.array, 0, ()))
  (some (Job.mk j0.id j0.user j0.queue j0.many j0.need j0.wall r7.2.1 r6.1 j0.ok j0.kill (IntKind.wrap .i64 (j0.version + 1)) j0.born 0 j0.fin j0.array, 0, ())))
  (cond (decide (what1 = 5))
  (Option.bind (g96 r6.1) fun r10 =>
  cond r10
  (some (Job.mk j0.id j0.user j0.queue j0.many j0.need j0.wall r7.2.1 r6.1 ok3 j0.kill (IntKind.wrap .i64 (j0.version + 1)) j0.born j0.start now2 j0.array, 0, ()))
  (some (Job.mk j0.id j0.user j0.queue j0.many j0.need j0.wall r7.2.1 r6.1 ok3 j0.kill (IntKind.wrap .i64 (j0.version + 1)) j0.born j0.start j0.fin j0.array, 0, ())))
  (cond (decide (what1 = 6))
  (Option.bind (g96 r6.1) fun r11 =>
  cond r11
  (some (Job.mk j0.id j0.user j0.queue j0.many j0.need j0.wall r7.2.1 r6.1 false true (IntKind.wrap .i64 (j0.version + 1)) j0.born j0.start now2 j0.array, 0, ()))
  (some (Job.mk j0.id j0.user j0.queue j0.many j0.need j0.wall r7.2.1 r6.1 false true (IntKind.wrap .i64 (j0.version + 1)) j0.born j0.start j0.fin j0.array, 0, ())))
  (cond (decide (what1 = 7))
  (cond (!decide (j0.state = 3))
  (Option.bind (g96 r6.1) fun r12 =>
  cond r12
  (some (Job.mk j0.id j0.user j0.queue j0.many j0.need j0.wall r7.2.1 r6.1 j0.ok false (IntKind.wrap .i64 (j0.version + 1)) j0.born j0.start now2 j0.array, 0, ()))
  (some (Job.mk j0.id j0.user j0.queue j0.many j0.need j0.wall r7.2.1 r6.1 j0.ok false (IntKind.wrap .i64 (j0.version + 1)) j0.born j0.start j0.fin j0.array, 0, ())))
  (Option.bind (g96 r6.1) fun r13 =>
  cond r13
  (some (Job.mk j0.id j0.user j0.queue j0.many j0.need j0.wall r7.2.1 r6.1 false false (IntKind.wrap .i64 (j0.version + 1)) j0.born j0.start now2 j0.array, 0, ()))
  (some (Job.mk j0.id j0.user j0.queue j0.many j0.need j0.wall r7.2.1 r6.1 false false (IntKind.wrap .i64 (j0.version + 1)) j0.born j0.start j0.fin j0.array, 0, ()))))
  (cond (decide (what1 = 8))
  (Option.bind (g96 r6.1) fun r14 =>
  cond r14
  (some (Job.mk j0.id j0.user j0.queue j0.many j0.need j0.wall r7.2.1 r6.1 false j0.kill (IntKind.wrap .i64 (j0.version + 1)) j0.born j0.start now2 j0.array, 0, ()))
  (some (Job.mk j0.id j0.user j0.queue j0.many j0.need j0.wall r7.2.1 r6.1 false j0.kill (IntKind.wrap .i64 (j0.version + 1)) j0.born j0.start j0.fin j0.array, 0, ())))
  (Option.bind (g96 r6.1) fun r15 =>
  cond r15
  (some (Job.mk j0.id j0.user j0.queue j0.many j0.need j0.wall r7.2.1 r6.1 j0.ok j0.kill (IntKind.wrap .i64 (j0.version + 1)) j0.born j0.start now2 j0.array, 0, ()))
  (some (Job.mk j0.id j0.user j0.queue j0.many j0.need j0.wall r7.2.1 r6.1 j0.ok j0.kill (IntKind.wrap .i64 (j0.version + 1)) j0.born j0.start j0.fin j0.array, 0, ()))))))))))))
theorem e79 (L : Lp) (g77 : Job → Option Bool) (g89 : Int → Int → Int → Option Bool) (g92 : Int → Int → Option (Int × (Bool × Unit))) (g54 : (List Dep) → Option (Unit × ((List Dep) × Unit))) (g96 : Int → Option Bool) (x : s79.args.den) (h : denH s79.heap) : nrun [⟨77, s77, fun x h => g77 x.1⟩, ⟨89, s89, fun x h => g89 x.1 x.2.1 x.2.2.1⟩, ⟨92, s92, fun x h => g92 x.1 x.2.1⟩, ⟨54, s54, fun x h => g54 x.1⟩, ⟨96, s96, fun x h => g96 x.1⟩] L n79 s79 x h = F79 L g77 g89 g92 g54 g96 x.1 x.2.1 x.2.2.1 x.2.2.2.1 := by kernel_rfl
def f79 : Job → Int → Int → Bool → Option (Job × (Int × Unit)) := F79 (@LN LOOPS) f77 f89 f92 f54 f96
@[reducible] def t79 : Ent := ⟨79, s79, fun x h => f79 x.1 x.2.1 x.2.2.1 x.2.2.2.1⟩
theorem k79 : chkNF Tryd.prog Tryd.f79 n79 = true := by kernel_rfl
theorem ok79 : NOk Tryd.prog t79 := NOk.body (T := [t77, t89, t92, t54, t96]) mixed (nall_cons ok77 (nall_cons ok89 (nall_cons ok92 (nall_cons ok54 (nall_cons ok96 nall_nil))))) (oneEach_of (by kernel_rfl)) Tryd.func79 k79 (by kernel_rfl) (fun x h => e79 _ _ _ _ _ _ x h)
/- drayage/alter.apply -/
def n57 : NFunc := ⟨36, .seq (.region 3 [
    ⟨(some 3), .box 18 (.tmp 0), none, 0, none⟩,
    ⟨(some 5), .box 17 (.tmp 2), none, 1, none⟩,
    ⟨(some 6), .alloc [.int .i64 (0), .int .i64 (0), .int .i64 (0), .int .i64 (0), .int .i64 (0), .int .i64 (0), .int .i64 (0), .int .i64 (0), .int .i64 (0), .zsl, .int .i64 (0), .bool false, .bool false, .int .i64 (0), .int .i64 (0), .int .i64 (0), .int .i64 (0), .int .i64 (0)], none, 2, none⟩,
    ⟨(some 7), .move (.const (.int .i64 (0))), none, 3, none⟩] []) (.seq (.seq (.meet [6, 1, 5, 3, 12] [] ⟨[(3, (.ptr 0 0 0)), (5, (.ptr 1 0 0)), (6, (.ptr 2 0 0)), (12, (.v .bool))], [1], [.one false .job, .one false .request, .cell false (.cons (.v (.int .i64)) (.cons (.v (.int .i64)) (.cons (.v (.int .i64)) (.cons (.v (.int .i64)) (.cons (.v (.int .i64)) (.cons (.v (.int .i64)) (.cons (.v (.int .i64)) (.cons (.v (.int .i64)) (.cons (.v (.int .i64)) (.cons .zsl (.cons (.v (.int .i64)) (.cons (.v .bool) (.cons (.v .bool) (.cons (.v (.int .i64)) (.cons (.v (.int .i64)) (.cons (.v (.int .i64)) (.cons (.v (.int .i64)) (.cons (.v (.int .i64)) .nil))))))))))))))))))]⟩ (.region 0 [
    ⟨(some 8), .fieldAddr 0 (.tmp 5), none, 0, none⟩,
    ⟨(some 9), .load false 1 (.tmp 8), none, 0, none⟩,
    ⟨(some 10), .indexArr 6 1 (.glob 1) (.tmp 9), none, 0, none⟩,
    ⟨(some 11), .load false 1 (.tmp 10), none, 0, none⟩,
    ⟨(some 12), .bin .neq (.tmp 11) (.const (.int .i64 (-1))), none, 0, none⟩] [⟨10, none, some (9, 6)⟩])) (.cond (.tmp 12) (.seq (.region 4 [
    ⟨(some 13), .load true 18 (.tmp 3), none, 0, (some ([], none))⟩,
    ⟨(some 14), .fieldAddr 0 (.tmp 5), none, 0, (some ([], none))⟩,
    ⟨(some 15), .load false 1 (.tmp 14), none, 0, (some ([], none))⟩,
    ⟨(some 16), .indexArr 6 1 (.glob 1) (.tmp 15), none, 0, (some ([], none))⟩,
    ⟨(some 17), .load false 1 (.tmp 16), none, 0, (some ([], none))⟩,
    ⟨(some 18), .move (.tmp 1), none, 0, (some ([], none))⟩,
    ⟨(some 19), .call (.func 79) [(false, (.tmp 13)), (false, (.tmp 17)), (false, (.tmp 18)), (false, (.const (.bool false)))] false 4, none, 0, (some ([], none))⟩,
    ⟨(some 20), .extract (.tmp 19) 0, none, 4, (some ([0, 1, 2, 3], none))⟩,
    ⟨(some 21), .extract (.tmp 19) 1, none, 4, (some ([0, 1, 2, 3], none))⟩,
    ⟨none, .store 18 (.tmp 6) (.tmp 20), none, 4, (some ([0, 1, 2, 3], none))⟩,
    ⟨(some 7), .move (.tmp 21), none, 4, (some ([0, 1, 2, 3], none))⟩] [⟨16, none, some (15, 6)⟩]) (.ret)) (.skip))) (.seq (.region 0 [
    ⟨(some 22), .fieldAddr 5 (.tmp 5), none, 0, (some ([], none))⟩,
    ⟨(some 23), .load false 1 (.tmp 22), none, 0, (some ([], some [1]))⟩,
    ⟨(some 24), .fieldAddr 6 (.tmp 5), none, 0, (some ([], none))⟩,
    ⟨(some 25), .load true 4 (.tmp 24), none, 0, (some ([], some [1]))⟩,
    ⟨(some 26), .fieldAddr 10 (.tmp 5), none, 0, (some ([], none))⟩,
    ⟨(some 27), .load false 1 (.tmp 26), none, 0, (some ([], some [1]))⟩,
    ⟨(some 28), .fieldAddr 3 (.tmp 3), none, 0, (some ([], none))⟩,
    ⟨none, .store 1 (.tmp 28) (.tmp 23), none, 0, (some ([], some [0]))⟩,
    ⟨(some 29), .fieldAddr 4 (.tmp 3), none, 0, (some ([], none))⟩,
    ⟨none, .store 4 (.tmp 29) (.tmp 25), none, 0, (some ([], some [0]))⟩,
    ⟨(some 30), .fieldAddr 8 (.tmp 3), none, 0, (some ([], none))⟩,
    ⟨none, .store 1 (.tmp 30) (.tmp 27), none, 0, (some ([], some [0]))⟩] []) (.seq (.region 0 [
    ⟨(some 31), .fieldAddr 13 (.tmp 3), none, 0, none⟩,
    ⟨(some 32), .load false 1 (.tmp 31), none, 0, none⟩,
    ⟨(some 33), .bin .add (.tmp 32) (.const (.int .i64 (1))), none, 0, none⟩,
    ⟨(some 34), .fieldAddr 13 (.tmp 3), none, 0, none⟩,
    ⟨none, .store 1 (.tmp 34) (.tmp 33), none, 0, none⟩] []) (.seq (.region 0 [
    ⟨(some 35), .load true 18 (.tmp 3), none, 0, none⟩,
    ⟨none, .store 18 (.tmp 6) (.tmp 35), none, 0, none⟩,
    ⟨(some 7), .move (.const (.int .i64 (0))), none, 0, none⟩] []) (.ret))))), [.cell true 18 6, .tmp 7], true⟩
def s57 : Sig := ⟨(.cons (.v .job) (.cons (.v (.int .i64)) (.cons (.v .request) .nil))), [], ((.tup (.cons (.v .job) (.cons (.v (.int .i64)) .nil))), []), []⟩
def F57 (L : Lp) (g79 : Job → Int → Int → Bool → Option (Job × (Int × Unit))) (j0 : Job) (now1 : Int) (ar2 : Request) : Option (Job × (Int × Unit)) :=
  Option.bind (α := ((Unit × (Unit × (Unit × (Bool × Unit)))) × (Job × (Request × ((Int × (Int × (Int × (Int × (Int × (Int × (Int × (Int × (Int × (Unit × (Int × (Bool × (Bool × (Int × (Int × (Int × (Int × (Int × Unit)))))))))))))))))) × Unit)))))
  (cond (decide (ar2.kind = 5))
  (some (((), (), (), true, ()), (j0, ar2, (0, 0, 0, 0, 0, 0, 0, 0, 0, (), 0, false, false, 0, 0, 0, 0, 0, ()), ())))
  (cond (decide (ar2.kind = 4))
  (some (((), (), (), true, ()), (j0, ar2, (0, 0, 0, 0, 0, 0, 0, 0, 0, (), 0, false, false, 0, 0, 0, 0, 0, ()), ())))
  (cond (decide (ar2.kind = 3))
  (some (((), (), (), true, ()), (j0, ar2, (0, 0, 0, 0, 0, 0, 0, 0, 0, (), 0, false, false, 0, 0, 0, 0, 0, ()), ())))
  (cond (decide (ar2.kind = 2))
  (some (((), (), (), false, ()), (j0, ar2, (0, 0, 0, 0, 0, 0, 0, 0, 0, (), 0, false, false, 0, 0, 0, 0, 0, ()), ())))
  (cond (decide (ar2.kind = 1))
  (some (((), (), (), true, ()), (j0, ar2, (0, 0, 0, 0, 0, 0, 0, 0, 0, (), 0, false, false, 0, 0, 0, 0, 0, ()), ())))
  (cond (decide (ar2.kind = 0))
  (some (((), (), (), true, ()), (j0, ar2, (0, 0, 0, 0, 0, 0, 0, 0, 0, (), 0, false, false, 0, 0, 0, 0, 0, ()), ())))
  (none))))))) fun x3 =>
  cond x3.1.2.2.2.1
  (cond (decide (x3.2.2.1.kind = 5))
  (Option.bind (g79 x3.2.1 6 now1 false) fun r4 =>
  some (r4.1, r4.2.1, ()))
  (cond (decide (x3.2.2.1.kind = 4))
  (Option.bind (g79 x3.2.1 2 now1 false) fun r5 =>
  some (r5.1, r5.2.1, ()))
  (cond (decide (x3.2.2.1.kind = 3))
  (Option.bind (g79 x3.2.1 1 now1 false) fun r6 =>
  some (r6.1, r6.2.1, ()))
  (cond (decide (x3.2.2.1.kind = 2))
  (Option.bind (g79 x3.2.1 (-1) now1 false) fun r7 =>
  some (r7.1, r7.2.1, ()))
  (cond (decide (x3.2.2.1.kind = 1))
  (Option.bind (g79 x3.2.1 0 now1 false) fun r8 =>
  some (r8.1, r8.2.1, ()))
  (cond (decide (x3.2.2.1.kind = 0))
  (Option.bind (g79 x3.2.1 0 now1 false) fun r9 =>
  some (r9.1, r9.2.1, ()))
  (none)))))))
  (some (Job.mk x3.2.1.id x3.2.1.user x3.2.1.queue x3.2.2.1.many x3.2.2.1.need x3.2.2.1.wall x3.2.1.after x3.2.1.state x3.2.1.ok x3.2.1.kill (IntKind.wrap .i64 (x3.2.1.version + 1)) x3.2.1.born x3.2.1.start x3.2.1.fin x3.2.1.array, 0, ()))
theorem e57 (L : Lp) (g79 : Job → Int → Int → Bool → Option (Job × (Int × Unit))) (x : s57.args.den) (h : denH s57.heap) : nrun [⟨79, s79, fun x h => g79 x.1 x.2.1 x.2.2.1 x.2.2.2.1⟩] L n57 s57 x h = F57 L g79 x.1 x.2.1 x.2.2.1 := by kernel_rfl
def f57 : Job → Int → Request → Option (Job × (Int × Unit)) := F57 (@LN LOOPS) f79
@[reducible] def t57 : Ent := ⟨57, s57, fun x h => f57 x.1 x.2.1 x.2.2.1⟩
theorem k57 : chkNF Tryd.prog Tryd.f57 n57 = true := by kernel_rfl
theorem ok57 : NOk Tryd.prog t57 := NOk.body (T := [t79]) mixed (nall_cons ok79 nall_nil) (oneEach_of (by kernel_rfl)) Tryd.func57 k57 (by kernel_rfl) (fun x h => e57 _ _ x h)
/- drayage/alter.Do -/
def n26 : NFunc := ⟨65, .seq (.region 5 [
    ⟨(some 4), .box 18 (.tmp 0), none, 0, none⟩,
    ⟨(some 5), .box 18 (.tmp 1), none, 1, none⟩,
    ⟨(some 7), .box 18 (.tmp 3), none, 2, none⟩,
    ⟨(some 8), .alloc [.int .i64 (0), .int .i64 (0), .int .i64 (0), .int .i64 (0), .int .i64 (0), .int .i64 (0), .int .i64 (0), .int .i64 (0), .int .i64 (0), .zsl, .int .i64 (0), .bool false, .bool false, .int .i64 (0), .int .i64 (0), .int .i64 (0), .int .i64 (0), .int .i64 (0)], none, 3, none⟩,
    ⟨(some 9), .alloc [.int .i64 (0), .int .i64 (0), .int .i64 (0), .int .i64 (0), .zsl], none, 4, none⟩] []) (.seq (.region 1 [
    ⟨(some 14), .fieldAddr 1 (.tmp 7), none, 0, none⟩,
    ⟨(some 15), .load true 17 (.tmp 14), none, 0, none⟩,
    ⟨(some 10), .alloc [.int .i64 (0), .int .i64 (0), .int .i64 (0), .int .i64 (0), .int .i64 (0), .int .i64 (0), .int .i64 (0), .int .i64 (0), .int .i64 (0), .int .i64 (0), .int .i64 (0), .int .i64 (0), .zsl, .int .i64 (0), .int .i64 (0), .int .i64 (0), .int .i64 (0)], none, 0, none⟩,
    ⟨none, .store 17 (.tmp 10) (.tmp 15), none, 1, none⟩] []) (.seq (.post [8, 9, 10, 5, 2, 7, 4] [.frzC 5 9] (.region 4 [
    ⟨(some 16), .fieldAddr 9 (.tmp 5), none, 0, none⟩,
    ⟨(some 17), .load false 1 (.tmp 16), none, 0, none⟩,
    ⟨(some 18), .call (.func 54) [(false, (.tmp 17))] false 4, none, 0, none⟩,
    ⟨(some 19), .fieldAddr 9 (.tmp 5), none, 4, none⟩,
    ⟨none, .store 1 (.tmp 19) (.tmp 18), none, 4, none⟩] [])) (.seq (.seq (.region 0 [
    ⟨(some 20), .move (.tmp 2), none, 0, none⟩,
    ⟨(some 21), .bin .lss (.tmp 20) (.const (.int .i64 (0))), none, 0, none⟩,
    ⟨(some 22), .move (.tmp 21), none, 0, none⟩,
    ⟨(some 23), .move (.tmp 2), (some (22, false)), 0, none⟩,
    ⟨(some 24), .bin .gtr (.tmp 23) (.const (.int .i64 (1099511627776))), (some (22, false)), 0, none⟩,
    ⟨(some 25), .pick (.tmp 22) (.const (.bool true)) (.tmp 24), none, 0, none⟩] []) (.cond (.tmp 25) (.seq (.region 4 [
    ⟨(some 26), .load true 18 (.tmp 5), none, 0, (some ([], none))⟩,
    ⟨(some 27), .fieldAddr 1 (.tmp 10), none, 0, (some ([], none))⟩,
    ⟨(some 28), .load false 1 (.tmp 27), none, 0, (some ([], none))⟩,
    ⟨(some 29), .call (.func 55) [(false, (.tmp 28)), (false, (.const (.int .i64 (2))))] true 4, none, 0, (some ([], none))⟩,
    ⟨none, .store 18 (.tmp 8) (.tmp 26), none, 4, (some ([0, 1, 2, 3], none))⟩,
    ⟨none, .store 5 (.tmp 9) (.tmp 29), none, 4, (some ([0, 1, 2, 3], none))⟩] []) (.ret)) (.skip))) (.seq (.seq (.region 4 [
    ⟨(some 30), .load true 18 (.tmp 4), none, 0, none⟩,
    ⟨(some 31), .load true 18 (.tmp 5), none, 0, none⟩,
    ⟨(some 32), .fieldAddr 0 (.tmp 7), none, 0, none⟩,
    ⟨(some 33), .load false 1 (.tmp 32), none, 0, none⟩,
    ⟨(some 34), .load true 17 (.tmp 10), none, 0, none⟩,
    ⟨(some 35), .call (.func 56) [(false, (.tmp 30)), (false, (.tmp 31)), (false, (.tmp 33)), (false, (.tmp 34))] false 4, none, 0, none⟩,
    ⟨(some 11), .move (.tmp 35), none, 4, none⟩] []) (.seq (.region 0 [
    ⟨(some 36), .move (.tmp 11), none, 0, none⟩,
    ⟨(some 37), .bin .neq (.tmp 36) (.const (.int .i64 (0))), none, 0, none⟩] []) (.cond (.tmp 37) (.seq (.region 4 [
    ⟨(some 38), .load true 18 (.tmp 5), none, 0, (some ([], none))⟩,
    ⟨(some 39), .fieldAddr 1 (.tmp 10), none, 0, (some ([], none))⟩,
    ⟨(some 40), .load false 1 (.tmp 39), none, 0, (some ([], none))⟩,
    ⟨(some 41), .move (.tmp 11), none, 0, (some ([], none))⟩,
    ⟨(some 42), .call (.func 55) [(false, (.tmp 40)), (false, (.tmp 41))] true 4, none, 0, (some ([], none))⟩,
    ⟨none, .store 18 (.tmp 8) (.tmp 38), none, 4, (some ([0, 1, 2, 3], none))⟩,
    ⟨none, .store 5 (.tmp 9) (.tmp 42), none, 4, (some ([0, 1, 2, 3], none))⟩] []) (.ret)) (.skip)))) (.seq (.region 5 [
    ⟨(some 44), .load true 18 (.tmp 5), none, 0, none⟩,
    ⟨(some 45), .move (.tmp 2), none, 0, none⟩,
    ⟨(some 46), .load true 17 (.tmp 10), none, 0, none⟩,
    ⟨(some 47), .call (.func 57) [(false, (.tmp 44)), (false, (.tmp 45)), (false, (.tmp 46))] false 4, none, 0, none⟩,
    ⟨(some 43), .move (.tmp 47), none, 4, none⟩,
    ⟨(some 48), .extract (.tmp 43) 0, none, 4, none⟩,
    ⟨(some 49), .extract (.tmp 43) 1, none, 4, none⟩,
    ⟨(some 12), .alloc [.int .i64 (0), .int .i64 (0), .int .i64 (0), .int .i64 (0), .int .i64 (0), .int .i64 (0), .int .i64 (0), .int .i64 (0), .int .i64 (0), .zsl, .int .i64 (0), .bool false, .bool false, .int .i64 (0), .int .i64 (0), .int .i64 (0), .int .i64 (0), .int .i64 (0)], none, 4, none⟩,
    ⟨none, .store 18 (.tmp 12) (.tmp 48), none, 5, none⟩,
    ⟨(some 13), .move (.tmp 49), none, 5, none⟩] []) (.seq (.seq (.region 0 [
    ⟨(some 50), .move (.tmp 13), none, 0, none⟩,
    ⟨(some 51), .bin .neq (.tmp 50) (.const (.int .i64 (0))), none, 0, none⟩] []) (.cond (.tmp 51) (.seq (.region 4 [
    ⟨(some 52), .load true 18 (.tmp 5), none, 0, (some ([], none))⟩,
    ⟨(some 53), .fieldAddr 1 (.tmp 10), none, 0, (some ([], none))⟩,
    ⟨(some 54), .load false 1 (.tmp 53), none, 0, (some ([], none))⟩,
    ⟨(some 55), .move (.tmp 13), none, 0, (some ([], none))⟩,
    ⟨(some 56), .call (.func 55) [(false, (.tmp 54)), (false, (.tmp 55))] true 4, none, 0, (some ([], none))⟩,
    ⟨none, .store 18 (.tmp 8) (.tmp 52), none, 4, (some ([0, 1, 2, 3], none))⟩,
    ⟨none, .store 5 (.tmp 9) (.tmp 56), none, 4, (some ([0, 1, 2, 3], none))⟩] []) (.ret)) (.skip))) (.seq (.region 0 [
    ⟨(some 57), .load true 18 (.tmp 12), none, 0, (some ([], some [14]))⟩,
    ⟨(some 58), .fieldAddr 1 (.tmp 10), none, 0, (some ([], none))⟩,
    ⟨(some 59), .load false 1 (.tmp 58), none, 0, (some ([], some [5]))⟩,
    ⟨(some 60), .fieldAddr 0 (.tmp 12), none, 0, (some ([], none))⟩,
    ⟨(some 61), .load false 1 (.tmp 60), none, 0, (some ([], some [14]))⟩,
    ⟨(some 62), .fieldAddr 13 (.tmp 12), none, 0, (some ([], none))⟩,
    ⟨(some 63), .load false 1 (.tmp 62), none, 0, (some ([], some [14]))⟩,
    ⟨(some 64), .build [.int .i64 (0), .int .i64 (0), .int .i64 (0), .int .i64 (0), .zsl] [(0, 1, (.tmp 59)), (2, 1, (.tmp 61)), (3, 1, (.tmp 63))], none, 0, (some ([], none))⟩,
    ⟨none, .store 18 (.tmp 8) (.tmp 57), none, 0, (some ([], some [3]))⟩,
    ⟨none, .store 5 (.tmp 9) (.tmp 64), none, 0, (some ([], some [4]))⟩] []) (.ret)))))))), [.cell true 18 8, .cell true 5 9], true⟩
def s26 : Sig := ⟨(.cons (.v .spec) (.cons (.v .job) (.cons (.v (.int .i64)) (.cons (.v .call) .nil)))), [], ((.tup (.cons (.v .job) (.cons (.v .reply) .nil))), []), []⟩
def F26 (L : Lp) (g54 : (List Dep) → Option (Unit × ((List Dep) × Unit))) (g55 : Int → Int → Option Reply) (g56 : Spec → Job → Int → Request → Option Int) (g57 : Job → Int → Request → Option (Job × (Int × Unit))) (as0 : Spec) (j1 : Job) (now2 : Int) (ac3 : Call) : Option (Job × (Reply × Unit)) :=
  Option.bind (g54 j1.after) fun r4 =>
  cond (decide (now2 < 0))
  (Option.bind (g55 ac3.request.key 2) fun r5 =>
  some (Job.mk j1.id j1.user j1.queue j1.many j1.need j1.wall r4.2.1 j1.state j1.ok j1.kill j1.version j1.born j1.start j1.fin j1.array, r5, ()))
  (cond (decide (1099511627776 < now2))
  (Option.bind (g55 ac3.request.key 2) fun r6 =>
  some (Job.mk j1.id j1.user j1.queue j1.many j1.need j1.wall r4.2.1 j1.state j1.ok j1.kill j1.version j1.born j1.start j1.fin j1.array, r6, ()))
  (Option.bind (g56 as0 (Job.mk j1.id j1.user j1.queue j1.many j1.need j1.wall r4.2.1 j1.state j1.ok j1.kill j1.version j1.born j1.start j1.fin j1.array) ac3.user ac3.request) fun r7 =>
  cond (!decide (r7 = 0))
  (Option.bind (g55 ac3.request.key r7) fun r8 =>
  some (Job.mk j1.id j1.user j1.queue j1.many j1.need j1.wall r4.2.1 j1.state j1.ok j1.kill j1.version j1.born j1.start j1.fin j1.array, r8, ()))
  (Option.bind (g57 (Job.mk j1.id j1.user j1.queue j1.many j1.need j1.wall r4.2.1 j1.state j1.ok j1.kill j1.version j1.born j1.start j1.fin j1.array) now2 ac3.request) fun r9 =>
  cond (!decide (r9.2.1 = 0))
  (Option.bind (g55 ac3.request.key r9.2.1) fun r10 =>
  some (Job.mk j1.id j1.user j1.queue j1.many j1.need j1.wall r4.2.1 j1.state j1.ok j1.kill j1.version j1.born j1.start j1.fin j1.array, r10, ()))
  (some (r9.1, Reply.mk ac3.request.key 0 r9.1.id r9.1.version [], ())))))
theorem e26 (L : Lp) (g54 : (List Dep) → Option (Unit × ((List Dep) × Unit))) (g55 : Int → Int → Option Reply) (g56 : Spec → Job → Int → Request → Option Int) (g57 : Job → Int → Request → Option (Job × (Int × Unit))) (x : s26.args.den) (h : denH s26.heap) : nrun [⟨54, s54, fun x h => g54 x.1⟩, ⟨55, s55, fun x h => g55 x.1 x.2.1⟩, ⟨56, s56, fun x h => g56 x.1 x.2.1 x.2.2.1 x.2.2.2.1⟩, ⟨57, s57, fun x h => g57 x.1 x.2.1 x.2.2.1⟩] L n26 s26 x h = F26 L g54 g55 g56 g57 x.1 x.2.1 x.2.2.1 x.2.2.2.1 := by kernel_rfl
def f26 : Spec → Job → Int → Call → Option (Job × (Reply × Unit)) := F26 (@LN LOOPS) f54 f55 f56 f57
@[reducible] def t26 : Ent := ⟨26, s26, fun x h => f26 x.1 x.2.1 x.2.2.1 x.2.2.2.1⟩
theorem k26 : chkNF Tryd.prog Tryd.f26 n26 = true := by kernel_rfl
theorem ok26 : NOk Tryd.prog t26 := NOk.body (T := [t54, t55, t56, t57]) mixed (nall_cons ok54 (nall_cons ok55 (nall_cons ok56 (nall_cons ok57 nall_nil)))) (oneEach_of (by kernel_rfl)) Tryd.func26 k26 (by kernel_rfl) (fun x h => e26 _ _ _ _ _ x h)
/- drayage/drayageref01.Ints -/
def n71 : NFunc := ⟨26, .seq (.region 0 [
    ⟨(some 4), .move (.const (.bool false)), none, 0, none⟩] []) (.seq (.seq (.region 0 [
    ⟨(some 6), .move (.tmp 0), none, 0, none⟩,
    ⟨(some 7), .len (.tmp 6), none, 0, none⟩,
    ⟨(some 8), .move (.tmp 1), none, 0, none⟩,
    ⟨(some 9), .len (.tmp 8), none, 0, none⟩,
    ⟨(some 10), .bin .neq (.tmp 7) (.tmp 9), none, 0, none⟩] []) (.cond (.tmp 10) (.seq (.region 0 [
    ⟨(some 4), .move (.const (.bool false)), none, 0, none⟩] []) (.ret)) (.skip))) (.seq (.seq (.region 0 [
    ⟨(some 5), .move (.const (.int .i64 (0))), none, 0, none⟩] []) (.block 0 (.loop [0, 1, 5] ⟨[(5, (.v (.int .i64)))], [0, 1], []⟩ (.seq (.seq (.region 0 [
    ⟨(some 11), .move (.tmp 5), none, 0, none⟩,
    ⟨(some 12), .move (.tmp 0), none, 0, none⟩,
    ⟨(some 13), .len (.tmp 12), none, 0, none⟩,
    ⟨(some 14), .bin .lss (.tmp 11) (.tmp 13), none, 0, none⟩] []) (.cond (.tmp 14) (.skip) (.exit 0))) (.seq (.block 1 (.seq (.region 0 [
    ⟨(some 17), .move (.tmp 0), none, 0, (some ([], none))⟩,
    ⟨(some 18), .move (.tmp 5), none, 0, (some ([], none))⟩,
    ⟨(some 19), .indexSl 1 (.tmp 17) (.tmp 18), none, 0, (some ([], none))⟩,
    ⟨(some 20), .load false 1 (.tmp 19), none, 0, (some ([], none))⟩,
    ⟨(some 21), .move (.tmp 1), none, 0, (some ([], none))⟩,
    ⟨(some 22), .move (.tmp 5), none, 0, (some ([], none))⟩,
    ⟨(some 23), .indexSl 1 (.tmp 21) (.tmp 22), none, 0, (some ([], none))⟩,
    ⟨(some 24), .load false 1 (.tmp 23), none, 0, (some ([], none))⟩,
    ⟨(some 25), .bin .neq (.tmp 20) (.tmp 24), none, 0, (some ([], none))⟩] []) (.cond (.tmp 25) (.seq (.region 0 [
    ⟨(some 4), .move (.const (.bool false)), none, 0, none⟩] []) (.ret)) (.skip)))) (.region 0 [
    ⟨(some 15), .move (.tmp 5), none, 0, none⟩,
    ⟨(some 16), .bin .add (.tmp 15) (.const (.int .i64 (1))), none, 0, none⟩,
    ⟨(some 5), .move (.tmp 16), none, 0, none⟩] [])))))) (.seq (.region 0 [
    ⟨(some 4), .move (.const (.bool true)), none, 0, none⟩] []) (.ret)))), [.tmp 4], true⟩
def s71 : Sig := ⟨(.cons (.v (.list (.int .i64))) (.cons (.v (.list (.int .i64))) .nil)), [], ((.v .bool), []), []⟩
def l71_0 (a0 : (List Int)) (b1 : (List Int)) (nx3 : ((Int × Unit) × Unit) → Option Bool) (i4 : Int) : Option Bool :=
  cond (decide (i4 < (List.length a0 : Int)))
  (cond (decide (0 ≤ i4))
  (Option.bind (a0[Int.toNat i4]?) fun y5 =>
  cond (decide (0 ≤ i4))
  (Option.bind (b1[Int.toNat i4]?) fun y6 =>
  cond (!decide (y5 = y6))
  (some false)
  (nx3 ((IntKind.wrap .i64 (i4 + 1), ()), ())))
  (none))
  (none))
  (some true)
def F71 (L : Lp)  (a0 : (List Int)) (b1 : (List Int)) : Option Bool :=
  cond (!decide ((List.length a0 : Int) = (List.length b1 : Int)))
  (some false)
  (L (fun (s2 : ((Int × Unit) × Unit)) nx3 => l71_0 a0 b1 nx3 s2.1.1) ((0, ()), ()))
theorem e71 (L : Lp)  (x : s71.args.den) (h : denH s71.heap) : nrun [] L n71 s71 x h = F71 L  x.1 x.2.1 := by kernel_rfl
def f71 : (List Int) → (List Int) → Option Bool := F71 (@LN LOOPS) 
@[reducible] def t71 : Ent := ⟨71, s71, fun x h => f71 x.1 x.2.1⟩
theorem k71 : chkNF Tryd.prog Tryd.f71 n71 = true := by kernel_rfl
theorem ok71 : NOk Tryd.prog t71 := NOk.body (T := []) mixed nall_nil (oneEach_of (by kernel_rfl)) Tryd.func71 k71 (by kernel_rfl) (fun x h => e71 _  x h)
/- drayage/drayageref09.Same -/
def n49 : NFunc := ⟨38, .seq (.region 2 [
    ⟨(some 2), .box 5 (.tmp 0), none, 0, none⟩,
    ⟨(some 3), .box 5 (.tmp 1), none, 1, none⟩,
    ⟨(some 4), .move (.const (.bool false)), none, 2, none⟩] []) (.seq (.region 4 [
    ⟨(some 5), .fieldAddr 0 (.tmp 2), none, 0, none⟩,
    ⟨(some 6), .load false 1 (.tmp 5), none, 0, none⟩,
    ⟨(some 7), .fieldAddr 0 (.tmp 3), none, 0, none⟩,
    ⟨(some 8), .load false 1 (.tmp 7), none, 0, none⟩,
    ⟨(some 9), .bin .eql (.tmp 6) (.tmp 8), none, 0, none⟩,
    ⟨(some 10), .move (.tmp 9), none, 0, none⟩,
    ⟨(some 11), .fieldAddr 1 (.tmp 2), (some (10, true)), 0, none⟩,
    ⟨(some 12), .load false 1 (.tmp 11), (some (10, true)), 0, none⟩,
    ⟨(some 13), .fieldAddr 1 (.tmp 3), (some (10, true)), 0, none⟩,
    ⟨(some 14), .load false 1 (.tmp 13), (some (10, true)), 0, none⟩,
    ⟨(some 15), .bin .eql (.tmp 12) (.tmp 14), (some (10, true)), 0, none⟩,
    ⟨(some 16), .pick (.tmp 10) (.tmp 15) (.const (.bool false)), none, 0, none⟩,
    ⟨(some 17), .move (.tmp 16), none, 0, none⟩,
    ⟨(some 18), .fieldAddr 2 (.tmp 2), (some (17, true)), 0, none⟩,
    ⟨(some 19), .load false 1 (.tmp 18), (some (17, true)), 0, none⟩,
    ⟨(some 20), .fieldAddr 2 (.tmp 3), (some (17, true)), 0, none⟩,
    ⟨(some 21), .load false 1 (.tmp 20), (some (17, true)), 0, none⟩,
    ⟨(some 22), .bin .eql (.tmp 19) (.tmp 21), (some (17, true)), 0, none⟩,
    ⟨(some 23), .pick (.tmp 17) (.tmp 22) (.const (.bool false)), none, 0, none⟩,
    ⟨(some 24), .move (.tmp 23), none, 0, none⟩,
    ⟨(some 25), .fieldAddr 3 (.tmp 2), (some (24, true)), 0, none⟩,
    ⟨(some 26), .load false 1 (.tmp 25), (some (24, true)), 0, none⟩,
    ⟨(some 27), .fieldAddr 3 (.tmp 3), (some (24, true)), 0, none⟩,
    ⟨(some 28), .load false 1 (.tmp 27), (some (24, true)), 0, none⟩,
    ⟨(some 29), .bin .eql (.tmp 26) (.tmp 28), (some (24, true)), 0, none⟩,
    ⟨(some 30), .pick (.tmp 24) (.tmp 29) (.const (.bool false)), none, 0, none⟩,
    ⟨(some 31), .move (.tmp 30), none, 0, none⟩,
    ⟨(some 32), .fieldAddr 4 (.tmp 2), (some (31, true)), 0, none⟩,
    ⟨(some 33), .load false 1 (.tmp 32), (some (31, true)), 0, none⟩,
    ⟨(some 34), .fieldAddr 4 (.tmp 3), (some (31, true)), 0, none⟩,
    ⟨(some 35), .load false 1 (.tmp 34), (some (31, true)), 0, none⟩,
    ⟨(some 36), .call (.func 71) [(false, (.tmp 33)), (false, (.tmp 35))] false 4, (some (31, true)), 0, none⟩,
    ⟨(some 37), .pick (.tmp 31) (.tmp 36) (.const (.bool false)), none, 4, none⟩,
    ⟨(some 4), .move (.tmp 37), none, 4, none⟩] []) (.ret)), [.tmp 4], true⟩
def s49 : Sig := ⟨(.cons (.v .reply) (.cons (.v .reply) .nil)), [], ((.v .bool), []), []⟩
def F49 (L : Lp) (g71 : (List Int) → (List Int) → Option Bool) (a0 : Reply) (b1 : Reply) : Option Bool :=
  cond (decide (a0.key = b1.key))
  (cond (decide (a0.err = b1.err))
  (cond (decide (a0.job = b1.job))
  (cond (decide (a0.version = b1.version))
  (Option.bind (g71 a0.nums b1.nums) fun r2 =>
  some r2)
  (some false))
  (some false))
  (some false))
  (some false)
theorem e49 (L : Lp) (g71 : (List Int) → (List Int) → Option Bool) (x : s49.args.den) (h : denH s49.heap) : nrun [⟨71, s71, fun x h => g71 x.1 x.2.1⟩] L n49 s49 x h = F49 L g71 x.1 x.2.1 := by kernel_rfl
def f49 : Reply → Reply → Option Bool := F49 (@LN LOOPS) f71
@[reducible] def t49 : Ent := ⟨49, s49, fun x h => f49 x.1 x.2.1⟩
theorem k49 : chkNF Tryd.prog Tryd.f49 n49 = true := by kernel_rfl
theorem ok49 : NOk Tryd.prog t49 := NOk.body (T := [t71]) mixed (nall_cons ok71 nall_nil) (oneEach_of (by kernel_rfl)) Tryd.func49 k49 (by kernel_rfl) (fun x h => e49 _ _ x h)
/- drayage/drayagelaw25.awake -/
def n21 : NFunc := ⟨43, .seq (.region 0 [
    ⟨(some 0), .move (.const (.bool false)), none, 0, none⟩] []) (.seq (.region 1 [
    ⟨(some 6), .build [.int .i64 (0), .int .i64 (0), .int .i64 (0), .int .i64 (0), .int .i64 (0), .int .i64 (0), .int .i64 (0), .int .i64 (0), .int .i64 (0), .int .i64 (0), .int .i64 (0), .int .i64 (0), .zsl, .int .i64 (0), .int .i64 (0), .int .i64 (0), .int .i64 (0)] [(0, 1, (.const (.int .i64 (3)))), (1, 1, (.const (.int .i64 (4)))), (2, 1, (.const (.int .i64 (3))))], none, 0, none⟩,
    ⟨(some 7), .build [.int .i64 (0), .int .i64 (0), .int .i64 (0), .int .i64 (0), .int .i64 (0), .int .i64 (0), .int .i64 (0), .int .i64 (0), .int .i64 (0), .int .i64 (0), .int .i64 (0), .int .i64 (0), .int .i64 (0), .zsl, .int .i64 (0), .int .i64 (0), .int .i64 (0), .int .i64 (0)] [(0, 1, (.const (.int .i64 (1)))), (1, 17, (.tmp 6))], none, 0, none⟩,
    ⟨(some 1), .alloc [.int .i64 (0), .int .i64 (0), .int .i64 (0), .int .i64 (0), .int .i64 (0), .int .i64 (0), .int .i64 (0), .int .i64 (0), .int .i64 (0), .int .i64 (0), .int .i64 (0), .int .i64 (0), .int .i64 (0), .zsl, .int .i64 (0), .int .i64 (0), .int .i64 (0), .int .i64 (0)], none, 0, none⟩,
    ⟨none, .store 18 (.tmp 1) (.tmp 7), none, 1, none⟩] []) (.seq (.region 14 [
    ⟨(some 9), .call (.func 47) [] true 4, none, 0, (some ([], none))⟩,
    ⟨(some 10), .call (.func 48) [] true 4, none, 4, (some ([0, 1, 2, 3], none))⟩,
    ⟨(some 11), .load true 18 (.tmp 1), none, 8, (some ([], none))⟩,
    ⟨(some 12), .call (.func 26) [(false, (.tmp 9)), (false, (.tmp 10)), (false, (.const (.int .i64 (2)))), (false, (.tmp 11))] true 4, none, 8, (some ([0, 1, 2, 3, 4, 5, 6, 7], none))⟩,
    ⟨(some 8), .move (.tmp 12), none, 12, (some ([0, 1, 2, 3, 4, 5, 6, 7, 8, 9, 10, 11], none))⟩,
    ⟨(some 13), .extract (.tmp 8) 0, none, 12, (some ([0, 1, 2, 3, 4, 5, 6, 7, 8, 9, 10, 11], none))⟩,
    ⟨(some 14), .extract (.tmp 8) 1, none, 12, (some ([0, 1, 2, 3, 4, 5, 6, 7, 8, 9, 10, 11], none))⟩,
    ⟨(some 2), .alloc [.int .i64 (0), .int .i64 (0), .int .i64 (0), .int .i64 (0), .int .i64 (0), .int .i64 (0), .int .i64 (0), .int .i64 (0), .int .i64 (0), .zsl, .int .i64 (0), .bool false, .bool false, .int .i64 (0), .int .i64 (0), .int .i64 (0), .int .i64 (0), .int .i64 (0)], none, 12, (some ([], none))⟩,
    ⟨(some 3), .alloc [.int .i64 (0), .int .i64 (0), .int .i64 (0), .int .i64 (0), .zsl], none, 13, (some ([], none))⟩,
    ⟨none, .store 18 (.tmp 2) (.tmp 13), none, 14, (some ([0, 1, 2, 3, 4, 5, 6, 7, 8, 9, 10, 11, 12, 13], none))⟩,
    ⟨none, .store 5 (.tmp 3) (.tmp 14), none, 14, (some ([0, 1, 2, 3, 4, 5, 6, 7, 8, 9, 10, 11, 12, 13], none))⟩] []) (.seq (.region 10 [
    ⟨(some 16), .call (.func 47) [] true 4, none, 0, (some ([], none))⟩,
    ⟨(some 17), .load true 18 (.tmp 2), none, 4, (some ([], none))⟩,
    ⟨(some 18), .load true 18 (.tmp 1), none, 4, (some ([], none))⟩,
    ⟨(some 19), .call (.func 26) [(false, (.tmp 16)), (false, (.tmp 17)), (false, (.const (.int .i64 (2)))), (false, (.tmp 18))] true 4, none, 4, (some ([0, 1, 2, 3], none))⟩,
    ⟨(some 15), .move (.tmp 19), none, 8, (some ([0, 1, 2, 3, 4, 5, 6, 7], none))⟩,
    ⟨(some 20), .extract (.tmp 15) 0, none, 8, (some ([0, 1, 2, 3, 4, 5, 6, 7], none))⟩,
    ⟨(some 21), .extract (.tmp 15) 1, none, 8, (some ([0, 1, 2, 3, 4, 5, 6, 7], none))⟩,
    ⟨(some 4), .alloc [.int .i64 (0), .int .i64 (0), .int .i64 (0), .int .i64 (0), .int .i64 (0), .int .i64 (0), .int .i64 (0), .int .i64 (0), .int .i64 (0), .zsl, .int .i64 (0), .bool false, .bool false, .int .i64 (0), .int .i64 (0), .int .i64 (0), .int .i64 (0), .int .i64 (0)], none, 8, (some ([], none))⟩,
    ⟨(some 5), .alloc [.int .i64 (0), .int .i64 (0), .int .i64 (0), .int .i64 (0), .zsl], none, 9, (some ([], none))⟩,
    ⟨none, .store 18 (.tmp 4) (.tmp 20), none, 10, (some ([0, 1, 2, 3, 4, 5, 6, 7, 8, 9], none))⟩,
    ⟨none, .store 5 (.tmp 5) (.tmp 21), none, 10, (some ([0, 1, 2, 3, 4, 5, 6, 7, 8, 9], none))⟩] []) (.seq (.region 8 [
    ⟨(some 22), .fieldAddr 10 (.tmp 2), none, 0, none⟩,
    ⟨(some 23), .load false 1 (.tmp 22), none, 0, none⟩,
    ⟨(some 24), .bin .eql (.tmp 23) (.const (.int .i64 (2))), none, 0, none⟩,
    ⟨(some 25), .move (.tmp 24), none, 0, none⟩,
    ⟨(some 26), .fieldAddr 13 (.tmp 2), (some (25, true)), 0, none⟩,
    ⟨(some 27), .load false 1 (.tmp 26), (some (25, true)), 0, none⟩,
    ⟨(some 28), .bin .eql (.tmp 27) (.const (.int .i64 (2))), (some (25, true)), 0, none⟩,
    ⟨(some 29), .pick (.tmp 25) (.tmp 28) (.const (.bool false)), none, 0, none⟩,
    ⟨(some 30), .move (.tmp 29), none, 0, none⟩,
    ⟨(some 31), .load true 5 (.tmp 3), (some (30, true)), 0, none⟩,
    ⟨(some 32), .build [.int .i64 (0), .int .i64 (0), .int .i64 (0), .int .i64 (0), .zsl] [(0, 1, (.const (.int .i64 (4)))), (2, 1, (.const (.int .i64 (3)))), (3, 1, (.const (.int .i64 (2))))], (some (30, true)), 0, none⟩,
    ⟨(some 33), .call (.func 49) [(false, (.tmp 31)), (false, (.tmp 32))] false 4, (some (30, true)), 0, none⟩,
    ⟨(some 34), .pick (.tmp 30) (.tmp 33) (.const (.bool false)), none, 4, none⟩,
    ⟨(some 35), .move (.tmp 34), none, 4, none⟩,
    ⟨(some 36), .fieldAddr 1 (.tmp 5), (some (35, true)), 4, none⟩,
    ⟨(some 37), .load false 1 (.tmp 36), (some (35, true)), 4, none⟩,
    ⟨(some 38), .bin .eql (.tmp 37) (.const (.int .i64 (31))), (some (35, true)), 4, none⟩,
    ⟨(some 39), .pick (.tmp 35) (.tmp 38) (.const (.bool false)), none, 4, none⟩,
    ⟨(some 40), .move (.tmp 39), none, 4, none⟩,
    ⟨(some 41), .call (.func 50) [(false, (.const (.int .i64 (5))))] false 4, (some (40, true)), 4, none⟩,
    ⟨(some 42), .pick (.tmp 40) (.tmp 41) (.const (.bool false)), none, 8, none⟩,
    ⟨(some 0), .move (.tmp 42), none, 8, none⟩] []) (.ret))))), [.tmp 0], true⟩
def s21 : Sig := ⟨.nil, [], ((.v .bool), []), []⟩
def F21 (L : Lp) (g47 : Option Spec) (g48 : Option Job) (g26 : Spec → Job → Int → Call → Option (Job × (Reply × Unit))) (g49 : Reply → Reply → Option Bool) (g50 : Int → Option Bool)  : Option Bool :=
  Option.bind (g47) fun r0 =>
  Option.bind (g48) fun r1 =>
  Option.bind (g26 r0 r1 2 (Call.mk 1 (Request.mk 3 4 3 0 0 0 (Res.mk 0 0 0 0) 0 0 [] 0 0 0 0))) fun r2 =>
  Option.bind (g47) fun r3 =>
  Option.bind (g26 r3 r2.1 2 (Call.mk 1 (Request.mk 3 4 3 0 0 0 (Res.mk 0 0 0 0) 0 0 [] 0 0 0 0))) fun r4 =>
  cond (decide (r2.1.state = 2))
  (cond (decide (r2.1.version = 2))
  (Option.bind (g49 r2.2.1 (Reply.mk 4 0 3 2 [])) fun r5 =>
  cond r5
  (cond (decide (r4.2.1.err = 31))
  (Option.bind (g50 5) fun r6 =>
  some r6)
  (some false))
  (some false))
  (some false))
  (some false)
theorem e21 (L : Lp) (g47 : Option Spec) (g48 : Option Job) (g26 : Spec → Job → Int → Call → Option (Job × (Reply × Unit))) (g49 : Reply → Reply → Option Bool) (g50 : Int → Option Bool) (x : s21.args.den) (h : denH s21.heap) : nrun [⟨47, s47, fun x h => g47 ⟩, ⟨48, s48, fun x h => g48 ⟩, ⟨26, s26, fun x h => g26 x.1 x.2.1 x.2.2.1 x.2.2.2.1⟩, ⟨49, s49, fun x h => g49 x.1 x.2.1⟩, ⟨50, s50, fun x h => g50 x.1⟩] L n21 s21 x h = F21 L g47 g48 g26 g49 g50  := by kernel_rfl
def f21 : Option Bool := F21 (@LN LOOPS) f47 f48 f26 f49 f50
@[reducible] def t21 : Ent := ⟨21, s21, fun x h => f21 ⟩
theorem k21 : chkNF Tryd.prog Tryd.f21 n21 = true := by kernel_rfl
theorem ok21 : NOk Tryd.prog t21 := NOk.body (T := [t47, t48, t26, t49, t50]) mixed (nall_cons ok47 (nall_cons ok48 (nall_cons ok26 (nall_cons ok49 (nall_cons ok50 nall_nil))))) (oneEach_of (by kernel_rfl)) Tryd.func21 k21 (by kernel_rfl) (fun x h => e21 _ _ _ _ _ _ x h)
/- drayage/drayagelaw07.Few -/
def n22 : NFunc := ⟨46, .seq (.region 1 [
    ⟨(some 1), .box 18 (.tmp 0), none, 0, none⟩,
    ⟨(some 2), .move (.const (.bool false)), none, 1, none⟩] []) (.seq (.seq (.region 0 [
    ⟨(some 7), .fieldAddr 0 (.tmp 1), none, 0, none⟩,
    ⟨(some 8), .load false 1 (.tmp 7), none, 0, none⟩,
    ⟨(some 9), .len (.tmp 8), none, 0, none⟩,
    ⟨(some 10), .bin .gtr (.tmp 9) (.const (.int .i64 (40))), none, 0, none⟩,
    ⟨(some 11), .move (.tmp 10), none, 0, none⟩,
    ⟨(some 12), .fieldAddr 1 (.tmp 1), (some (11, false)), 0, none⟩,
    ⟨(some 13), .load false 1 (.tmp 12), (some (11, false)), 0, none⟩,
    ⟨(some 14), .len (.tmp 13), (some (11, false)), 0, none⟩,
    ⟨(some 15), .bin .gtr (.tmp 14) (.const (.int .i64 (20))), (some (11, false)), 0, none⟩,
    ⟨(some 16), .pick (.tmp 11) (.const (.bool true)) (.tmp 15), none, 0, none⟩,
    ⟨(some 17), .move (.tmp 16), none, 0, none⟩,
    ⟨(some 18), .fieldAddr 2 (.tmp 1), (some (17, false)), 0, none⟩,
    ⟨(some 19), .load false 1 (.tmp 18), (some (17, false)), 0, none⟩,
    ⟨(some 20), .len (.tmp 19), (some (17, false)), 0, none⟩,
    ⟨(some 21), .bin .gtr (.tmp 20) (.const (.int .i64 (20))), (some (17, false)), 0, none⟩,
    ⟨(some 22), .pick (.tmp 17) (.const (.bool true)) (.tmp 21), none, 0, none⟩] []) (.cond (.tmp 22) (.seq (.region 0 [
    ⟨(some 2), .move (.const (.bool false)), none, 0, none⟩] []) (.ret)) (.skip))) (.seq (.seq (.region 0 [
    ⟨(some 23), .fieldAddr 1 (.tmp 1), none, 0, none⟩,
    ⟨(some 24), .load false 1 (.tmp 23), none, 0, none⟩,
    ⟨(some 25), .len (.tmp 24), none, 0, none⟩,
    ⟨(some 26), .move (.const (.int .i64 (0))), none, 0, none⟩] []) (.block 0 (.loop [1, 24, 25, 26] ⟨[(1, (.ptr 0 0 0)), (26, (.v (.int .i64)))], [24, 25], [.one false .spec]⟩ (.seq (.region 0 [
    ⟨(some 27), .bin .lss (.tmp 26) (.tmp 25), none, 0, none⟩] []) (.seq (.cond (.tmp 27) (.skip) (.exit 0)) (.seq (.block 1 (.seq (.region 0 [
    ⟨(some 28), .indexSl 1 (.tmp 24) (.tmp 26), none, 0, none⟩,
    ⟨(some 29), .load false 1 (.tmp 28), none, 0, none⟩,
    ⟨(some 4), .move (.tmp 29), none, 0, none⟩] []) (.seq (.region 0 [
    ⟨(some 30), .move (.tmp 4), none, 0, none⟩,
    ⟨(some 31), .len (.tmp 30), none, 0, none⟩,
    ⟨(some 32), .bin .gtr (.tmp 31) (.const (.int .i64 (40))), none, 0, none⟩] []) (.cond (.tmp 32) (.seq (.region 0 [
    ⟨(some 2), .move (.const (.bool false)), none, 0, none⟩] []) (.ret)) (.skip))))) (.region 0 [
    ⟨(some 33), .bin .add (.tmp 26) (.const (.int .i64 (1))), none, 0, none⟩,
    ⟨(some 26), .move (.tmp 33), none, 0, none⟩] []))))))) (.seq (.seq (.region 0 [
    ⟨(some 34), .fieldAddr 2 (.tmp 1), none, 0, none⟩,
    ⟨(some 35), .load false 1 (.tmp 34), none, 0, none⟩,
    ⟨(some 36), .len (.tmp 35), none, 0, none⟩,
    ⟨(some 37), .move (.const (.int .i64 (0))), none, 0, none⟩] []) (.block 2 (.loop [35, 36, 37] ⟨[(37, (.v (.int .i64)))], [35, 36], []⟩ (.seq (.region 0 [
    ⟨(some 38), .bin .lss (.tmp 37) (.tmp 36), none, 0, none⟩] []) (.seq (.cond (.tmp 38) (.skip) (.exit 2)) (.seq (.block 3 (.seq (.region 1 [
    ⟨(some 39), .indexSl 6 (.tmp 35) (.tmp 37), none, 0, none⟩,
    ⟨(some 40), .load true 6 (.tmp 39), none, 0, none⟩,
    ⟨(some 6), .alloc [.int .i64 (0), .zsl, .int .i64 (0), .int .i64 (0), .int .i64 (0), .int .i64 (0)], none, 0, none⟩,
    ⟨none, .store 6 (.tmp 6) (.tmp 40), none, 1, none⟩] []) (.seq (.region 0 [
    ⟨(some 41), .fieldAddr 1 (.tmp 6), none, 0, none⟩,
    ⟨(some 42), .load false 1 (.tmp 41), none, 0, none⟩,
    ⟨(some 43), .len (.tmp 42), none, 0, none⟩,
    ⟨(some 44), .bin .gtr (.tmp 43) (.const (.int .i64 (40))), none, 0, none⟩] []) (.cond (.tmp 44) (.seq (.region 0 [
    ⟨(some 2), .move (.const (.bool false)), none, 0, none⟩] []) (.ret)) (.skip))))) (.region 0 [
    ⟨(some 45), .bin .add (.tmp 37) (.const (.int .i64 (1))), none, 0, none⟩,
    ⟨(some 37), .move (.tmp 45), none, 0, none⟩] []))))))) (.seq (.region 0 [
    ⟨(some 2), .move (.const (.bool true)), none, 0, none⟩] []) (.ret))))), [.tmp 2], true⟩
def s22 : Sig := ⟨(.cons (.v .spec) .nil), [], ((.v .bool), []), []⟩
def l22_0 (z4 : Spec) (nx7 : ((Int × Unit) × Unit) → Option Bool) (z8 : Int) : Option Bool :=
  cond (decide (z8 < (List.length z4.queues : Int)))
  (cond (decide (0 ≤ z8))
  (Option.bind (z4.queues[Int.toNat z8]?) fun y9 =>
  cond (decide (40 < (List.length y9.users : Int)))
  (some false)
  (nx7 ((IntKind.wrap .i64 (z8 + 1), ()), ())))
  (none))
  (some true)
def l22_1 (L : Lp) (as0 : Spec) (nx2 : ((Unit × (Int × Unit)) × (Spec × Unit)) → Option Bool) (z3 : Int) (z4 : Spec) : Option Bool :=
  cond (decide (z3 < (List.length as0.parts : Int)))
  (cond (decide (0 ≤ z3))
  (Option.bind (as0.parts[Int.toNat z3]?) fun y5 =>
  cond (decide (40 < (List.length y5 : Int)))
  (some false)
  (nx2 (((), IntKind.wrap .i64 (z3 + 1), ()), (z4, ()))))
  (none))
  (L (fun (s6 : ((Int × Unit) × Unit)) nx7 => l22_0 z4 nx7 s6.1.1) ((0, ()), ()))
def F22 (L : Lp)  (as0 : Spec) : Option Bool :=
  cond (decide (40 < (List.length as0.nodes : Int)))
  (some false)
  (cond (decide (20 < (List.length as0.parts : Int)))
  (some false)
  (cond (decide (20 < (List.length as0.queues : Int)))
  (some false)
  (L (fun (s1 : ((Unit × (Int × Unit)) × (Spec × Unit))) nx2 => l22_1 L as0 nx2 s1.1.2.1 s1.2.1) (((), 0, ()), (as0, ())))))
theorem e22 (L : Lp)  (x : s22.args.den) (h : denH s22.heap) : nrun [] L n22 s22 x h = F22 L  x.1 := by kernel_rfl
def f22 : Spec → Option Bool := F22 (@LN LOOPS) 
@[reducible] def t22 : Ent := ⟨22, s22, fun x h => f22 x.1⟩
theorem k22 : chkNF Tryd.prog Tryd.f22 n22 = true := by kernel_rfl
theorem ok22 : NOk Tryd.prog t22 := NOk.body (T := []) mixed nall_nil (oneEach_of (by kernel_rfl)) Tryd.func22 k22 (by kernel_rfl) (fun x h => e22 _  x h)
/- drayage/drayageref07.in -/
def n72 : NFunc := ⟨15, .seq (.region 0 [
    ⟨(some 6), .move (.const (.bool false)), none, 0, none⟩] []) (.seq (.region 0 [
    ⟨(some 7), .move (.tmp 1), none, 0, none⟩,
    ⟨(some 8), .move (.tmp 0), none, 0, none⟩,
    ⟨(some 9), .bin .leq (.tmp 7) (.tmp 8), none, 0, none⟩,
    ⟨(some 10), .move (.tmp 9), none, 0, none⟩,
    ⟨(some 11), .move (.tmp 0), (some (10, true)), 0, none⟩,
    ⟨(some 12), .move (.tmp 2), (some (10, true)), 0, none⟩,
    ⟨(some 13), .bin .leq (.tmp 11) (.tmp 12), (some (10, true)), 0, none⟩,
    ⟨(some 14), .pick (.tmp 10) (.tmp 13) (.const (.bool false)), none, 0, none⟩,
    ⟨(some 6), .move (.tmp 14), none, 0, none⟩] []) (.ret)), [.tmp 6], true⟩
def s72 : Sig := ⟨(.cons (.v (.int .i64)) (.cons (.v (.int .i64)) (.cons (.v (.int .i64)) .nil))), [], ((.v .bool), []), []⟩
def F72 (L : Lp)  (an0 : Int) (lo1 : Int) (hi2 : Int) : Option Bool :=
  cond (decide (lo1 ≤ an0))
  (some (decide (an0 ≤ hi2)))
  (some false)
theorem e72 (L : Lp)  (x : s72.args.den) (h : denH s72.heap) : nrun [] L n72 s72 x h = F72 L  x.1 x.2.1 x.2.2.1 := by kernel_rfl
def f72 : Int → Int → Int → Option Bool := F72 (@LN LOOPS) 
@[reducible] def t72 : Ent := ⟨72, s72, fun x h => f72 x.1 x.2.1 x.2.2.1⟩
theorem k72 : chkNF Tryd.prog Tryd.f72 n72 = true := by kernel_rfl
theorem ok72 : NOk Tryd.prog t72 := NOk.body (T := []) mixed nall_nil (oneEach_of (by kernel_rfl)) Tryd.func72 k72 (by kernel_rfl) (fun x h => e72 _  x h)
/- drayage/drayageref02.right -/
def n62 : NFunc := ⟨9, .seq (.region 0 [
    ⟨(some 2), .move (.const (.bool false)), none, 0, none⟩] []) (.seq (.region 0 [
    ⟨(some 3), .move (.tmp 0), none, 0, none⟩,
    ⟨(some 4), .bin .geq (.tmp 3) (.const (.int .i64 (0))), none, 0, none⟩,
    ⟨(some 5), .move (.tmp 4), none, 0, none⟩,
    ⟨(some 6), .move (.tmp 0), (some (5, true)), 0, none⟩,
    ⟨(some 7), .bin .leq (.tmp 6) (.const (.int .i64 (1048576))), (some (5, true)), 0, none⟩,
    ⟨(some 8), .pick (.tmp 5) (.tmp 7) (.const (.bool false)), none, 0, none⟩,
    ⟨(some 2), .move (.tmp 8), none, 0, none⟩] []) (.ret)), [.tmp 2], true⟩
def s62 : Sig := ⟨(.cons (.v (.int .i64)) .nil), [], ((.v .bool), []), []⟩
def F62 (L : Lp)  (an0 : Int) : Option Bool :=
  cond (decide (0 ≤ an0))
  (some (decide (an0 ≤ 1048576)))
  (some false)
theorem e62 (L : Lp)  (x : s62.args.den) (h : denH s62.heap) : nrun [] L n62 s62 x h = F62 L  x.1 := by kernel_rfl
def f62 : Int → Option Bool := F62 (@LN LOOPS) 
@[reducible] def t62 : Ent := ⟨62, s62, fun x h => f62 x.1⟩
theorem k62 : chkNF Tryd.prog Tryd.f62 n62 = true := by kernel_rfl
theorem ok62 : NOk Tryd.prog t62 := NOk.body (T := []) mixed nall_nil (oneEach_of (by kernel_rfl)) Tryd.func62 k62 (by kernel_rfl) (fun x h => e62 _  x h)
/- drayage/drayageref02.Right -/
def n30 : NFunc := ⟨21, .seq (.region 1 [
    ⟨(some 1), .box 4 (.tmp 0), none, 0, none⟩,
    ⟨(some 2), .move (.const (.bool false)), none, 1, none⟩] []) (.seq (.region 16 [
    ⟨(some 3), .fieldAddr 0 (.tmp 1), none, 0, none⟩,
    ⟨(some 4), .load false 1 (.tmp 3), none, 0, none⟩,
    ⟨(some 5), .call (.func 62) [(false, (.tmp 4))] false 4, none, 0, none⟩,
    ⟨(some 6), .move (.tmp 5), none, 4, none⟩,
    ⟨(some 7), .fieldAddr 1 (.tmp 1), (some (6, true)), 4, none⟩,
    ⟨(some 8), .load false 1 (.tmp 7), (some (6, true)), 4, none⟩,
    ⟨(some 9), .call (.func 62) [(false, (.tmp 8))] false 4, (some (6, true)), 4, none⟩,
    ⟨(some 10), .pick (.tmp 6) (.tmp 9) (.const (.bool false)), none, 8, none⟩,
    ⟨(some 11), .move (.tmp 10), none, 8, none⟩,
    ⟨(some 12), .fieldAddr 2 (.tmp 1), (some (11, true)), 8, none⟩,
    ⟨(some 13), .load false 1 (.tmp 12), (some (11, true)), 8, none⟩,
    ⟨(some 14), .call (.func 62) [(false, (.tmp 13))] false 4, (some (11, true)), 8, none⟩,
    ⟨(some 15), .pick (.tmp 11) (.tmp 14) (.const (.bool false)), none, 12, none⟩,
    ⟨(some 16), .move (.tmp 15), none, 12, none⟩,
    ⟨(some 17), .fieldAddr 3 (.tmp 1), (some (16, true)), 12, none⟩,
    ⟨(some 18), .load false 1 (.tmp 17), (some (16, true)), 12, none⟩,
    ⟨(some 19), .call (.func 62) [(false, (.tmp 18))] false 4, (some (16, true)), 12, none⟩,
    ⟨(some 20), .pick (.tmp 16) (.tmp 19) (.const (.bool false)), none, 16, none⟩,
    ⟨(some 2), .move (.tmp 20), none, 16, none⟩] []) (.ret)), [.tmp 2], true⟩
def s30 : Sig := ⟨(.cons (.v .res) .nil), [], ((.v .bool), []), []⟩
def F30 (L : Lp) (g62 : Int → Option Bool) (a0 : Res) : Option Bool :=
  Option.bind (g62 a0.cpu) fun r1 =>
  cond r1
  (Option.bind (g62 a0.mem) fun r2 =>
  cond r2
  (Option.bind (g62 a0.gpu) fun r3 =>
  cond r3
  (Option.bind (g62 a0.lic) fun r4 =>
  some r4)
  (some false))
  (some false))
  (some false)
theorem e30 (L : Lp) (g62 : Int → Option Bool) (x : s30.args.den) (h : denH s30.heap) : nrun [⟨62, s62, fun x h => g62 x.1⟩] L n30 s30 x h = F30 L g62 x.1 := by kernel_rfl
def f30 : Res → Option Bool := F30 (@LN LOOPS) f62
@[reducible] def t30 : Ent := ⟨30, s30, fun x h => f30 x.1⟩
theorem k30 : chkNF Tryd.prog Tryd.f30 n30 = true := by kernel_rfl
theorem ok30 : NOk Tryd.prog t30 := NOk.body (T := [t62]) mixed (nall_cons ok62 nall_nil) (oneEach_of (by kernel_rfl)) Tryd.func30 k30 (by kernel_rfl) (fun x h => e30 _ _ x h)
/- drayage/drayageref07.nodes -/
def n73 : NFunc := ⟨22, .seq (.region 1 [
    ⟨(some 1), .box 18 (.tmp 0), none, 0, none⟩,
    ⟨(some 2), .move (.const (.bool false)), none, 1, none⟩] []) (.seq (.seq (.region 0 [
    ⟨(some 3), .move (.const (.int .i64 (0))), none, 0, none⟩] []) (.block 0 (.loop [1, 3] ⟨[(1, (.ptr 0 0 0)), (3, (.v (.int .i64)))], [], [.one false .spec]⟩ (.seq (.seq (.region 0 [
    ⟨(some 4), .move (.tmp 3), none, 0, none⟩,
    ⟨(some 5), .fieldAddr 0 (.tmp 1), none, 0, none⟩,
    ⟨(some 6), .load false 1 (.tmp 5), none, 0, none⟩,
    ⟨(some 7), .len (.tmp 6), none, 0, none⟩,
    ⟨(some 8), .bin .lss (.tmp 4) (.tmp 7), none, 0, none⟩] []) (.cond (.tmp 8) (.skip) (.exit 0))) (.seq (.block 1 (.seq (.region 4 [
    ⟨(some 11), .fieldAddr 0 (.tmp 1), none, 0, none⟩,
    ⟨(some 12), .load false 1 (.tmp 11), none, 0, none⟩,
    ⟨(some 13), .move (.tmp 3), none, 0, none⟩,
    ⟨(some 14), .indexSl 4 (.tmp 12) (.tmp 13), none, 0, none⟩,
    ⟨(some 15), .load true 4 (.tmp 14), none, 0, none⟩,
    ⟨(some 16), .call (.func 30) [(false, (.tmp 15))] false 4, none, 0, none⟩,
    ⟨(some 17), .un .not (.tmp 16), none, 4, none⟩] []) (.cond (.tmp 17) (.seq (.region 0 [
    ⟨(some 2), .move (.const (.bool false)), none, 0, none⟩] []) (.ret)) (.skip)))) (.region 0 [
    ⟨(some 9), .move (.tmp 3), none, 0, none⟩,
    ⟨(some 10), .bin .add (.tmp 9) (.const (.int .i64 (1))), none, 0, none⟩,
    ⟨(some 3), .move (.tmp 10), none, 0, none⟩] [])))))) (.seq (.region 4 [
    ⟨(some 18), .fieldAddr 0 (.tmp 1), none, 0, none⟩,
    ⟨(some 19), .load false 1 (.tmp 18), none, 0, none⟩,
    ⟨(some 20), .len (.tmp 19), none, 0, none⟩,
    ⟨(some 21), .call (.func 72) [(false, (.tmp 20)), (false, (.const (.int .i64 (1)))), (false, (.const (.int .i64 (16))))] false 4, none, 0, none⟩,
    ⟨(some 2), .move (.tmp 21), none, 4, none⟩] []) (.ret))), [.tmp 2], true⟩
def s73 : Sig := ⟨(.cons (.v .spec) .nil), [], ((.v .bool), []), []⟩
def l73_0 (g30 : Res → Option Bool) (g72 : Int → Int → Int → Option Bool) (nx2 : ((Unit × (Int × Unit)) × (Spec × Unit)) → Option Bool) (i3 : Int) (z4 : Spec) : Option Bool :=
  cond (decide (i3 < (List.length z4.nodes : Int)))
  (cond (decide (0 ≤ i3))
  (Option.bind (z4.nodes[Int.toNat i3]?) fun y5 =>
  Option.bind (g30 y5) fun r6 =>
  cond (!r6)
  (some false)
  (nx2 (((), IntKind.wrap .i64 (i3 + 1), ()), (z4, ()))))
  (none))
  (Option.bind (g72 (List.length z4.nodes : Int) 1 16) fun r7 =>
  some r7)
def F73 (L : Lp) (g30 : Res → Option Bool) (g72 : Int → Int → Int → Option Bool) (as0 : Spec) : Option Bool :=
  L (fun (s1 : ((Unit × (Int × Unit)) × (Spec × Unit))) nx2 => l73_0 g30 g72 nx2 s1.1.2.1 s1.2.1) (((), 0, ()), (as0, ()))
theorem e73 (L : Lp) (g30 : Res → Option Bool) (g72 : Int → Int → Int → Option Bool) (x : s73.args.den) (h : denH s73.heap) : nrun [⟨30, s30, fun x h => g30 x.1⟩, ⟨72, s72, fun x h => g72 x.1 x.2.1 x.2.2.1⟩] L n73 s73 x h = F73 L g30 g72 x.1 := by kernel_rfl
def f73 : Spec → Option Bool := F73 (@LN LOOPS) f30 f72
@[reducible] def t73 : Ent := ⟨73, s73, fun x h => f73 x.1⟩
theorem k73 : chkNF Tryd.prog Tryd.f73 n73 = true := by kernel_rfl
theorem ok73 : NOk Tryd.prog t73 := NOk.body (T := [t30, t72]) mixed (nall_cons ok30 (nall_cons ok72 nall_nil)) (oneEach_of (by kernel_rfl)) Tryd.func73 k73 (by kernel_rfl) (fun x h => e73 _ _ _ x h)
/- drayage/drayageref07.Rising -/
def n87 : NFunc := ⟨41, .seq (.region 0 [
    ⟨(some 4), .move (.const (.bool false)), none, 0, none⟩] []) (.seq (.seq (.region 0 [
    ⟨(some 5), .move (.const (.int .i64 (0))), none, 0, none⟩] []) (.block 0 (.loop [0, 1, 5] ⟨[(5, (.v (.int .i64)))], [0, 1], []⟩ (.seq (.seq (.region 0 [
    ⟨(some 6), .move (.tmp 5), none, 0, none⟩,
    ⟨(some 7), .move (.tmp 0), none, 0, none⟩,
    ⟨(some 8), .len (.tmp 7), none, 0, none⟩,
    ⟨(some 9), .bin .lss (.tmp 6) (.tmp 8), none, 0, none⟩] []) (.cond (.tmp 9) (.skip) (.exit 0))) (.seq (.block 1 (.seq (.region 0 [
    ⟨(some 12), .move (.tmp 0), none, 0, (some ([], none))⟩,
    ⟨(some 13), .move (.tmp 5), none, 0, (some ([], none))⟩,
    ⟨(some 14), .indexSl 1 (.tmp 12) (.tmp 13), none, 0, (some ([], none))⟩,
    ⟨(some 15), .load false 1 (.tmp 14), none, 0, (some ([], none))⟩,
    ⟨(some 16), .bin .lss (.tmp 15) (.const (.int .i64 (0))), none, 0, (some ([], none))⟩,
    ⟨(some 17), .move (.tmp 16), none, 0, (some ([], none))⟩,
    ⟨(some 18), .move (.tmp 0), (some (17, false)), 0, (some ([], none))⟩,
    ⟨(some 19), .move (.tmp 5), (some (17, false)), 0, (some ([], none))⟩,
    ⟨(some 20), .indexSl 1 (.tmp 18) (.tmp 19), (some (17, false)), 0, (some ([], none))⟩,
    ⟨(some 21), .load false 1 (.tmp 20), (some (17, false)), 0, (some ([], none))⟩,
    ⟨(some 22), .move (.tmp 1), (some (17, false)), 0, (some ([], none))⟩,
    ⟨(some 23), .bin .geq (.tmp 21) (.tmp 22), (some (17, false)), 0, (some ([], none))⟩,
    ⟨(some 24), .pick (.tmp 17) (.const (.bool true)) (.tmp 23), none, 0, (some ([], none))⟩,
    ⟨(some 25), .move (.tmp 24), none, 0, (some ([], none))⟩,
    ⟨(some 26), .move (.tmp 5), (some (25, false)), 0, (some ([], none))⟩,
    ⟨(some 27), .bin .gtr (.tmp 26) (.const (.int .i64 (0))), (some (25, false)), 0, (some ([], none))⟩,
    ⟨(some 28), .move (.tmp 27), (some (25, false)), 0, (some ([], none))⟩,
    ⟨(some 29), .move (.tmp 0), (some (28, true)), 0, (some ([], none))⟩,
    ⟨(some 30), .move (.tmp 5), (some (28, true)), 0, (some ([], none))⟩,
    ⟨(some 31), .bin .sub (.tmp 30) (.const (.int .i64 (1))), (some (28, true)), 0, (some ([], none))⟩,
    ⟨(some 32), .indexSl 1 (.tmp 29) (.tmp 31), (some (28, true)), 0, (some ([], none))⟩,
    ⟨(some 33), .load false 1 (.tmp 32), (some (28, true)), 0, (some ([], none))⟩,
    ⟨(some 34), .move (.tmp 0), (some (28, true)), 0, (some ([], none))⟩,
    ⟨(some 35), .move (.tmp 5), (some (28, true)), 0, (some ([], none))⟩,
    ⟨(some 36), .indexSl 1 (.tmp 34) (.tmp 35), (some (28, true)), 0, (some ([], none))⟩,
    ⟨(some 37), .load false 1 (.tmp 36), (some (28, true)), 0, (some ([], none))⟩,
    ⟨(some 38), .bin .geq (.tmp 33) (.tmp 37), (some (28, true)), 0, (some ([], none))⟩,
    ⟨(some 39), .pick (.tmp 28) (.tmp 38) (.const (.bool false)), (some (25, false)), 0, (some ([], none))⟩,
    ⟨(some 40), .pick (.tmp 25) (.const (.bool true)) (.tmp 39), none, 0, (some ([], none))⟩] []) (.cond (.tmp 40) (.seq (.region 0 [
    ⟨(some 4), .move (.const (.bool false)), none, 0, none⟩] []) (.ret)) (.skip)))) (.region 0 [
    ⟨(some 10), .move (.tmp 5), none, 0, none⟩,
    ⟨(some 11), .bin .add (.tmp 10) (.const (.int .i64 (1))), none, 0, none⟩,
    ⟨(some 5), .move (.tmp 11), none, 0, none⟩] [])))))) (.seq (.region 0 [
    ⟨(some 4), .move (.const (.bool true)), none, 0, none⟩] []) (.ret))), [.tmp 4], true⟩
def s87 : Sig := ⟨(.cons (.v (.list (.int .i64))) (.cons (.v (.int .i64)) .nil)), [], ((.v .bool), []), []⟩
def l87_0 (al0 : (List Int)) (below1 : Int) (nx3 : ((Int × Unit) × Unit) → Option Bool) (i4 : Int) : Option Bool :=
  cond (decide (i4 < (List.length al0 : Int)))
  (cond (decide (0 ≤ i4))
  (Option.bind (al0[Int.toNat i4]?) fun y5 =>
  cond (decide (y5 < 0))
  (some false)
  (cond (decide (0 ≤ i4))
  (Option.bind (al0[Int.toNat i4]?) fun y6 =>
  cond (decide (below1 ≤ y6))
  (some false)
  (cond (decide (0 < i4))
  (cond (decide (0 ≤ (IntKind.wrap .i64 (i4 - 1))))
  (Option.bind (al0[Int.toNat (IntKind.wrap .i64 (i4 - 1))]?) fun y7 =>
  cond (decide (0 ≤ i4))
  (Option.bind (al0[Int.toNat i4]?) fun y8 =>
  cond (decide (y8 ≤ y7))
  (some false)
  (nx3 ((IntKind.wrap .i64 (i4 + 1), ()), ())))
  (none))
  (none))
  (nx3 ((IntKind.wrap .i64 (i4 + 1), ()), ()))))
  (none)))
  (none))
  (some true)
def F87 (L : Lp)  (al0 : (List Int)) (below1 : Int) : Option Bool :=
  L (fun (s2 : ((Int × Unit) × Unit)) nx3 => l87_0 al0 below1 nx3 s2.1.1) ((0, ()), ())
theorem e87 (L : Lp)  (x : s87.args.den) (h : denH s87.heap) : nrun [] L n87 s87 x h = F87 L  x.1 x.2.1 := by kernel_rfl
def f87 : (List Int) → Int → Option Bool := F87 (@LN LOOPS) 
@[reducible] def t87 : Ent := ⟨87, s87, fun x h => f87 x.1 x.2.1⟩
theorem k87 : chkNF Tryd.prog Tryd.f87 n87 = true := by kernel_rfl
theorem ok87 : NOk Tryd.prog t87 := NOk.body (T := []) mixed nall_nil (oneEach_of (by kernel_rfl)) Tryd.func87 k87 (by kernel_rfl) (fun x h => e87 _  x h)
/- drayage/drayageref07.parts -/
def n74 : NFunc := ⟨34, .seq (.region 1 [
    ⟨(some 1), .box 18 (.tmp 0), none, 0, none⟩,
    ⟨(some 2), .move (.const (.bool false)), none, 1, none⟩] []) (.seq (.seq (.region 0 [
    ⟨(some 3), .move (.const (.int .i64 (0))), none, 0, none⟩] []) (.block 0 (.loop [1, 3] ⟨[(1, (.ptr 0 0 0)), (3, (.v (.int .i64)))], [], [.one false .spec]⟩ (.seq (.seq (.region 0 [
    ⟨(some 4), .move (.tmp 3), none, 0, none⟩,
    ⟨(some 5), .fieldAddr 1 (.tmp 1), none, 0, none⟩,
    ⟨(some 6), .load false 1 (.tmp 5), none, 0, none⟩,
    ⟨(some 7), .len (.tmp 6), none, 0, none⟩,
    ⟨(some 8), .bin .lss (.tmp 4) (.tmp 7), none, 0, none⟩] []) (.cond (.tmp 8) (.skip) (.exit 0))) (.seq (.block 1 (.seq (.region 4 [
    ⟨(some 11), .fieldAddr 1 (.tmp 1), none, 0, (some ([], none))⟩,
    ⟨(some 12), .load false 1 (.tmp 11), none, 0, (some ([], none))⟩,
    ⟨(some 13), .move (.tmp 3), none, 0, (some ([], none))⟩,
    ⟨(some 14), .indexSl 1 (.tmp 12) (.tmp 13), none, 0, (some ([], none))⟩,
    ⟨(some 15), .load false 1 (.tmp 14), none, 0, (some ([], none))⟩,
    ⟨(some 16), .len (.tmp 15), none, 0, (some ([], none))⟩,
    ⟨(some 17), .bin .lss (.tmp 16) (.const (.int .i64 (1))), none, 0, (some ([], none))⟩,
    ⟨(some 18), .move (.tmp 17), none, 0, (some ([], none))⟩,
    ⟨(some 19), .fieldAddr 1 (.tmp 1), (some (18, false)), 0, (some ([], none))⟩,
    ⟨(some 20), .load false 1 (.tmp 19), (some (18, false)), 0, (some ([], none))⟩,
    ⟨(some 21), .move (.tmp 3), (some (18, false)), 0, (some ([], none))⟩,
    ⟨(some 22), .indexSl 1 (.tmp 20) (.tmp 21), (some (18, false)), 0, (some ([], none))⟩,
    ⟨(some 23), .load false 1 (.tmp 22), (some (18, false)), 0, (some ([], none))⟩,
    ⟨(some 24), .fieldAddr 0 (.tmp 1), (some (18, false)), 0, (some ([], none))⟩,
    ⟨(some 25), .load false 1 (.tmp 24), (some (18, false)), 0, (some ([], none))⟩,
    ⟨(some 26), .len (.tmp 25), (some (18, false)), 0, (some ([], none))⟩,
    ⟨(some 27), .call (.func 87) [(false, (.tmp 23)), (false, (.tmp 26))] false 4, (some (18, false)), 0, (some ([], none))⟩,
    ⟨(some 28), .un .not (.tmp 27), (some (18, false)), 4, (some ([0, 1, 2, 3], none))⟩,
    ⟨(some 29), .pick (.tmp 18) (.const (.bool true)) (.tmp 28), none, 4, (some ([0, 1, 2, 3], none))⟩] []) (.cond (.tmp 29) (.seq (.region 0 [
    ⟨(some 2), .move (.const (.bool false)), none, 0, none⟩] []) (.ret)) (.skip)))) (.region 0 [
    ⟨(some 9), .move (.tmp 3), none, 0, none⟩,
    ⟨(some 10), .bin .add (.tmp 9) (.const (.int .i64 (1))), none, 0, none⟩,
    ⟨(some 3), .move (.tmp 10), none, 0, none⟩] [])))))) (.seq (.region 4 [
    ⟨(some 30), .fieldAddr 1 (.tmp 1), none, 0, none⟩,
    ⟨(some 31), .load false 1 (.tmp 30), none, 0, none⟩,
    ⟨(some 32), .len (.tmp 31), none, 0, none⟩,
    ⟨(some 33), .call (.func 72) [(false, (.tmp 32)), (false, (.const (.int .i64 (1)))), (false, (.const (.int .i64 (8))))] false 4, none, 0, none⟩,
    ⟨(some 2), .move (.tmp 33), none, 4, none⟩] []) (.ret))), [.tmp 2], true⟩
def s74 : Sig := ⟨(.cons (.v .spec) .nil), [], ((.v .bool), []), []⟩
def l74_0 (g87 : (List Int) → Int → Option Bool) (g72 : Int → Int → Int → Option Bool) (nx2 : ((Unit × (Int × Unit)) × (Spec × Unit)) → Option Bool) (i3 : Int) (z4 : Spec) : Option Bool :=
  cond (decide (i3 < (List.length z4.parts : Int)))
  (cond (decide (0 ≤ i3))
  (Option.bind (z4.parts[Int.toNat i3]?) fun y5 =>
  cond (decide ((List.length y5 : Int) < 1))
  (some false)
  (cond (decide (0 ≤ i3))
  (Option.bind (z4.parts[Int.toNat i3]?) fun y6 =>
  Option.bind (g87 y6 (List.length z4.nodes : Int)) fun r7 =>
  cond (!r7)
  (some false)
  (nx2 (((), IntKind.wrap .i64 (i3 + 1), ()), (z4, ()))))
  (none)))
  (none))
  (Option.bind (g72 (List.length z4.parts : Int) 1 8) fun r8 =>
  some r8)
def F74 (L : Lp) (g87 : (List Int) → Int → Option Bool) (g72 : Int → Int → Int → Option Bool) (as0 : Spec) : Option Bool :=
  L (fun (s1 : ((Unit × (Int × Unit)) × (Spec × Unit))) nx2 => l74_0 g87 g72 nx2 s1.1.2.1 s1.2.1) (((), 0, ()), (as0, ()))
theorem e74 (L : Lp) (g87 : (List Int) → Int → Option Bool) (g72 : Int → Int → Int → Option Bool) (x : s74.args.den) (h : denH s74.heap) : nrun [⟨87, s87, fun x h => g87 x.1 x.2.1⟩, ⟨72, s72, fun x h => g72 x.1 x.2.1 x.2.2.1⟩] L n74 s74 x h = F74 L g87 g72 x.1 := by kernel_rfl
def f74 : Spec → Option Bool := F74 (@LN LOOPS) f87 f72
@[reducible] def t74 : Ent := ⟨74, s74, fun x h => f74 x.1⟩
theorem k74 : chkNF Tryd.prog Tryd.f74 n74 = true := by kernel_rfl
theorem ok74 : NOk Tryd.prog t74 := NOk.body (T := [t87, t72]) mixed (nall_cons ok87 (nall_cons ok72 nall_nil)) (oneEach_of (by kernel_rfl)) Tryd.func74 k74 (by kernel_rfl) (fun x h => e74 _ _ _ x h)
/- drayage/drayageref07.queues -/
def n75 : NFunc := ⟨64, .seq (.region 1 [
    ⟨(some 1), .box 18 (.tmp 0), none, 0, none⟩,
    ⟨(some 2), .move (.const (.bool false)), none, 1, none⟩] []) (.seq (.seq (.region 0 [
    ⟨(some 3), .move (.const (.int .i64 (0))), none, 0, none⟩] []) (.block 0 (.loop [1, 3] ⟨[(1, (.ptr 0 0 0)), (3, (.v (.int .i64)))], [], [.one false .spec]⟩ (.seq (.seq (.region 0 [
    ⟨(some 5), .move (.tmp 3), none, 0, none⟩,
    ⟨(some 6), .fieldAddr 2 (.tmp 1), none, 0, none⟩,
    ⟨(some 7), .load false 1 (.tmp 6), none, 0, none⟩,
    ⟨(some 8), .len (.tmp 7), none, 0, none⟩,
    ⟨(some 9), .bin .lss (.tmp 5) (.tmp 8), none, 0, none⟩] []) (.cond (.tmp 9) (.skip) (.exit 0))) (.seq (.block 1 (.seq (.region 1 [
    ⟨(some 12), .fieldAddr 2 (.tmp 1), none, 0, none⟩,
    ⟨(some 13), .load false 1 (.tmp 12), none, 0, none⟩,
    ⟨(some 14), .move (.tmp 3), none, 0, none⟩,
    ⟨(some 15), .indexSl 6 (.tmp 13) (.tmp 14), none, 0, none⟩,
    ⟨(some 16), .load true 6 (.tmp 15), none, 0, none⟩,
    ⟨(some 4), .alloc [.int .i64 (0), .zsl, .int .i64 (0), .int .i64 (0), .int .i64 (0), .int .i64 (0)], none, 0, none⟩,
    ⟨none, .store 6 (.tmp 4) (.tmp 16), none, 1, none⟩] []) (.seq (.region 20 [
    ⟨(some 17), .fieldAddr 0 (.tmp 4), none, 0, none⟩,
    ⟨(some 18), .load false 1 (.tmp 17), none, 0, none⟩,
    ⟨(some 19), .bin .lss (.tmp 18) (.const (.int .i64 (0))), none, 0, none⟩,
    ⟨(some 20), .move (.tmp 19), none, 0, none⟩,
    ⟨(some 21), .fieldAddr 0 (.tmp 4), (some (20, false)), 0, none⟩,
    ⟨(some 22), .load false 1 (.tmp 21), (some (20, false)), 0, none⟩,
    ⟨(some 23), .fieldAddr 1 (.tmp 1), (some (20, false)), 0, none⟩,
    ⟨(some 24), .load false 1 (.tmp 23), (some (20, false)), 0, none⟩,
    ⟨(some 25), .len (.tmp 24), (some (20, false)), 0, none⟩,
    ⟨(some 26), .bin .geq (.tmp 22) (.tmp 25), (some (20, false)), 0, none⟩,
    ⟨(some 27), .pick (.tmp 20) (.const (.bool true)) (.tmp 26), none, 0, none⟩,
    ⟨(some 28), .move (.tmp 27), none, 0, none⟩,
    ⟨(some 29), .fieldAddr 1 (.tmp 4), (some (28, false)), 0, none⟩,
    ⟨(some 30), .load false 1 (.tmp 29), (some (28, false)), 0, none⟩,
    ⟨(some 31), .fieldAddr 3 (.tmp 1), (some (28, false)), 0, none⟩,
    ⟨(some 32), .load false 1 (.tmp 31), (some (28, false)), 0, none⟩,
    ⟨(some 33), .call (.func 87) [(false, (.tmp 30)), (false, (.tmp 32))] false 4, (some (28, false)), 0, none⟩,
    ⟨(some 34), .un .not (.tmp 33), (some (28, false)), 4, none⟩,
    ⟨(some 35), .pick (.tmp 28) (.const (.bool true)) (.tmp 34), none, 4, none⟩,
    ⟨(some 36), .move (.tmp 35), none, 4, none⟩,
    ⟨(some 37), .fieldAddr 2 (.tmp 4), (some (36, false)), 4, none⟩,
    ⟨(some 38), .load false 1 (.tmp 37), (some (36, false)), 4, none⟩,
    ⟨(some 39), .call (.func 72) [(false, (.tmp 38)), (false, (.const (.int .i64 (1)))), (false, (.const (.int .i64 (256))))] false 4, (some (36, false)), 4, none⟩,
    ⟨(some 40), .un .not (.tmp 39), (some (36, false)), 8, none⟩,
    ⟨(some 41), .pick (.tmp 36) (.const (.bool true)) (.tmp 40), none, 8, none⟩,
    ⟨(some 42), .move (.tmp 41), none, 8, none⟩,
    ⟨(some 43), .fieldAddr 3 (.tmp 4), (some (42, false)), 8, none⟩,
    ⟨(some 44), .load false 1 (.tmp 43), (some (42, false)), 8, none⟩,
    ⟨(some 45), .call (.func 72) [(false, (.tmp 44)), (false, (.const (.int .i64 (1)))), (false, (.const (.int .i64 (256))))] false 4, (some (42, false)), 8, none⟩,
    ⟨(some 46), .un .not (.tmp 45), (some (42, false)), 12, none⟩,
    ⟨(some 47), .pick (.tmp 42) (.const (.bool true)) (.tmp 46), none, 12, none⟩,
    ⟨(some 48), .move (.tmp 47), none, 12, none⟩,
    ⟨(some 49), .fieldAddr 4 (.tmp 4), (some (48, false)), 12, none⟩,
    ⟨(some 50), .load false 1 (.tmp 49), (some (48, false)), 12, none⟩,
    ⟨(some 51), .call (.func 72) [(false, (.tmp 50)), (false, (.const (.int .i64 (1)))), (false, (.const (.int .i64 (256))))] false 4, (some (48, false)), 12, none⟩,
    ⟨(some 52), .un .not (.tmp 51), (some (48, false)), 16, none⟩,
    ⟨(some 53), .pick (.tmp 48) (.const (.bool true)) (.tmp 52), none, 16, none⟩,
    ⟨(some 54), .move (.tmp 53), none, 16, none⟩,
    ⟨(some 55), .fieldAddr 5 (.tmp 4), (some (54, false)), 16, none⟩,
    ⟨(some 56), .load false 1 (.tmp 55), (some (54, false)), 16, none⟩,
    ⟨(some 57), .call (.func 72) [(false, (.tmp 56)), (false, (.const (.int .i64 (0)))), (false, (.const (.int .i64 (100))))] false 4, (some (54, false)), 16, none⟩,
    ⟨(some 58), .un .not (.tmp 57), (some (54, false)), 20, none⟩,
    ⟨(some 59), .pick (.tmp 54) (.const (.bool true)) (.tmp 58), none, 20, none⟩] []) (.cond (.tmp 59) (.seq (.region 0 [
    ⟨(some 2), .move (.const (.bool false)), none, 0, none⟩] []) (.ret)) (.skip))))) (.region 0 [
    ⟨(some 10), .move (.tmp 3), none, 0, none⟩,
    ⟨(some 11), .bin .add (.tmp 10) (.const (.int .i64 (1))), none, 0, none⟩,
    ⟨(some 3), .move (.tmp 11), none, 0, none⟩] [])))))) (.seq (.region 4 [
    ⟨(some 60), .fieldAddr 2 (.tmp 1), none, 0, none⟩,
    ⟨(some 61), .load false 1 (.tmp 60), none, 0, none⟩,
    ⟨(some 62), .len (.tmp 61), none, 0, none⟩,
    ⟨(some 63), .call (.func 72) [(false, (.tmp 62)), (false, (.const (.int .i64 (1)))), (false, (.const (.int .i64 (8))))] false 4, none, 0, none⟩,
    ⟨(some 2), .move (.tmp 63), none, 4, none⟩] []) (.ret))), [.tmp 2], true⟩
def s75 : Sig := ⟨(.cons (.v .spec) .nil), [], ((.v .bool), []), []⟩
def l75_0 (g87 : (List Int) → Int → Option Bool) (g72 : Int → Int → Int → Option Bool) (nx2 : ((Unit × (Int × Unit)) × (Spec × Unit)) → Option Bool) (i3 : Int) (z4 : Spec) : Option Bool :=
  cond (decide (i3 < (List.length z4.queues : Int)))
  (cond (decide (0 ≤ i3))
  (Option.bind (z4.queues[Int.toNat i3]?) fun y5 =>
  cond (decide (y5.part < 0))
  (some false)
  (cond (decide ((List.length z4.parts : Int) ≤ y5.part))
  (some false)
  (Option.bind (g87 y5.users z4.users) fun r6 =>
  cond (!r6)
  (some false)
  (Option.bind (g72 y5.maxJobs 1 256) fun r7 =>
  cond (!r7)
  (some false)
  (Option.bind (g72 y5.maxRun 1 256) fun r8 =>
  cond (!r8)
  (some false)
  (Option.bind (g72 y5.maxUser 1 256) fun r9 =>
  cond (!r9)
  (some false)
  (Option.bind (g72 y5.qos 0 100) fun r10 =>
  cond (!r10)
  (some false)
  (nx2 (((), IntKind.wrap .i64 (i3 + 1), ()), (z4, ()))))))))))
  (none))
  (Option.bind (g72 (List.length z4.queues : Int) 1 8) fun r11 =>
  some r11)
def F75 (L : Lp) (g87 : (List Int) → Int → Option Bool) (g72 : Int → Int → Int → Option Bool) (as0 : Spec) : Option Bool :=
  L (fun (s1 : ((Unit × (Int × Unit)) × (Spec × Unit))) nx2 => l75_0 g87 g72 nx2 s1.1.2.1 s1.2.1) (((), 0, ()), (as0, ()))
theorem e75 (L : Lp) (g87 : (List Int) → Int → Option Bool) (g72 : Int → Int → Int → Option Bool) (x : s75.args.den) (h : denH s75.heap) : nrun [⟨87, s87, fun x h => g87 x.1 x.2.1⟩, ⟨72, s72, fun x h => g72 x.1 x.2.1 x.2.2.1⟩] L n75 s75 x h = F75 L g87 g72 x.1 := by kernel_rfl
def f75 : Spec → Option Bool := F75 (@LN LOOPS) f87 f72
@[reducible] def t75 : Ent := ⟨75, s75, fun x h => f75 x.1⟩
theorem k75 : chkNF Tryd.prog Tryd.f75 n75 = true := by kernel_rfl
theorem ok75 : NOk Tryd.prog t75 := NOk.body (T := [t87, t72]) mixed (nall_cons ok87 (nall_cons ok72 nall_nil)) (oneEach_of (by kernel_rfl)) Tryd.func75 k75 (by kernel_rfl) (fun x h => e75 _ _ _ x h)
/- drayage/drayageref07.Flaw -/
def n51 : NFunc := ⟨83, .seq (.region 1 [
    ⟨(some 1), .box 18 (.tmp 0), none, 0, none⟩,
    ⟨(some 2), .move (.const (.str [])), none, 1, none⟩] []) (.seq (.region 1 [
    ⟨(some 8), .fieldAddr 4 (.tmp 1), none, 0, none⟩,
    ⟨(some 9), .load true 4 (.tmp 8), none, 0, none⟩,
    ⟨(some 3), .alloc [.int .i64 (0), .int .i64 (0), .int .i64 (0), .int .i64 (0)], none, 0, none⟩,
    ⟨none, .store 4 (.tmp 3) (.tmp 9), none, 1, none⟩] []) (.seq (.meet [1, 4] [] ⟨[(1, (.ptr 0 0 0)), (4, (.v .bool))], [], [.one false .spec]⟩ (.region 16 [
    ⟨(some 10), .fieldAddr 0 (.tmp 3), none, 0, none⟩,
    ⟨(some 11), .load false 1 (.tmp 10), none, 0, none⟩,
    ⟨(some 12), .call (.func 72) [(false, (.tmp 11)), (false, (.const (.int .i64 (0)))), (false, (.const (.int .i64 (1000))))] false 4, none, 0, none⟩,
    ⟨(some 13), .move (.tmp 12), none, 4, none⟩,
    ⟨(some 14), .fieldAddr 1 (.tmp 3), (some (13, true)), 4, none⟩,
    ⟨(some 15), .load false 1 (.tmp 14), (some (13, true)), 4, none⟩,
    ⟨(some 16), .call (.func 72) [(false, (.tmp 15)), (false, (.const (.int .i64 (0)))), (false, (.const (.int .i64 (1000))))] false 4, (some (13, true)), 4, none⟩,
    ⟨(some 17), .pick (.tmp 13) (.tmp 16) (.const (.bool false)), none, 8, none⟩,
    ⟨(some 18), .move (.tmp 17), none, 8, none⟩,
    ⟨(some 19), .fieldAddr 2 (.tmp 3), (some (18, true)), 8, none⟩,
    ⟨(some 20), .load false 1 (.tmp 19), (some (18, true)), 8, none⟩,
    ⟨(some 21), .call (.func 72) [(false, (.tmp 20)), (false, (.const (.int .i64 (0)))), (false, (.const (.int .i64 (1000))))] false 4, (some (18, true)), 8, none⟩,
    ⟨(some 22), .pick (.tmp 18) (.tmp 21) (.const (.bool false)), none, 12, none⟩,
    ⟨(some 23), .move (.tmp 22), none, 12, none⟩,
    ⟨(some 24), .fieldAddr 3 (.tmp 3), (some (23, true)), 12, none⟩,
    ⟨(some 25), .load false 1 (.tmp 24), (some (23, true)), 12, none⟩,
    ⟨(some 26), .call (.func 72) [(false, (.tmp 25)), (false, (.const (.int .i64 (0)))), (false, (.const (.int .i64 (1000))))] false 4, (some (23, true)), 12, none⟩,
    ⟨(some 27), .pick (.tmp 23) (.tmp 26) (.const (.bool false)), none, 16, none⟩,
    ⟨(some 4), .move (.tmp 27), none, 16, none⟩] [])) (.seq (.region 1 [
    ⟨(some 28), .buildSlice 1 15 true [.str []] [(0, (.const (.str [78, 111, 100, 101, 115]))), (1, (.const (.str [80, 97, 114, 116, 115]))), (2, (.const (.str [85, 115, 101, 114, 115]))), (3, (.const (.str [81, 117, 101, 117, 101, 115]))), (4, (.const (.str [87, 101, 105, 103, 104, 116, 115]))), (5, (.const (.str [68, 101, 99, 97, 121]))), (6, (.const (.str [77, 111, 100, 101]))), (7, (.const (.str [74, 111, 98, 115]))), (8, (.const (.str [73, 100, 115]))), (9, (.const (.str [86, 101, 114, 115, 105, 111, 110, 115]))), (10, (.const (.str [76, 105, 110, 103, 101, 114]))), (11, (.const (.str [75, 101, 101, 112]))), (12, (.const (.str [73, 110]))), (13, (.const (.str [79, 117, 116]))), (14, (.const (.str [67, 97, 99, 104, 101])))], none, 0, none⟩,
    ⟨(some 5), .move (.tmp 28), none, 1, none⟩] []) (.seq (.region 57 [
    ⟨(some 29), .load true 18 (.tmp 1), none, 0, (some ([], none))⟩,
    ⟨(some 30), .call (.func 73) [(false, (.tmp 29))] true 4, none, 0, (some ([], none))⟩,
    ⟨(some 31), .load true 18 (.tmp 1), none, 4, (some ([], none))⟩,
    ⟨(some 32), .call (.func 74) [(false, (.tmp 31))] true 4, none, 4, (some ([0, 1, 2, 3], none))⟩,
    ⟨(some 33), .fieldAddr 3 (.tmp 1), none, 8, (some ([], none))⟩,
    ⟨(some 34), .load false 1 (.tmp 33), none, 8, (some ([], none))⟩,
    ⟨(some 35), .call (.func 72) [(false, (.tmp 34)), (false, (.const (.int .i64 (1)))), (false, (.const (.int .i64 (8))))] true 4, none, 8, (some ([0, 1, 2, 3, 4, 5, 6, 7], none))⟩,
    ⟨(some 36), .load true 18 (.tmp 1), none, 12, (some ([], none))⟩,
    ⟨(some 37), .call (.func 75) [(false, (.tmp 36))] true 4, none, 12, (some ([0, 1, 2, 3, 4, 5, 6, 7, 8, 9, 10, 11], none))⟩,
    ⟨(some 38), .move (.tmp 4), none, 16, (some ([], none))⟩,
    ⟨(some 39), .fieldAddr 8 (.tmp 1), none, 16, (some ([], none))⟩,
    ⟨(some 40), .load false 1 (.tmp 39), none, 16, (some ([], none))⟩,
    ⟨(some 41), .call (.func 72) [(false, (.tmp 40)), (false, (.const (.int .i64 (1)))), (false, (.const (.int .i64 (16))))] true 4, none, 16, (some ([0, 1, 2, 3, 4, 5, 6, 7, 8, 9, 10, 11, 12, 13, 14, 15], none))⟩,
    ⟨(some 42), .fieldAddr 9 (.tmp 1), none, 20, (some ([], none))⟩,
    ⟨(some 43), .load false 1 (.tmp 42), none, 20, (some ([], none))⟩,
    ⟨(some 44), .call (.func 72) [(false, (.tmp 43)), (false, (.const (.int .i64 (1)))), (false, (.const (.int .i64 (2))))] true 4, none, 20, (some ([0, 1, 2, 3, 4, 5, 6, 7, 8, 9, 10, 11, 12, 13, 14, 15, 16, 17, 18, 19], none))⟩,
    ⟨(some 45), .fieldAddr 10 (.tmp 1), none, 24, (some ([], none))⟩,
    ⟨(some 46), .load false 1 (.tmp 45), none, 24, (some ([], none))⟩,
    ⟨(some 47), .call (.func 72) [(false, (.tmp 46)), (false, (.const (.int .i64 (1)))), (false, (.const (.int .i64 (256))))] true 4, none, 24, (some ([0, 1, 2, 3, 4, 5, 6, 7, 8, 9, 10, 11, 12, 13, 14, 15, 16, 17, 18, 19, 20, 21, 22, 23], none))⟩,
    ⟨(some 48), .fieldAddr 11 (.tmp 1), none, 28, (some ([], none))⟩,
    ⟨(some 49), .load false 1 (.tmp 48), none, 28, (some ([], none))⟩,
    ⟨(some 50), .call (.func 72) [(false, (.tmp 49)), (false, (.const (.int .i64 (1)))), (false, (.const (.int .i64 (1048576))))] true 4, none, 28, (some ([0, 1, 2, 3, 4, 5, 6, 7, 8, 9, 10, 11, 12, 13, 14, 15, 16, 17, 18, 19, 20, 21, 22, 23, 24, 25, 26, 27], none))⟩,
    ⟨(some 51), .fieldAddr 12 (.tmp 1), none, 32, (some ([], none))⟩,
    ⟨(some 52), .load false 1 (.tmp 51), none, 32, (some ([], none))⟩,
    ⟨(some 53), .call (.func 72) [(false, (.tmp 52)), (false, (.const (.int .i64 (1)))), (false, (.const (.int .i64 (65536))))] true 4, none, 32, (some ([0, 1, 2, 3, 4, 5, 6, 7, 8, 9, 10, 11, 12, 13, 14, 15, 16, 17, 18, 19, 20, 21, 22, 23, 24, 25, 26, 27, 28, 29, 30, 31], none))⟩,
    ⟨(some 54), .fieldAddr 13 (.tmp 1), none, 36, (some ([], none))⟩,
    ⟨(some 55), .load false 1 (.tmp 54), none, 36, (some ([], none))⟩,
    ⟨(some 56), .call (.func 72) [(false, (.tmp 55)), (false, (.const (.int .i64 (0)))), (false, (.const (.int .i64 (65536))))] true 4, none, 36, (some ([0, 1, 2, 3, 4, 5, 6, 7, 8, 9, 10, 11, 12, 13, 14, 15, 16, 17, 18, 19, 20, 21, 22, 23, 24, 25, 26, 27, 28, 29, 30, 31, 32, 33, 34, 35], none))⟩,
    ⟨(some 57), .fieldAddr 14 (.tmp 1), none, 40, (some ([], none))⟩,
    ⟨(some 58), .load false 1 (.tmp 57), none, 40, (some ([], none))⟩,
    ⟨(some 59), .call (.func 72) [(false, (.tmp 58)), (false, (.const (.int .i64 (1)))), (false, (.const (.int .i64 (16))))] true 4, none, 40, (some ([0, 1, 2, 3, 4, 5, 6, 7, 8, 9, 10, 11, 12, 13, 14, 15, 16, 17, 18, 19, 20, 21, 22, 23, 24, 25, 26, 27, 28, 29, 30, 31, 32, 33, 34, 35, 36, 37, 38, 39], none))⟩,
    ⟨(some 60), .fieldAddr 15 (.tmp 1), none, 44, (some ([], none))⟩,
    ⟨(some 61), .load false 1 (.tmp 60), none, 44, (some ([], none))⟩,
    ⟨(some 62), .call (.func 72) [(false, (.tmp 61)), (false, (.const (.int .i64 (1)))), (false, (.const (.int .i64 (8))))] true 4, none, 44, (some ([0, 1, 2, 3, 4, 5, 6, 7, 8, 9, 10, 11, 12, 13, 14, 15, 16, 17, 18, 19, 20, 21, 22, 23, 24, 25, 26, 27, 28, 29, 30, 31, 32, 33, 34, 35, 36, 37, 38, 39, 40, 41, 42, 43], none))⟩,
    ⟨(some 63), .fieldAddr 16 (.tmp 1), none, 48, (some ([], none))⟩,
    ⟨(some 64), .load false 1 (.tmp 63), none, 48, (some ([], none))⟩,
    ⟨(some 65), .call (.func 72) [(false, (.tmp 64)), (false, (.const (.int .i64 (1)))), (false, (.const (.int .i64 (16))))] true 4, none, 48, (some ([0, 1, 2, 3, 4, 5, 6, 7, 8, 9, 10, 11, 12, 13, 14, 15, 16, 17, 18, 19, 20, 21, 22, 23, 24, 25, 26, 27, 28, 29, 30, 31, 32, 33, 34, 35, 36, 37, 38, 39, 40, 41, 42, 43, 44, 45, 46, 47], none))⟩,
    ⟨(some 66), .fieldAddr 17 (.tmp 1), none, 52, (some ([], none))⟩,
    ⟨(some 67), .load false 1 (.tmp 66), none, 52, (some ([], none))⟩,
    ⟨(some 68), .call (.func 72) [(false, (.tmp 67)), (false, (.const (.int .i64 (0)))), (false, (.const (.int .i64 (16))))] false 4, none, 52, (some ([0, 1, 2, 3, 4, 5, 6, 7, 8, 9, 10, 11, 12, 13, 14, 15, 16, 17, 18, 19, 20, 21, 22, 23, 24, 25, 26, 27, 28, 29, 30, 31, 32, 33, 34, 35, 36, 37, 38, 39, 40, 41, 42, 43, 44, 45, 46, 47, 48, 49, 50, 51], none))⟩,
    ⟨(some 69), .buildSlice 1 15 true [.bool false] [(0, (.tmp 30)), (1, (.tmp 32)), (2, (.tmp 35)), (3, (.tmp 37)), (4, (.tmp 38)), (5, (.tmp 41)), (6, (.tmp 44)), (7, (.tmp 47)), (8, (.tmp 50)), (9, (.tmp 53)), (10, (.tmp 56)), (11, (.tmp 59)), (12, (.tmp 62)), (13, (.tmp 65)), (14, (.tmp 68))], none, 56, (some ([0, 1, 2, 3, 4, 5, 6, 7, 8, 9, 10, 11, 12, 13, 14, 15, 16, 17, 18, 19, 20, 21, 22, 23, 24, 25, 26, 27, 28, 29, 30, 31, 32, 33, 34, 35, 36, 37, 38, 39, 40, 41, 42, 43, 44, 45, 46, 47, 48, 49, 50, 51, 52, 53, 54, 55], none))⟩,
    ⟨(some 6), .move (.tmp 69), none, 57, (some ([0, 1, 2, 3, 4, 5, 6, 7, 8, 9, 10, 11, 12, 13, 14, 15, 16, 17, 18, 19, 20, 21, 22, 23, 24, 25, 26, 27, 28, 29, 30, 31, 32, 33, 34, 35, 36, 37, 38, 39, 40, 41, 42, 43, 44, 45, 46, 47, 48, 49, 50, 51, 52, 53, 54, 55, 56], none))⟩] []) (.seq (.seq (.region 0 [
    ⟨(some 7), .move (.const (.int .i64 (0))), none, 0, none⟩] []) (.block 0 (.loopU [5, 6, 7] 16 (.seq (.seq (.region 0 [
    ⟨(some 70), .move (.tmp 7), none, 0, none⟩,
    ⟨(some 71), .bin .lss (.tmp 70) (.const (.int .i64 (15))), none, 0, none⟩] []) (.cond (.tmp 71) (.skip) (.exit 0))) (.seq (.block 1 (.seq (.region 0 [
    ⟨(some 74), .move (.tmp 6), none, 0, none⟩,
    ⟨(some 75), .move (.tmp 7), none, 0, none⟩,
    ⟨(some 76), .indexSl 1 (.tmp 74) (.tmp 75), none, 0, none⟩,
    ⟨(some 77), .load false 1 (.tmp 76), none, 0, none⟩,
    ⟨(some 78), .un .not (.tmp 77), none, 0, none⟩] []) (.cond (.tmp 78) (.seq (.region 0 [
    ⟨(some 79), .move (.tmp 5), none, 0, none⟩,
    ⟨(some 80), .move (.tmp 7), none, 0, none⟩,
    ⟨(some 81), .indexSl 1 (.tmp 79) (.tmp 80), none, 0, none⟩,
    ⟨(some 82), .load false 1 (.tmp 81), none, 0, none⟩,
    ⟨(some 2), .move (.tmp 82), none, 0, none⟩] []) (.ret)) (.skip)))) (.region 0 [
    ⟨(some 72), .move (.tmp 7), none, 0, none⟩,
    ⟨(some 73), .bin .add (.tmp 72) (.const (.int .i64 (1))), none, 0, none⟩,
    ⟨(some 7), .move (.tmp 73), none, 0, none⟩] [])))))) (.seq (.region 0 [
    ⟨(some 2), .move (.const (.str [])), none, 0, none⟩] []) (.ret))))))), [.tmp 2], true⟩
def s51 : Sig := ⟨(.cons (.v .spec) .nil), [], ((.v .str), []), []⟩
def F51 (L : Lp) (g72 : Int → Int → Int → Option Bool) (g73 : Spec → Option Bool) (g74 : Spec → Option Bool) (g75 : Spec → Option Bool) (as0 : Spec) : Option (List UInt8) :=
  Option.bind (α := ((Unit × (Bool × Unit)) × (Spec × Unit)))
  (Option.bind (g72 as0.weights.age 0 1000) fun r1 =>
  cond r1
  (Option.bind (g72 as0.weights.size 0 1000) fun r2 =>
  cond r2
  (Option.bind (g72 as0.weights.qos 0 1000) fun r3 =>
  cond r3
  (Option.bind (g72 as0.weights.share 0 1000) fun r4 =>
  some (((), r4, ()), (as0, ())))
  (some (((), false, ()), (as0, ()))))
  (some (((), false, ()), (as0, ()))))
  (some (((), false, ()), (as0, ())))) fun x5 =>
  Option.bind (g73 x5.2.1) fun r6 =>
  Option.bind (g74 x5.2.1) fun r7 =>
  Option.bind (g72 x5.2.1.users 1 8) fun r8 =>
  Option.bind (g75 x5.2.1) fun r9 =>
  Option.bind (g72 x5.2.1.decay 1 16) fun r10 =>
  Option.bind (g72 x5.2.1.mode 1 2) fun r11 =>
  Option.bind (g72 x5.2.1.jobs 1 256) fun r12 =>
  Option.bind (g72 x5.2.1.ids 1 1048576) fun r13 =>
  Option.bind (g72 x5.2.1.versions 1 65536) fun r14 =>
  Option.bind (g72 x5.2.1.linger 0 65536) fun r15 =>
  Option.bind (g72 x5.2.1.keep 1 16) fun r16 =>
  Option.bind (g72 x5.2.1.inn 1 8) fun r17 =>
  Option.bind (g72 x5.2.1.out 1 16) fun r18 =>
  Option.bind (g72 x5.2.1.cache 0 16) fun r19 =>
  cond (!r6)
  (some ([78, 111, 100, 101, 115] : List UInt8))
  (cond (!r7)
  (some ([80, 97, 114, 116, 115] : List UInt8))
  (cond (!r8)
  (some ([85, 115, 101, 114, 115] : List UInt8))
  (cond (!r9)
  (some ([81, 117, 101, 117, 101, 115] : List UInt8))
  (cond (!x5.1.2.1)
  (some ([87, 101, 105, 103, 104, 116, 115] : List UInt8))
  (cond (!r10)
  (some ([68, 101, 99, 97, 121] : List UInt8))
  (cond (!r11)
  (some ([77, 111, 100, 101] : List UInt8))
  (cond (!r12)
  (some ([74, 111, 98, 115] : List UInt8))
  (cond (!r13)
  (some ([73, 100, 115] : List UInt8))
  (cond (!r14)
  (some ([86, 101, 114, 115, 105, 111, 110, 115] : List UInt8))
  (cond (!r15)
  (some ([76, 105, 110, 103, 101, 114] : List UInt8))
  (cond (!r16)
  (some ([75, 101, 101, 112] : List UInt8))
  (cond (!r17)
  (some ([73, 110] : List UInt8))
  (cond (!r18)
  (some ([79, 117, 116] : List UInt8))
  (cond (!r19)
  (some ([67, 97, 99, 104, 101] : List UInt8))
  (some ([] : List UInt8))))))))))))))))
theorem e51 (L : Lp) (g72 : Int → Int → Int → Option Bool) (g73 : Spec → Option Bool) (g74 : Spec → Option Bool) (g75 : Spec → Option Bool) (x : s51.args.den) (h : denH s51.heap) : nrun [⟨72, s72, fun x h => g72 x.1 x.2.1 x.2.2.1⟩, ⟨73, s73, fun x h => g73 x.1⟩, ⟨74, s74, fun x h => g74 x.1⟩, ⟨75, s75, fun x h => g75 x.1⟩] L n51 s51 x h = F51 L g72 g73 g74 g75 x.1 := by kernel_rfl
def f51 : Spec → Option (List UInt8) := F51 (@LN LOOPS) f72 f73 f74 f75
@[reducible] def t51 : Ent := ⟨51, s51, fun x h => f51 x.1⟩
theorem k51 : chkNF Tryd.prog Tryd.f51 n51 = true := by kernel_rfl
theorem ok51 : NOk Tryd.prog t51 := NOk.body (T := [t72, t73, t74, t75]) mixed (nall_cons ok72 (nall_cons ok73 (nall_cons ok74 (nall_cons ok75 nall_nil)))) (oneEach_of (by kernel_rfl)) Tryd.func51 k51 (by kernel_rfl) (fun x h => e51 _ _ _ _ _ x h)
/- drayage/drayageref07.Right -/
def n23 : NFunc := ⟨6, .seq (.region 1 [
    ⟨(some 1), .box 18 (.tmp 0), none, 0, none⟩,
    ⟨(some 2), .move (.const (.bool false)), none, 1, none⟩] []) (.seq (.region 4 [
    ⟨(some 3), .load true 18 (.tmp 1), none, 0, none⟩,
    ⟨(some 4), .call (.func 51) [(false, (.tmp 3))] false 4, none, 0, none⟩,
    ⟨(some 5), .bin .eql (.tmp 4) (.const (.str [])), none, 4, none⟩,
    ⟨(some 2), .move (.tmp 5), none, 4, none⟩] []) (.ret)), [.tmp 2], true⟩
def s23 : Sig := ⟨(.cons (.v .spec) .nil), [], ((.v .bool), []), []⟩
def F23 (L : Lp) (g51 : Spec → Option (List UInt8)) (as0 : Spec) : Option Bool :=
  Option.bind (g51 as0) fun r1 =>
  some (decide (r1 = ([] : List UInt8)))
theorem e23 (L : Lp) (g51 : Spec → Option (List UInt8)) (x : s23.args.den) (h : denH s23.heap) : nrun [⟨51, s51, fun x h => g51 x.1⟩] L n23 s23 x h = F23 L g51 x.1 := by kernel_rfl
def f23 : Spec → Option Bool := F23 (@LN LOOPS) f51
@[reducible] def t23 : Ent := ⟨23, s23, fun x h => f23 x.1⟩
theorem k23 : chkNF Tryd.prog Tryd.f23 n23 = true := by kernel_rfl
theorem ok23 : NOk Tryd.prog t23 := NOk.body (T := [t51]) mixed (nall_cons ok51 nall_nil) (oneEach_of (by kernel_rfl)) Tryd.func23 k23 (by kernel_rfl) (fun x h => e23 _ _ x h)
/- drayage/drayageref16.in -/
def n52 : NFunc := ⟨15, .seq (.region 0 [
    ⟨(some 6), .move (.const (.bool false)), none, 0, none⟩] []) (.seq (.region 0 [
    ⟨(some 7), .move (.tmp 1), none, 0, none⟩,
    ⟨(some 8), .move (.tmp 0), none, 0, none⟩,
    ⟨(some 9), .bin .leq (.tmp 7) (.tmp 8), none, 0, none⟩,
    ⟨(some 10), .move (.tmp 9), none, 0, none⟩,
    ⟨(some 11), .move (.tmp 0), (some (10, true)), 0, none⟩,
    ⟨(some 12), .move (.tmp 2), (some (10, true)), 0, none⟩,
    ⟨(some 13), .bin .leq (.tmp 11) (.tmp 12), (some (10, true)), 0, none⟩,
    ⟨(some 14), .pick (.tmp 10) (.tmp 13) (.const (.bool false)), none, 0, none⟩,
    ⟨(some 6), .move (.tmp 14), none, 0, none⟩] []) (.ret)), [.tmp 6], true⟩
def s52 : Sig := ⟨(.cons (.v (.int .i64)) (.cons (.v (.int .i64)) (.cons (.v (.int .i64)) .nil))), [], ((.v .bool), []), []⟩
def F52 (L : Lp)  (an0 : Int) (lo1 : Int) (hi2 : Int) : Option Bool :=
  cond (decide (lo1 ≤ an0))
  (some (decide (an0 ≤ hi2)))
  (some false)
theorem e52 (L : Lp)  (x : s52.args.den) (h : denH s52.heap) : nrun [] L n52 s52 x h = F52 L  x.1 x.2.1 x.2.2.1 := by kernel_rfl
def f52 : Int → Int → Int → Option Bool := F52 (@LN LOOPS) 
@[reducible] def t52 : Ent := ⟨52, s52, fun x h => f52 x.1 x.2.1 x.2.2.1⟩
theorem k52 : chkNF Tryd.prog Tryd.f52 n52 = true := by kernel_rfl
theorem ok52 : NOk Tryd.prog t52 := NOk.body (T := []) mixed nall_nil (oneEach_of (by kernel_rfl)) Tryd.func52 k52 (by kernel_rfl) (fun x h => e52 _  x h)
/- drayage/drayageref02.Fits -/
def n53 : NFunc := ⟨31, .seq (.region 2 [
    ⟨(some 2), .box 4 (.tmp 0), none, 0, none⟩,
    ⟨(some 3), .box 4 (.tmp 1), none, 1, none⟩,
    ⟨(some 4), .move (.const (.bool false)), none, 2, none⟩] []) (.seq (.region 0 [
    ⟨(some 5), .fieldAddr 0 (.tmp 2), none, 0, none⟩,
    ⟨(some 6), .load false 1 (.tmp 5), none, 0, none⟩,
    ⟨(some 7), .fieldAddr 0 (.tmp 3), none, 0, none⟩,
    ⟨(some 8), .load false 1 (.tmp 7), none, 0, none⟩,
    ⟨(some 9), .bin .leq (.tmp 6) (.tmp 8), none, 0, none⟩,
    ⟨(some 10), .move (.tmp 9), none, 0, none⟩,
    ⟨(some 11), .fieldAddr 1 (.tmp 2), (some (10, true)), 0, none⟩,
    ⟨(some 12), .load false 1 (.tmp 11), (some (10, true)), 0, none⟩,
    ⟨(some 13), .fieldAddr 1 (.tmp 3), (some (10, true)), 0, none⟩,
    ⟨(some 14), .load false 1 (.tmp 13), (some (10, true)), 0, none⟩,
    ⟨(some 15), .bin .leq (.tmp 12) (.tmp 14), (some (10, true)), 0, none⟩,
    ⟨(some 16), .pick (.tmp 10) (.tmp 15) (.const (.bool false)), none, 0, none⟩,
    ⟨(some 17), .move (.tmp 16), none, 0, none⟩,
    ⟨(some 18), .fieldAddr 2 (.tmp 2), (some (17, true)), 0, none⟩,
    ⟨(some 19), .load false 1 (.tmp 18), (some (17, true)), 0, none⟩,
    ⟨(some 20), .fieldAddr 2 (.tmp 3), (some (17, true)), 0, none⟩,
    ⟨(some 21), .load false 1 (.tmp 20), (some (17, true)), 0, none⟩,
    ⟨(some 22), .bin .leq (.tmp 19) (.tmp 21), (some (17, true)), 0, none⟩,
    ⟨(some 23), .pick (.tmp 17) (.tmp 22) (.const (.bool false)), none, 0, none⟩,
    ⟨(some 24), .move (.tmp 23), none, 0, none⟩,
    ⟨(some 25), .fieldAddr 3 (.tmp 2), (some (24, true)), 0, none⟩,
    ⟨(some 26), .load false 1 (.tmp 25), (some (24, true)), 0, none⟩,
    ⟨(some 27), .fieldAddr 3 (.tmp 3), (some (24, true)), 0, none⟩,
    ⟨(some 28), .load false 1 (.tmp 27), (some (24, true)), 0, none⟩,
    ⟨(some 29), .bin .leq (.tmp 26) (.tmp 28), (some (24, true)), 0, none⟩,
    ⟨(some 30), .pick (.tmp 24) (.tmp 29) (.const (.bool false)), none, 0, none⟩,
    ⟨(some 4), .move (.tmp 30), none, 0, none⟩] []) (.ret)), [.tmp 4], true⟩
def s53 : Sig := ⟨(.cons (.v .res) (.cons (.v .res) .nil)), [], ((.v .bool), []), []⟩
def F53 (L : Lp)  (a0 : Res) (b1 : Res) : Option Bool :=
  cond (decide (a0.cpu ≤ b1.cpu))
  (cond (decide (a0.mem ≤ b1.mem))
  (cond (decide (a0.gpu ≤ b1.gpu))
  (some (decide (a0.lic ≤ b1.lic)))
  (some false))
  (some false))
  (some false)
theorem e53 (L : Lp)  (x : s53.args.den) (h : denH s53.heap) : nrun [] L n53 s53 x h = F53 L  x.1 x.2.1 := by kernel_rfl
def f53 : Res → Res → Option Bool := F53 (@LN LOOPS) 
@[reducible] def t53 : Ent := ⟨53, s53, fun x h => f53 x.1 x.2.1⟩
theorem k53 : chkNF Tryd.prog Tryd.f53 n53 = true := by kernel_rfl
theorem ok53 : NOk Tryd.prog t53 := NOk.body (T := []) mixed nall_nil (oneEach_of (by kernel_rfl)) Tryd.func53 k53 (by kernel_rfl) (fun x h => e53 _  x h)
/- drayage/drayageref16.Right -/
def n24 : NFunc := ⟨148, .seq (.region 1 [
    ⟨(some 1), .box 18 (.tmp 0), none, 0, none⟩,
    ⟨(some 2), .move (.const (.bool false)), none, 1, none⟩] []) (.seq (.seq (.region 0 [
    ⟨(some 3), .move (.const (.int .i64 (0))), none, 0, none⟩] []) (.block 0 (.loop [1, 3] ⟨[(1, (.ptr 0 0 0)), (3, (.v (.int .i64)))], [], [.one false .job]⟩ (.seq (.seq (.region 0 [
    ⟨(some 4), .move (.tmp 3), none, 0, none⟩,
    ⟨(some 5), .fieldAddr 9 (.tmp 1), none, 0, none⟩,
    ⟨(some 6), .load false 1 (.tmp 5), none, 0, none⟩,
    ⟨(some 7), .len (.tmp 6), none, 0, none⟩,
    ⟨(some 8), .bin .lss (.tmp 4) (.tmp 7), none, 0, none⟩] []) (.cond (.tmp 8) (.skip) (.exit 0))) (.seq (.block 1 (.seq (.region 4 [
    ⟨(some 11), .fieldAddr 9 (.tmp 1), none, 0, (some ([], none))⟩,
    ⟨(some 12), .load false 1 (.tmp 11), none, 0, (some ([], none))⟩,
    ⟨(some 13), .move (.tmp 3), none, 0, (some ([], none))⟩,
    ⟨(some 14), .indexSl 2 (.tmp 12) (.tmp 13), none, 0, (some ([], none))⟩,
    ⟨(some 15), .fieldAddr 0 (.tmp 14), none, 0, (some ([], none))⟩,
    ⟨(some 16), .load false 1 (.tmp 15), none, 0, (some ([], none))⟩,
    ⟨(some 17), .fieldAddr 0 (.tmp 1), none, 0, (some ([], none))⟩,
    ⟨(some 18), .load false 1 (.tmp 17), none, 0, (some ([], none))⟩,
    ⟨(some 19), .bin .sub (.tmp 18) (.const (.int .i64 (1))), none, 0, (some ([], none))⟩,
    ⟨(some 20), .call (.func 52) [(false, (.tmp 16)), (false, (.const (.int .i64 (1)))), (false, (.tmp 19))] false 4, none, 0, (some ([], none))⟩,
    ⟨(some 21), .un .not (.tmp 20), none, 4, (some ([0, 1, 2, 3], none))⟩] []) (.cond (.tmp 21) (.seq (.region 0 [
    ⟨(some 2), .move (.const (.bool false)), none, 0, none⟩] []) (.ret)) (.skip)))) (.region 0 [
    ⟨(some 9), .move (.tmp 3), none, 0, none⟩,
    ⟨(some 10), .bin .add (.tmp 9) (.const (.int .i64 (1))), none, 0, none⟩,
    ⟨(some 3), .move (.tmp 10), none, 0, none⟩] [])))))) (.seq (.seq (.region 24 [
    ⟨(some 22), .fieldAddr 9 (.tmp 1), none, 0, none⟩,
    ⟨(some 23), .load false 1 (.tmp 22), none, 0, none⟩,
    ⟨(some 24), .len (.tmp 23), none, 0, none⟩,
    ⟨(some 25), .bin .gtr (.tmp 24) (.const (.int .i64 (4))), none, 0, none⟩,
    ⟨(some 26), .move (.tmp 25), none, 0, none⟩,
    ⟨(some 27), .fieldAddr 0 (.tmp 1), (some (26, false)), 0, none⟩,
    ⟨(some 28), .load false 1 (.tmp 27), (some (26, false)), 0, none⟩,
    ⟨(some 29), .call (.func 52) [(false, (.tmp 28)), (false, (.const (.int .i64 (1)))), (false, (.const (.int .i64 (1048576))))] false 4, (some (26, false)), 0, none⟩,
    ⟨(some 30), .un .not (.tmp 29), (some (26, false)), 4, none⟩,
    ⟨(some 31), .pick (.tmp 26) (.const (.bool true)) (.tmp 30), none, 4, none⟩,
    ⟨(some 32), .move (.tmp 31), none, 4, none⟩,
    ⟨(some 33), .fieldAddr 1 (.tmp 1), (some (32, false)), 4, none⟩,
    ⟨(some 34), .load false 1 (.tmp 33), (some (32, false)), 4, none⟩,
    ⟨(some 35), .call (.func 52) [(false, (.tmp 34)), (false, (.const (.int .i64 (0)))), (false, (.const (.int .i64 (7))))] false 4, (some (32, false)), 4, none⟩,
    ⟨(some 36), .un .not (.tmp 35), (some (32, false)), 8, none⟩,
    ⟨(some 37), .pick (.tmp 32) (.const (.bool true)) (.tmp 36), none, 8, none⟩,
    ⟨(some 38), .move (.tmp 37), none, 8, none⟩,
    ⟨(some 39), .fieldAddr 2 (.tmp 1), (some (38, false)), 8, none⟩,
    ⟨(some 40), .load false 1 (.tmp 39), (some (38, false)), 8, none⟩,
    ⟨(some 41), .call (.func 52) [(false, (.tmp 40)), (false, (.const (.int .i64 (0)))), (false, (.const (.int .i64 (7))))] false 4, (some (38, false)), 8, none⟩,
    ⟨(some 42), .un .not (.tmp 41), (some (38, false)), 12, none⟩,
    ⟨(some 43), .pick (.tmp 38) (.const (.bool true)) (.tmp 42), none, 12, none⟩,
    ⟨(some 44), .move (.tmp 43), none, 12, none⟩,
    ⟨(some 45), .fieldAddr 3 (.tmp 1), (some (44, false)), 12, none⟩,
    ⟨(some 46), .load false 1 (.tmp 45), (some (44, false)), 12, none⟩,
    ⟨(some 47), .call (.func 52) [(false, (.tmp 46)), (false, (.const (.int .i64 (1)))), (false, (.const (.int .i64 (64))))] false 4, (some (44, false)), 12, none⟩,
    ⟨(some 48), .un .not (.tmp 47), (some (44, false)), 16, none⟩,
    ⟨(some 49), .pick (.tmp 44) (.const (.bool true)) (.tmp 48), none, 16, none⟩,
    ⟨(some 50), .move (.tmp 49), none, 16, none⟩,
    ⟨(some 51), .fieldAddr 4 (.tmp 1), (some (50, false)), 16, none⟩,
    ⟨(some 52), .load true 4 (.tmp 51), (some (50, false)), 16, none⟩,
    ⟨(some 53), .call (.func 30) [(false, (.tmp 52))] false 4, (some (50, false)), 16, none⟩,
    ⟨(some 54), .un .not (.tmp 53), (some (50, false)), 20, none⟩,
    ⟨(some 55), .pick (.tmp 50) (.const (.bool true)) (.tmp 54), none, 20, none⟩,
    ⟨(some 56), .move (.tmp 55), none, 20, none⟩,
    ⟨(some 57), .fieldAddr 4 (.tmp 1), (some (56, false)), 20, none⟩,
    ⟨(some 58), .load true 4 (.tmp 57), (some (56, false)), 20, none⟩,
    ⟨(some 59), .build [.int .i64 (0), .int .i64 (0), .int .i64 (0), .int .i64 (0)] [], (some (56, false)), 20, none⟩,
    ⟨(some 60), .call (.func 53) [(false, (.tmp 58)), (false, (.tmp 59))] false 4, (some (56, false)), 20, none⟩,
    ⟨(some 61), .pick (.tmp 56) (.const (.bool true)) (.tmp 60), none, 24, none⟩] []) (.cond (.tmp 61) (.seq (.region 0 [
    ⟨(some 2), .move (.const (.bool false)), none, 0, none⟩] []) (.ret)) (.skip))) (.seq (.seq (.region 16 [
    ⟨(some 62), .fieldAddr 8 (.tmp 1), none, 0, none⟩,
    ⟨(some 63), .load false 1 (.tmp 62), none, 0, none⟩,
    ⟨(some 64), .call (.func 52) [(false, (.tmp 63)), (false, (.const (.int .i64 (1)))), (false, (.const (.int .i64 (65536))))] false 4, none, 0, none⟩,
    ⟨(some 65), .un .not (.tmp 64), none, 4, none⟩,
    ⟨(some 66), .move (.tmp 65), none, 4, none⟩,
    ⟨(some 67), .fieldAddr 10 (.tmp 1), (some (66, false)), 4, none⟩,
    ⟨(some 68), .load false 1 (.tmp 67), (some (66, false)), 4, none⟩,
    ⟨(some 69), .call (.func 52) [(false, (.tmp 68)), (false, (.const (.int .i64 (1)))), (false, (.const (.int .i64 (6))))] false 4, (some (66, false)), 4, none⟩,
    ⟨(some 70), .un .not (.tmp 69), (some (66, false)), 8, none⟩,
    ⟨(some 71), .pick (.tmp 66) (.const (.bool true)) (.tmp 70), none, 8, none⟩,
    ⟨(some 72), .move (.tmp 71), none, 8, none⟩,
    ⟨(some 73), .fieldAddr 13 (.tmp 1), (some (72, false)), 8, none⟩,
    ⟨(some 74), .load false 1 (.tmp 73), (some (72, false)), 8, none⟩,
    ⟨(some 75), .call (.func 52) [(false, (.tmp 74)), (false, (.const (.int .i64 (1)))), (false, (.const (.int .i64 (281474976710656))))] false 4, (some (72, false)), 8, none⟩,
    ⟨(some 76), .un .not (.tmp 75), (some (72, false)), 12, none⟩,
    ⟨(some 77), .pick (.tmp 72) (.const (.bool true)) (.tmp 76), none, 12, none⟩,
    ⟨(some 78), .move (.tmp 77), none, 12, none⟩,
    ⟨(some 79), .fieldAddr 17 (.tmp 1), (some (78, false)), 12, none⟩,
    ⟨(some 80), .load false 1 (.tmp 79), (some (78, false)), 12, none⟩,
    ⟨(some 81), .fieldAddr 0 (.tmp 1), (some (78, false)), 12, none⟩,
    ⟨(some 82), .load false 1 (.tmp 81), (some (78, false)), 12, none⟩,
    ⟨(some 83), .call (.func 52) [(false, (.tmp 80)), (false, (.const (.int .i64 (0)))), (false, (.tmp 82))] false 4, (some (78, false)), 12, none⟩,
    ⟨(some 84), .un .not (.tmp 83), (some (78, false)), 16, none⟩,
    ⟨(some 85), .pick (.tmp 78) (.const (.bool true)) (.tmp 84), none, 16, none⟩] []) (.cond (.tmp 85) (.seq (.region 0 [
    ⟨(some 2), .move (.const (.bool false)), none, 0, none⟩] []) (.ret)) (.skip))) (.seq (.seq (.region 12 [
    ⟨(some 86), .fieldAddr 14 (.tmp 1), none, 0, none⟩,
    ⟨(some 87), .load false 1 (.tmp 86), none, 0, none⟩,
    ⟨(some 88), .call (.func 52) [(false, (.tmp 87)), (false, (.const (.int .i64 (0)))), (false, (.const (.int .i64 (1099511627776))))] false 4, none, 0, none⟩,
    ⟨(some 89), .un .not (.tmp 88), none, 4, none⟩,
    ⟨(some 90), .move (.tmp 89), none, 4, none⟩,
    ⟨(some 91), .fieldAddr 15 (.tmp 1), (some (90, false)), 4, none⟩,
    ⟨(some 92), .load false 1 (.tmp 91), (some (90, false)), 4, none⟩,
    ⟨(some 93), .call (.func 52) [(false, (.tmp 92)), (false, (.const (.int .i64 (0)))), (false, (.const (.int .i64 (1099511627776))))] false 4, (some (90, false)), 4, none⟩,
    ⟨(some 94), .un .not (.tmp 93), (some (90, false)), 8, none⟩,
    ⟨(some 95), .pick (.tmp 90) (.const (.bool true)) (.tmp 94), none, 8, none⟩,
    ⟨(some 96), .move (.tmp 95), none, 8, none⟩,
    ⟨(some 97), .fieldAddr 16 (.tmp 1), (some (96, false)), 8, none⟩,
    ⟨(some 98), .load false 1 (.tmp 97), (some (96, false)), 8, none⟩,
    ⟨(some 99), .call (.func 52) [(false, (.tmp 98)), (false, (.const (.int .i64 (0)))), (false, (.const (.int .i64 (1099511627776))))] false 4, (some (96, false)), 8, none⟩,
    ⟨(some 100), .un .not (.tmp 99), (some (96, false)), 12, none⟩,
    ⟨(some 101), .pick (.tmp 96) (.const (.bool true)) (.tmp 100), none, 12, none⟩] []) (.cond (.tmp 101) (.seq (.region 0 [
    ⟨(some 2), .move (.const (.bool false)), none, 0, none⟩] []) (.ret)) (.skip))) (.seq (.join [1] [] ⟨[(1, (.ptr 0 0 0))], [], [.one false .job]⟩ (.seq (.region 0 [
    ⟨(some 102), .fieldAddr 10 (.tmp 1), none, 0, none⟩,
    ⟨(some 103), .load false 1 (.tmp 102), none, 0, none⟩,
    ⟨(some 104), .bin .leq (.tmp 103) (.const (.int .i64 (2))), none, 0, none⟩,
    ⟨(some 105), .move (.tmp 104), none, 0, none⟩,
    ⟨(some 106), .fieldAddr 15 (.tmp 1), (some (105, true)), 0, none⟩,
    ⟨(some 107), .load false 1 (.tmp 106), (some (105, true)), 0, none⟩,
    ⟨(some 108), .bin .neq (.tmp 107) (.const (.int .i64 (0))), (some (105, true)), 0, none⟩,
    ⟨(some 109), .pick (.tmp 105) (.tmp 108) (.const (.bool false)), none, 0, none⟩,
    ⟨(some 110), .move (.tmp 109), none, 0, none⟩,
    ⟨(some 111), .fieldAddr 10 (.tmp 1), (some (110, false)), 0, none⟩,
    ⟨(some 112), .load false 1 (.tmp 111), (some (110, false)), 0, none⟩,
    ⟨(some 113), .bin .leq (.tmp 112) (.const (.int .i64 (4))), (some (110, false)), 0, none⟩,
    ⟨(some 114), .move (.tmp 113), (some (110, false)), 0, none⟩,
    ⟨(some 115), .fieldAddr 16 (.tmp 1), (some (114, true)), 0, none⟩,
    ⟨(some 116), .load false 1 (.tmp 115), (some (114, true)), 0, none⟩,
    ⟨(some 117), .bin .neq (.tmp 116) (.const (.int .i64 (0))), (some (114, true)), 0, none⟩,
    ⟨(some 118), .pick (.tmp 114) (.tmp 117) (.const (.bool false)), (some (110, false)), 0, none⟩,
    ⟨(some 119), .pick (.tmp 110) (.const (.bool true)) (.tmp 118), none, 0, none⟩] []) (.cond (.tmp 119) (.seq (.region 0 [
    ⟨(some 2), .move (.const (.bool false)), none, 0, none⟩] []) (.ret)) (.skip)))) (.seq (.region 0 [
    ⟨(some 120), .fieldAddr 11 (.tmp 1), none, 0, none⟩,
    ⟨(some 121), .load false 1 (.tmp 120), none, 0, none⟩,
    ⟨(some 122), .un .not (.tmp 121), none, 0, none⟩,
    ⟨(some 123), .move (.tmp 122), none, 0, none⟩,
    ⟨(some 124), .fieldAddr 10 (.tmp 1), (some (123, false)), 0, none⟩,
    ⟨(some 125), .load false 1 (.tmp 124), (some (123, false)), 0, none⟩,
    ⟨(some 126), .bin .eql (.tmp 125) (.const (.int .i64 (4))), (some (123, false)), 0, none⟩,
    ⟨(some 127), .pick (.tmp 123) (.const (.bool true)) (.tmp 126), none, 0, none⟩,
    ⟨(some 128), .move (.tmp 127), none, 0, none⟩,
    ⟨(some 129), .fieldAddr 10 (.tmp 1), (some (128, false)), 0, none⟩,
    ⟨(some 130), .load false 1 (.tmp 129), (some (128, false)), 0, none⟩,
    ⟨(some 131), .bin .eql (.tmp 130) (.const (.int .i64 (5))), (some (128, false)), 0, none⟩,
    ⟨(some 132), .pick (.tmp 128) (.const (.bool true)) (.tmp 131), none, 0, none⟩,
    ⟨(some 133), .move (.tmp 132), none, 0, none⟩,
    ⟨(some 134), .fieldAddr 12 (.tmp 1), (some (133, true)), 0, none⟩,
    ⟨(some 135), .load false 1 (.tmp 134), (some (133, true)), 0, none⟩,
    ⟨(some 136), .un .not (.tmp 135), (some (133, true)), 0, none⟩,
    ⟨(some 137), .move (.tmp 136), (some (133, true)), 0, none⟩,
    ⟨(some 138), .fieldAddr 10 (.tmp 1), (some (137, false)), 0, none⟩,
    ⟨(some 139), .load false 1 (.tmp 138), (some (137, false)), 0, none⟩,
    ⟨(some 140), .bin .eql (.tmp 139) (.const (.int .i64 (4))), (some (137, false)), 0, none⟩,
    ⟨(some 141), .pick (.tmp 137) (.const (.bool true)) (.tmp 140), (some (133, true)), 0, none⟩,
    ⟨(some 142), .move (.tmp 141), (some (133, true)), 0, none⟩,
    ⟨(some 143), .fieldAddr 10 (.tmp 1), (some (142, false)), 0, none⟩,
    ⟨(some 144), .load false 1 (.tmp 143), (some (142, false)), 0, none⟩,
    ⟨(some 145), .bin .eql (.tmp 144) (.const (.int .i64 (6))), (some (142, false)), 0, none⟩,
    ⟨(some 146), .pick (.tmp 142) (.const (.bool true)) (.tmp 145), (some (133, true)), 0, none⟩,
    ⟨(some 147), .pick (.tmp 133) (.tmp 146) (.const (.bool false)), none, 0, none⟩,
    ⟨(some 2), .move (.tmp 147), none, 0, none⟩] []) (.ret))))))), [.tmp 2], true⟩
def s24 : Sig := ⟨(.cons (.v .job) .nil), [], ((.v .bool), []), []⟩
def l24_0 (g52 : Int → Int → Int → Option Bool) (g30 : Res → Option Bool) (g53 : Res → Res → Option Bool) (nx2 : ((Unit × (Int × Unit)) × (Job × Unit)) → Option Bool) (i3 : Int) (z4 : Job) : Option Bool :=
  cond (decide (i3 < (List.length z4.after : Int)))
  (cond (decide (0 ≤ i3))
  (Option.bind (z4.after[Int.toNat i3]?) fun y5 =>
  Option.bind (g52 y5.job 1 (IntKind.wrap .i64 (z4.id - 1))) fun r6 =>
  cond (!r6)
  (some false)
  (nx2 (((), IntKind.wrap .i64 (i3 + 1), ()), (z4, ()))))
  (none))
  (cond (decide (4 < (List.length z4.after : Int)))
  (some false)
  (Option.bind (g52 z4.id 1 1048576) fun r7 =>
  cond (!r7)
  (some false)
  (Option.bind (g52 z4.user 0 7) fun r8 =>
  cond (!r8)
  (some false)
  (Option.bind (g52 z4.queue 0 7) fun r9 =>
  cond (!r9)
  (some false)
  (Option.bind (g52 z4.many 1 64) fun r10 =>
  cond (!r10)
  (some false)
  (Option.bind (g30 z4.need) fun r11 =>
  cond (!r11)
  (some false)
  (Option.bind (g53 z4.need (Res.mk 0 0 0 0)) fun r12 =>
  cond r12
  (some false)
  (Option.bind (g52 z4.wall 1 65536) fun r13 =>
  cond (!r13)
  (some false)
  (Option.bind (g52 z4.state 1 6) fun r14 =>
  cond (!r14)
  (some false)
  (Option.bind (g52 z4.version 1 281474976710656) fun r15 =>
  cond (!r15)
  (some false)
  (Option.bind (g52 z4.array 0 z4.id) fun r16 =>
  cond (!r16)
  (some false)
  (Option.bind (g52 z4.born 0 1099511627776) fun r17 =>
  cond (!r17)
  (some false)
  (Option.bind (g52 z4.start 0 1099511627776) fun r18 =>
  cond (!r18)
  (some false)
  (Option.bind (g52 z4.fin 0 1099511627776) fun r19 =>
  cond (!r19)
  (some false)
  (Option.bind (α := (((Unit × Unit) × (Job × Unit)) ⊕ Bool))
  (cond (decide (z4.state ≤ 2))
  (cond (!decide (z4.start = 0))
  (some (.inr false))
  (cond (decide (z4.state ≤ 4))
  (cond (!decide (z4.fin = 0))
  (some (.inr false))
  (some (.inl (((), ()), (z4, ())))))
  (some (.inl (((), ()), (z4, ()))))))
  (cond (decide (z4.state ≤ 4))
  (cond (!decide (z4.fin = 0))
  (some (.inr false))
  (some (.inl (((), ()), (z4, ())))))
  (some (.inl (((), ()), (z4, ())))))) (Sum.elim (fun x20 =>
  cond (!x20.2.1.ok)
  (cond (!x20.2.1.kill)
  (some true)
  (cond (decide (x20.2.1.state = 4))
  (some true)
  (some (decide (x20.2.1.state = 6)))))
  (cond (decide (x20.2.1.state = 4))
  (cond (!x20.2.1.kill)
  (some true)
  (cond (decide (x20.2.1.state = 4))
  (some true)
  (some (decide (x20.2.1.state = 6)))))
  (cond (decide (x20.2.1.state = 5))
  (cond (!x20.2.1.kill)
  (some true)
  (cond (decide (x20.2.1.state = 4))
  (some true)
  (some (decide (x20.2.1.state = 6)))))
  (some false)))) some))))))))))))))))
def F24 (L : Lp) (g52 : Int → Int → Int → Option Bool) (g30 : Res → Option Bool) (g53 : Res → Res → Option Bool) (j0 : Job) : Option Bool :=
  L (fun (s1 : ((Unit × (Int × Unit)) × (Job × Unit))) nx2 => l24_0 g52 g30 g53 nx2 s1.1.2.1 s1.2.1) (((), 0, ()), (j0, ()))
theorem e24 (L : Lp) (g52 : Int → Int → Int → Option Bool) (g30 : Res → Option Bool) (g53 : Res → Res → Option Bool) (x : s24.args.den) (h : denH s24.heap) : nrun [⟨52, s52, fun x h => g52 x.1 x.2.1 x.2.2.1⟩, ⟨30, s30, fun x h => g30 x.1⟩, ⟨53, s53, fun x h => g53 x.1 x.2.1⟩] L n24 s24 x h = F24 L g52 g30 g53 x.1 := by kernel_rfl
def f24 : Job → Option Bool := F24 (@LN LOOPS) f52 f30 f53
@[reducible] def t24 : Ent := ⟨24, s24, fun x h => f24 x.1⟩
theorem k24 : chkNF Tryd.prog Tryd.f24 n24 = true := by kernel_rfl
theorem ok24 : NOk Tryd.prog t24 := NOk.body (T := [t52, t30, t53]) mixed (nall_cons ok52 (nall_cons ok30 (nall_cons ok53 nall_nil))) (oneEach_of (by kernel_rfl)) Tryd.func24 k24 (by kernel_rfl) (fun x h => e24 _ _ _ _ x h)
end NM
end Go.Proofs.YtgccppgpbnmaaaaDoor
