/-
  The plain forms of the functions that the statement reaches, and that each is its function's body. (Written by program.)
-/
import Derived.Test.YtnggfgfeghmddaaNmX
import Derived.Test.YtnggfgfeghmddaaProg
import Derived.ProofKit
import Derived.Test.YtnggfgfeghmddaaNChainC
set_option linter.unusedVariables false
set_option maxRecDepth 100000
set_option maxHeartbeats 4000000
namespace Go.Proofs.Ytnggfgfeghmddaa
namespace NM
open AM Go.RowKit
theorem mixed : Try.prog.follows .mixedOrders = true := by kernel_rfl
/- drayage/deps.Chain -/
def s66 : Sig := ⟨(.cons (.v (.int .i64)) (.cons (.v (.list .job)) .nil)), [], ((.v (.list (.int .i64))), []), []⟩
def f66 : Int → (List Job) → Option (List Int) := chainF
@[reducible] def t66 : Ent := ⟨66, s66, fun x h => f66 x.1 x.2.1⟩
theorem ok66 : NOk Try.prog t66 := ext66
/- drayage/deps.find -/
def n67 : NFunc := ⟨25, .seq (.region 1 [
    ⟨(some 4), .alloc [.int .i64 (0), .int .i64 (0), .int .i64 (0), .int .i64 (0), .int .i64 (0), .int .i64 (0), .int .i64 (0), .int .i64 (0), .int .i64 (0), .zsl, .int .i64 (0), .bool false, .bool false, .int .i64 (0), .int .i64 (0), .int .i64 (0), .int .i64 (0), .int .i64 (0)], none, 0, none⟩,
    ⟨(some 5), .move (.const (.bool false)), none, 1, none⟩] []) (.seq (.seq (.region 0 [
    ⟨(some 7), .move (.tmp 1), none, 0, none⟩,
    ⟨(some 8), .len (.tmp 7), none, 0, none⟩,
    ⟨(some 9), .move (.const (.int .i64 (0))), none, 0, none⟩] []) (.block 0 (.loop [0, 1, 4, 8, 9] ⟨[(4, (.ptr 0 0 0)), (9, (.v (.int .i64)))], [0, 1, 8], [.cell false (.cons (.v (.int .i64)) (.cons (.v (.int .i64)) (.cons (.v (.int .i64)) (.cons (.v (.int .i64)) (.cons (.v (.int .i64)) (.cons (.v (.int .i64)) (.cons (.v (.int .i64)) (.cons (.v (.int .i64)) (.cons (.v (.int .i64)) (.cons .zsl (.cons (.v (.int .i64)) (.cons (.v .bool) (.cons (.v .bool) (.cons (.v (.int .i64)) (.cons (.v (.int .i64)) (.cons (.v (.int .i64)) (.cons (.v (.int .i64)) (.cons (.v (.int .i64)) .nil))))))))))))))))))]⟩ (.seq (.region 0 [
    ⟨(some 10), .bin .lss (.tmp 9) (.tmp 8), none, 0, none⟩] []) (.seq (.cond (.tmp 10) (.skip) (.exit 0)) (.seq (.block 1 (.seq (.region 0 [
    ⟨(some 11), .move (.tmp 9), none, 0, none⟩,
    ⟨(some 6), .move (.tmp 11), none, 0, none⟩] []) (.seq (.region 0 [
    ⟨(some 12), .move (.tmp 1), none, 0, none⟩,
    ⟨(some 13), .move (.tmp 6), none, 0, none⟩,
    ⟨(some 14), .indexSl 18 (.tmp 12) (.tmp 13), none, 0, none⟩,
    ⟨(some 15), .fieldAddr 0 (.tmp 14), none, 0, none⟩,
    ⟨(some 16), .load false 1 (.tmp 15), none, 0, none⟩,
    ⟨(some 17), .move (.tmp 0), none, 0, none⟩,
    ⟨(some 18), .bin .eql (.tmp 16) (.tmp 17), none, 0, none⟩] []) (.cond (.tmp 18) (.seq (.region 0 [
    ⟨(some 19), .move (.tmp 1), none, 0, none⟩,
    ⟨(some 20), .move (.tmp 6), none, 0, none⟩,
    ⟨(some 21), .indexSl 18 (.tmp 19) (.tmp 20), none, 0, none⟩,
    ⟨(some 22), .load true 18 (.tmp 21), none, 0, none⟩,
    ⟨none, .store 18 (.tmp 4) (.tmp 22), none, 0, none⟩,
    ⟨(some 5), .move (.const (.bool true)), none, 0, none⟩] []) (.ret)) (.skip))))) (.region 0 [
    ⟨(some 23), .bin .add (.tmp 9) (.const (.int .i64 (1))), none, 0, none⟩,
    ⟨(some 9), .move (.tmp 23), none, 0, none⟩] []))))))) (.seq (.region 0 [
    ⟨(some 24), .build [.int .i64 (0), .int .i64 (0), .int .i64 (0), .int .i64 (0), .int .i64 (0), .int .i64 (0), .int .i64 (0), .int .i64 (0), .int .i64 (0), .zsl, .int .i64 (0), .bool false, .bool false, .int .i64 (0), .int .i64 (0), .int .i64 (0), .int .i64 (0), .int .i64 (0)] [], none, 0, none⟩,
    ⟨none, .store 18 (.tmp 4) (.tmp 24), none, 0, none⟩,
    ⟨(some 5), .move (.const (.bool false)), none, 0, none⟩] []) (.ret))), [.cell true 18 4, .tmp 5], true⟩
def s67 : Sig := ⟨(.cons (.v (.int .i64)) (.cons (.v (.list .job)) .nil)), [], ((.tup (.cons (.v .job) (.cons (.v .bool) .nil))), []), []⟩
def l67_0 (id0 : Int) (all1 : (List Job)) (nx3 : ((Unit × (Int × Unit)) × ((Int × (Int × (Int × (Int × (Int × (Int × (Int × (Int × (Int × (Unit × (Int × (Bool × (Bool × (Int × (Int × (Int × (Int × (Int × Unit)))))))))))))))))) × Unit)) → Option (Job × (Bool × Unit))) (z4 : Int) (z5 : Int) (z6 : Int) (z7 : Int) (z8 : Int) (z9 : Int) (z10 : Int) (z11 : Int) (z12 : Int) (z13 : Int) (z14 : Int) (z15 : Bool) (z16 : Bool) (z17 : Int) (z18 : Int) (z19 : Int) (z20 : Int) (z21 : Int) : Option (Job × (Bool × Unit)) :=
  cond (decide (z4 < (List.length all1 : Int)))
  (cond (decide (0 ≤ z4))
  (Option.bind (all1[Int.toNat z4]?) fun y22 =>
  cond (decide (y22.id = id0))
  (cond (decide (0 ≤ z4))
  (Option.bind (all1[Int.toNat z4]?) fun y23 =>
  some (y23, true, ()))
  (none))
  (nx3 (((), IntKind.wrap .i64 (z4 + 1), ()), ((z5, z6, z7, z8, z9, z10, z11, z12, z13, (), z14, z15, z16, z17, z18, z19, z20, z21, ()), ()))))
  (none))
  (some (Job.mk 0 0 0 0 (Res.mk 0 0 0 0) 0 [] 0 false false 0 0 0 0 0, false, ()))
def F67 (L : Lp)  (id0 : Int) (all1 : (List Job)) : Option (Job × (Bool × Unit)) :=
  L (fun (s2 : ((Unit × (Int × Unit)) × ((Int × (Int × (Int × (Int × (Int × (Int × (Int × (Int × (Int × (Unit × (Int × (Bool × (Bool × (Int × (Int × (Int × (Int × (Int × Unit)))))))))))))))))) × Unit))) nx3 => l67_0 id0 all1 nx3 s2.1.2.1 s2.2.1.1 s2.2.1.2.1 s2.2.1.2.2.1 s2.2.1.2.2.2.1 s2.2.1.2.2.2.2.1 s2.2.1.2.2.2.2.2.1 s2.2.1.2.2.2.2.2.2.1 s2.2.1.2.2.2.2.2.2.2.1 s2.2.1.2.2.2.2.2.2.2.2.1 s2.2.1.2.2.2.2.2.2.2.2.2.2.1 s2.2.1.2.2.2.2.2.2.2.2.2.2.2.1 s2.2.1.2.2.2.2.2.2.2.2.2.2.2.2.1 s2.2.1.2.2.2.2.2.2.2.2.2.2.2.2.2.1 s2.2.1.2.2.2.2.2.2.2.2.2.2.2.2.2.2.1 s2.2.1.2.2.2.2.2.2.2.2.2.2.2.2.2.2.2.1 s2.2.1.2.2.2.2.2.2.2.2.2.2.2.2.2.2.2.2.1 s2.2.1.2.2.2.2.2.2.2.2.2.2.2.2.2.2.2.2.2.1) (((), 0, ()), ((0, 0, 0, 0, 0, 0, 0, 0, 0, (), 0, false, false, 0, 0, 0, 0, 0, ()), ()))
theorem e67 (L : Lp)  (x : s67.args.den) (h : denH s67.heap) : nrun [] L n67 s67 x h = F67 L  x.1 x.2.1 := by kernel_rfl
def f67 : Int → (List Job) → Option (Job × (Bool × Unit)) := F67 (@LN LOOPS) 
@[reducible] def t67 : Ent := ⟨67, s67, fun x h => f67 x.1 x.2.1⟩
theorem k67 : chkNF Try.prog Try.f67 n67 = true := by kernel_rfl
theorem ok67 : NOk Try.prog t67 := NOk.body (T := []) mixed nall_nil (oneEach_of (by kernel_rfl)) Try.func67 k67 (by kernel_rfl) (fun x h => e67 _  x h)
/- drayage/life.Over -/
def n69 : NFunc := ⟨9, .seq (.region 0 [
    ⟨(some 2), .move (.const (.bool false)), none, 0, none⟩] []) (.seq (.region 0 [
    ⟨(some 3), .move (.tmp 0), none, 0, none⟩,
    ⟨(some 4), .bin .eql (.tmp 3) (.const (.int .i64 (5))), none, 0, none⟩,
    ⟨(some 5), .move (.tmp 4), none, 0, none⟩,
    ⟨(some 6), .move (.tmp 0), (some (5, false)), 0, none⟩,
    ⟨(some 7), .bin .eql (.tmp 6) (.const (.int .i64 (6))), (some (5, false)), 0, none⟩,
    ⟨(some 8), .pick (.tmp 5) (.const (.bool true)) (.tmp 7), none, 0, none⟩,
    ⟨(some 2), .move (.tmp 8), none, 0, none⟩] []) (.ret)), [.tmp 2], true⟩
def s69 : Sig := ⟨(.cons (.v (.int .i64)) .nil), [], ((.v .bool), []), []⟩
def F69 (L : Lp)  (state0 : Int) : Option Bool :=
  cond (decide (state0 = 5))
  (some true)
  (some (decide (state0 = 6)))
theorem e69 (L : Lp)  (x : s69.args.den) (h : denH s69.heap) : nrun [] L n69 s69 x h = F69 L  x.1 := by kernel_rfl
def f69 : Int → Option Bool := F69 (@LN LOOPS) 
@[reducible] def t69 : Ent := ⟨69, s69, fun x h => f69 x.1⟩
theorem k69 : chkNF Try.prog Try.f69 n69 = true := by kernel_rfl
theorem ok69 : NOk Try.prog t69 := NOk.body (T := []) mixed nall_nil (oneEach_of (by kernel_rfl)) Try.func69 k69 (by kernel_rfl) (fun x h => e69 _  x h)
/- drayage/deps.met -/
def n68 : NFunc := ⟨22, .seq (.region 2 [
    ⟨(some 2), .box 2 (.tmp 0), none, 0, none⟩,
    ⟨(some 3), .box 18 (.tmp 1), none, 1, none⟩,
    ⟨(some 4), .move (.const (.bool false)), none, 2, none⟩] []) (.seq (.region 4 [
    ⟨(some 5), .fieldAddr 10 (.tmp 3), none, 0, none⟩,
    ⟨(some 6), .load false 1 (.tmp 5), none, 0, none⟩,
    ⟨(some 7), .call (.func 69) [(false, (.tmp 6))] false 4, none, 0, none⟩,
    ⟨(some 8), .move (.tmp 7), none, 4, none⟩,
    ⟨(some 9), .fieldAddr 1 (.tmp 2), (some (8, true)), 4, none⟩,
    ⟨(some 10), .load false 1 (.tmp 9), (some (8, true)), 4, none⟩,
    ⟨(some 11), .un .not (.tmp 10), (some (8, true)), 4, none⟩,
    ⟨(some 12), .move (.tmp 11), (some (8, true)), 4, none⟩,
    ⟨(some 13), .fieldAddr 10 (.tmp 3), (some (12, false)), 4, none⟩,
    ⟨(some 14), .load false 1 (.tmp 13), (some (12, false)), 4, none⟩,
    ⟨(some 15), .bin .eql (.tmp 14) (.const (.int .i64 (5))), (some (12, false)), 4, none⟩,
    ⟨(some 16), .move (.tmp 15), (some (12, false)), 4, none⟩,
    ⟨(some 17), .fieldAddr 11 (.tmp 3), (some (16, true)), 4, none⟩,
    ⟨(some 18), .load false 1 (.tmp 17), (some (16, true)), 4, none⟩,
    ⟨(some 19), .pick (.tmp 16) (.tmp 18) (.const (.bool false)), (some (12, false)), 4, none⟩,
    ⟨(some 20), .pick (.tmp 12) (.const (.bool true)) (.tmp 19), (some (8, true)), 4, none⟩,
    ⟨(some 21), .pick (.tmp 8) (.tmp 20) (.const (.bool false)), none, 4, none⟩,
    ⟨(some 4), .move (.tmp 21), none, 4, none⟩] []) (.ret)), [.tmp 4], true⟩
def s68 : Sig := ⟨(.cons (.v .dep) (.cons (.v .job) .nil)), [], ((.v .bool), []), []⟩
def F68 (L : Lp) (g69 : Int → Option Bool) (d0 : Dep) (on1 : Job) : Option Bool :=
  Option.bind (g69 on1.state) fun r2 =>
  cond r2
  (cond (!d0.ok)
  (some true)
  (cond (decide (on1.state = 5))
  (some on1.ok)
  (some false)))
  (some false)
theorem e68 (L : Lp) (g69 : Int → Option Bool) (x : s68.args.den) (h : denH s68.heap) : nrun [⟨69, s69, fun x h => g69 x.1⟩] L n68 s68 x h = F68 L g69 x.1 x.2.1 := by kernel_rfl
def f68 : Dep → Job → Option Bool := F68 (@LN LOOPS) f69
@[reducible] def t68 : Ent := ⟨68, s68, fun x h => f68 x.1 x.2.1⟩
theorem k68 : chkNF Try.prog Try.f68 n68 = true := by kernel_rfl
theorem ok68 : NOk Try.prog t68 := NOk.body (T := [t69]) mixed (nall_cons ok69 nall_nil) (oneEach_of (by kernel_rfl)) Try.func68 k68 (by kernel_rfl) (fun x h => e68 _ _ x h)
/- drayage/deps.Met -/
def n34 : NFunc := ⟨32, .seq (.region 1 [
    ⟨(some 2), .box 18 (.tmp 0), none, 0, none⟩,
    ⟨(some 4), .move (.const (.bool false)), none, 1, none⟩] []) (.seq (.seq (.region 0 [
    ⟨(some 9), .fieldAddr 9 (.tmp 2), none, 0, none⟩,
    ⟨(some 10), .load false 1 (.tmp 9), none, 0, none⟩,
    ⟨(some 11), .len (.tmp 10), none, 0, none⟩,
    ⟨(some 12), .move (.const (.int .i64 (0))), none, 0, none⟩] []) (.block 0 (.loop [1, 10, 11, 12] ⟨[(12, (.v (.int .i64)))], [1, 10, 11], []⟩ (.seq (.region 0 [
    ⟨(some 13), .bin .lss (.tmp 12) (.tmp 11), none, 0, none⟩] []) (.seq (.cond (.tmp 13) (.skip) (.exit 0)) (.seq (.block 1 (.seq (.region 1 [
    ⟨(some 14), .indexSl 2 (.tmp 10) (.tmp 12), none, 0, none⟩,
    ⟨(some 15), .load true 2 (.tmp 14), none, 0, none⟩,
    ⟨(some 6), .alloc [.int .i64 (0), .bool false], none, 0, none⟩,
    ⟨none, .store 2 (.tmp 6) (.tmp 15), none, 1, none⟩] []) (.seq (.region 5 [
    ⟨(some 17), .fieldAddr 0 (.tmp 6), none, 0, none⟩,
    ⟨(some 18), .load false 1 (.tmp 17), none, 0, none⟩,
    ⟨(some 19), .move (.tmp 1), none, 0, none⟩,
    ⟨(some 20), .call (.func 67) [(false, (.tmp 18)), (false, (.tmp 19))] false 4, none, 0, none⟩,
    ⟨(some 16), .move (.tmp 20), none, 4, none⟩,
    ⟨(some 21), .extract (.tmp 16) 0, none, 4, none⟩,
    ⟨(some 22), .extract (.tmp 16) 1, none, 4, none⟩,
    ⟨(some 7), .alloc [.int .i64 (0), .int .i64 (0), .int .i64 (0), .int .i64 (0), .int .i64 (0), .int .i64 (0), .int .i64 (0), .int .i64 (0), .int .i64 (0), .zsl, .int .i64 (0), .bool false, .bool false, .int .i64 (0), .int .i64 (0), .int .i64 (0), .int .i64 (0), .int .i64 (0)], none, 4, none⟩,
    ⟨none, .store 18 (.tmp 7) (.tmp 21), none, 5, none⟩,
    ⟨(some 8), .move (.tmp 22), none, 5, none⟩] []) (.seq (.region 4 [
    ⟨(some 23), .move (.tmp 8), none, 0, none⟩,
    ⟨(some 24), .un .not (.tmp 23), none, 0, none⟩,
    ⟨(some 25), .move (.tmp 24), none, 0, none⟩,
    ⟨(some 26), .load true 2 (.tmp 6), (some (25, false)), 0, none⟩,
    ⟨(some 27), .load true 18 (.tmp 7), (some (25, false)), 0, none⟩,
    ⟨(some 28), .call (.func 68) [(false, (.tmp 26)), (false, (.tmp 27))] false 4, (some (25, false)), 0, none⟩,
    ⟨(some 29), .un .not (.tmp 28), (some (25, false)), 4, none⟩,
    ⟨(some 30), .pick (.tmp 25) (.const (.bool true)) (.tmp 29), none, 4, none⟩] []) (.cond (.tmp 30) (.seq (.region 0 [
    ⟨(some 4), .move (.const (.bool false)), none, 0, none⟩] []) (.ret)) (.skip)))))) (.region 0 [
    ⟨(some 31), .bin .add (.tmp 12) (.const (.int .i64 (1))), none, 0, none⟩,
    ⟨(some 12), .move (.tmp 31), none, 0, none⟩] []))))))) (.seq (.region 0 [
    ⟨(some 4), .move (.const (.bool true)), none, 0, none⟩] []) (.ret))), [.tmp 4], true⟩
def s34 : Sig := ⟨(.cons (.v .job) (.cons (.v (.list .job)) .nil)), [], ((.v .bool), []), []⟩
def l34_0 (g67 : Int → (List Job) → Option (Job × (Bool × Unit))) (g68 : Dep → Job → Option Bool) (j0 : Job) (all1 : (List Job)) (nx3 : ((Int × Unit) × Unit) → Option Bool) (z4 : Int) : Option Bool :=
  cond (decide (z4 < (List.length j0.after : Int)))
  (cond (decide (0 ≤ z4))
  (Option.bind (j0.after[Int.toNat z4]?) fun y5 =>
  Option.bind (g67 y5.job all1) fun r6 =>
  cond (!r6.2.1)
  (some false)
  (Option.bind (g68 y5 r6.1) fun r7 =>
  cond (!r7)
  (some false)
  (nx3 ((IntKind.wrap .i64 (z4 + 1), ()), ()))))
  (none))
  (some true)
def F34 (L : Lp) (g67 : Int → (List Job) → Option (Job × (Bool × Unit))) (g68 : Dep → Job → Option Bool) (j0 : Job) (all1 : (List Job)) : Option Bool :=
  L (fun (s2 : ((Int × Unit) × Unit)) nx3 => l34_0 g67 g68 j0 all1 nx3 s2.1.1) ((0, ()), ())
theorem e34 (L : Lp) (g67 : Int → (List Job) → Option (Job × (Bool × Unit))) (g68 : Dep → Job → Option Bool) (x : s34.args.den) (h : denH s34.heap) : nrun [⟨67, s67, fun x h => g67 x.1 x.2.1⟩, ⟨68, s68, fun x h => g68 x.1 x.2.1⟩] L n34 s34 x h = F34 L g67 g68 x.1 x.2.1 := by kernel_rfl
def f34 : Job → (List Job) → Option Bool := F34 (@LN LOOPS) f67 f68
@[reducible] def t34 : Ent := ⟨34, s34, fun x h => f34 x.1 x.2.1⟩
theorem k34 : chkNF Try.prog Try.f34 n34 = true := by kernel_rfl
theorem ok34 : NOk Try.prog t34 := NOk.body (T := [t67, t68]) mixed (nall_cons ok67 (nall_cons ok68 nall_nil)) (oneEach_of (by kernel_rfl)) Try.func34 k34 (by kernel_rfl) (fun x h => e34 _ _ _ x h)
/- drayage/drayagelaw17.awake -/
def n32 : NFunc := ⟨43, .seq (.region 0 [
    ⟨(some 0), .move (.const (.bool false)), none, 0, none⟩] []) (.seq (.post [1] [.frz 1] (.region 3 [
    ⟨(some 3), .build [.int .i64 (0), .int .i64 (0), .int .i64 (0), .int .i64 (0), .int .i64 (0), .int .i64 (0), .int .i64 (0), .int .i64 (0), .int .i64 (0), .zsl, .int .i64 (0), .bool false, .bool false, .int .i64 (0), .int .i64 (0), .int .i64 (0), .int .i64 (0), .int .i64 (0)] [(0, 1, (.const (.int .i64 (1))))], none, 0, none⟩,
    ⟨(some 4), .build [.int .i64 (0), .bool false] [(0, 1, (.const (.int .i64 (1))))], none, 0, none⟩,
    ⟨(some 5), .buildSlice 2 1 true [.int .i64 (0), .bool false] [(0, (.tmp 4))], none, 0, none⟩,
    ⟨(some 6), .build [.int .i64 (0), .int .i64 (0), .int .i64 (0), .int .i64 (0), .int .i64 (0), .int .i64 (0), .int .i64 (0), .int .i64 (0), .int .i64 (0), .zsl, .int .i64 (0), .bool false, .bool false, .int .i64 (0), .int .i64 (0), .int .i64 (0), .int .i64 (0), .int .i64 (0)] [(0, 1, (.const (.int .i64 (2)))), (9, 1, (.tmp 5))], none, 1, none⟩,
    ⟨(some 7), .build [.int .i64 (0), .bool false] [(0, 1, (.const (.int .i64 (2))))], none, 1, none⟩,
    ⟨(some 8), .buildSlice 2 1 true [.int .i64 (0), .bool false] [(0, (.tmp 7))], none, 1, none⟩,
    ⟨(some 9), .build [.int .i64 (0), .int .i64 (0), .int .i64 (0), .int .i64 (0), .int .i64 (0), .int .i64 (0), .int .i64 (0), .int .i64 (0), .int .i64 (0), .zsl, .int .i64 (0), .bool false, .bool false, .int .i64 (0), .int .i64 (0), .int .i64 (0), .int .i64 (0), .int .i64 (0)] [(0, 1, (.const (.int .i64 (3)))), (9, 1, (.tmp 8))], none, 2, none⟩,
    ⟨(some 10), .buildSlice 18 3 true [.int .i64 (0), .int .i64 (0), .int .i64 (0), .int .i64 (0), .int .i64 (0), .int .i64 (0), .int .i64 (0), .int .i64 (0), .int .i64 (0), .zsl, .int .i64 (0), .bool false, .bool false, .int .i64 (0), .int .i64 (0), .int .i64 (0), .int .i64 (0), .int .i64 (0)] [(0, (.tmp 3)), (1, (.tmp 6)), (2, (.tmp 9))], none, 2, none⟩,
    ⟨(some 1), .move (.tmp 10), none, 3, none⟩] [])) (.seq (.region 4 [
    ⟨(some 11), .move (.tmp 1), none, 0, none⟩,
    ⟨(some 12), .call (.func 66) [(false, (.const (.int .i64 (3)))), (false, (.tmp 11))] false 4, none, 0, none⟩,
    ⟨(some 2), .move (.tmp 12), none, 4, none⟩] []) (.seq (.region 8 [
    ⟨(some 13), .move (.tmp 2), none, 0, none⟩,
    ⟨(some 14), .len (.tmp 13), none, 0, none⟩,
    ⟨(some 15), .bin .eql (.tmp 14) (.const (.int .i64 (2))), none, 0, none⟩,
    ⟨(some 16), .move (.tmp 15), none, 0, none⟩,
    ⟨(some 17), .move (.tmp 2), (some (16, true)), 0, none⟩,
    ⟨(some 18), .indexSl 1 (.tmp 17) (.const (.int .i64 (0))), (some (16, true)), 0, none⟩,
    ⟨(some 19), .load false 1 (.tmp 18), (some (16, true)), 0, none⟩,
    ⟨(some 20), .bin .eql (.tmp 19) (.const (.int .i64 (1))), (some (16, true)), 0, none⟩,
    ⟨(some 21), .pick (.tmp 16) (.tmp 20) (.const (.bool false)), none, 0, none⟩,
    ⟨(some 22), .move (.tmp 21), none, 0, none⟩,
    ⟨(some 23), .move (.tmp 2), (some (22, true)), 0, none⟩,
    ⟨(some 24), .indexSl 1 (.tmp 23) (.const (.int .i64 (1))), (some (22, true)), 0, none⟩,
    ⟨(some 25), .load false 1 (.tmp 24), (some (22, true)), 0, none⟩,
    ⟨(some 26), .bin .eql (.tmp 25) (.const (.int .i64 (2))), (some (22, true)), 0, none⟩,
    ⟨(some 27), .pick (.tmp 22) (.tmp 26) (.const (.bool false)), none, 0, none⟩,
    ⟨(some 28), .move (.tmp 27), none, 0, none⟩,
    ⟨(some 29), .move (.tmp 1), (some (28, true)), 0, none⟩,
    ⟨(some 30), .indexSl 18 (.tmp 29) (.const (.int .i64 (0))), (some (28, true)), 0, none⟩,
    ⟨(some 31), .load true 18 (.tmp 30), (some (28, true)), 0, none⟩,
    ⟨(some 32), .move (.tmp 1), (some (28, true)), 0, none⟩,
    ⟨(some 33), .call (.func 34) [(false, (.tmp 31)), (false, (.tmp 32))] false 4, (some (28, true)), 0, none⟩,
    ⟨(some 34), .pick (.tmp 28) (.tmp 33) (.const (.bool false)), none, 4, none⟩,
    ⟨(some 35), .move (.tmp 34), none, 4, none⟩,
    ⟨(some 36), .move (.tmp 1), (some (35, true)), 4, none⟩,
    ⟨(some 37), .indexSl 18 (.tmp 36) (.const (.int .i64 (1))), (some (35, true)), 4, none⟩,
    ⟨(some 38), .load true 18 (.tmp 37), (some (35, true)), 4, none⟩,
    ⟨(some 39), .move (.tmp 1), (some (35, true)), 4, none⟩,
    ⟨(some 40), .call (.func 34) [(false, (.tmp 38)), (false, (.tmp 39))] false 4, (some (35, true)), 4, none⟩,
    ⟨(some 41), .un .not (.tmp 40), (some (35, true)), 8, none⟩,
    ⟨(some 42), .pick (.tmp 35) (.tmp 41) (.const (.bool false)), none, 8, none⟩,
    ⟨(some 0), .move (.tmp 42), none, 8, none⟩] []) (.ret)))), [.tmp 0], true⟩
def s32 : Sig := ⟨.nil, [], ((.v .bool), []), []⟩
def F32 (L : Lp) (g66 : Int → (List Job) → Option (List Int)) (g34 : Job → (List Job) → Option Bool)  : Option Bool :=
  Option.bind (g66 3 [Job.mk 1 0 0 0 (Res.mk 0 0 0 0) 0 [] 0 false false 0 0 0 0 0, Job.mk 2 0 0 0 (Res.mk 0 0 0 0) 0 [Dep.mk 1 false] 0 false false 0 0 0 0 0, Job.mk 3 0 0 0 (Res.mk 0 0 0 0) 0 [Dep.mk 2 false] 0 false false 0 0 0 0 0]) fun r0 =>
  cond (decide ((List.length r0 : Int) = 2))
  (Option.bind (r0[0]?) fun y1 =>
  cond (decide (y1 = 1))
  (Option.bind (r0[1]?) fun y2 =>
  cond (decide (y2 = 2))
  (Option.bind (g34 (Job.mk 1 0 0 0 (Res.mk 0 0 0 0) 0 [] 0 false false 0 0 0 0 0) [Job.mk 1 0 0 0 (Res.mk 0 0 0 0) 0 [] 0 false false 0 0 0 0 0, Job.mk 2 0 0 0 (Res.mk 0 0 0 0) 0 [Dep.mk 1 false] 0 false false 0 0 0 0 0, Job.mk 3 0 0 0 (Res.mk 0 0 0 0) 0 [Dep.mk 2 false] 0 false false 0 0 0 0 0]) fun r3 =>
  cond r3
  (Option.bind (g34 (Job.mk 2 0 0 0 (Res.mk 0 0 0 0) 0 [Dep.mk 1 false] 0 false false 0 0 0 0 0) [Job.mk 1 0 0 0 (Res.mk 0 0 0 0) 0 [] 0 false false 0 0 0 0 0, Job.mk 2 0 0 0 (Res.mk 0 0 0 0) 0 [Dep.mk 1 false] 0 false false 0 0 0 0 0, Job.mk 3 0 0 0 (Res.mk 0 0 0 0) 0 [Dep.mk 2 false] 0 false false 0 0 0 0 0]) fun r4 =>
  some !r4)
  (some false))
  (some false))
  (some false))
  (some false)
theorem e32 (L : Lp) (g66 : Int → (List Job) → Option (List Int)) (g34 : Job → (List Job) → Option Bool) (x : s32.args.den) (h : denH s32.heap) : nrun [⟨66, s66, fun x h => g66 x.1 x.2.1⟩, ⟨34, s34, fun x h => g34 x.1 x.2.1⟩] L n32 s32 x h = F32 L g66 g34  := by kernel_rfl
def f32 : Option Bool := F32 (@LN LOOPS) f66 f34
@[reducible] def t32 : Ent := ⟨32, s32, fun x h => f32 ⟩
theorem k32 : chkNF Try.prog Try.f32 n32 = true := by kernel_rfl
theorem ok32 : NOk Try.prog t32 := NOk.body (T := [t66, t34]) mixed (nall_cons ok66 (nall_cons ok34 nall_nil)) (oneEach_of (by kernel_rfl)) Try.func32 k32 (by kernel_rfl) (fun x h => e32 _ _ _ x h)
/- drayage/drayagelaw17.Few -/
def n33 : NFunc := ⟨19, .seq (.region 0 [
    ⟨(some 2), .move (.const (.bool false)), none, 0, none⟩] []) (.seq (.seq (.region 0 [
    ⟨(some 5), .move (.tmp 0), none, 0, none⟩,
    ⟨(some 6), .len (.tmp 5), none, 0, none⟩,
    ⟨(some 7), .bin .gtr (.tmp 6) (.const (.int .i64 (30))), none, 0, none⟩] []) (.cond (.tmp 7) (.seq (.region 0 [
    ⟨(some 2), .move (.const (.bool false)), none, 0, none⟩] []) (.ret)) (.skip))) (.seq (.seq (.region 0 [
    ⟨(some 8), .move (.tmp 0), none, 0, none⟩,
    ⟨(some 9), .len (.tmp 8), none, 0, none⟩,
    ⟨(some 10), .move (.const (.int .i64 (0))), none, 0, none⟩] []) (.block 0 (.loop [8, 9, 10] ⟨[(10, (.v (.int .i64)))], [8, 9], []⟩ (.seq (.region 0 [
    ⟨(some 11), .bin .lss (.tmp 10) (.tmp 9), none, 0, none⟩] []) (.seq (.cond (.tmp 11) (.skip) (.exit 0)) (.seq (.block 1 (.seq (.region 1 [
    ⟨(some 12), .indexSl 18 (.tmp 8) (.tmp 10), none, 0, none⟩,
    ⟨(some 13), .load true 18 (.tmp 12), none, 0, none⟩,
    ⟨(some 4), .alloc [.int .i64 (0), .int .i64 (0), .int .i64 (0), .int .i64 (0), .int .i64 (0), .int .i64 (0), .int .i64 (0), .int .i64 (0), .int .i64 (0), .zsl, .int .i64 (0), .bool false, .bool false, .int .i64 (0), .int .i64 (0), .int .i64 (0), .int .i64 (0), .int .i64 (0)], none, 0, none⟩,
    ⟨none, .store 18 (.tmp 4) (.tmp 13), none, 1, none⟩] []) (.seq (.region 0 [
    ⟨(some 14), .fieldAddr 9 (.tmp 4), none, 0, none⟩,
    ⟨(some 15), .load false 1 (.tmp 14), none, 0, none⟩,
    ⟨(some 16), .len (.tmp 15), none, 0, none⟩,
    ⟨(some 17), .bin .gtr (.tmp 16) (.const (.int .i64 (10))), none, 0, none⟩] []) (.cond (.tmp 17) (.seq (.region 0 [
    ⟨(some 2), .move (.const (.bool false)), none, 0, none⟩] []) (.ret)) (.skip))))) (.region 0 [
    ⟨(some 18), .bin .add (.tmp 10) (.const (.int .i64 (1))), none, 0, none⟩,
    ⟨(some 10), .move (.tmp 18), none, 0, none⟩] []))))))) (.seq (.region 0 [
    ⟨(some 2), .move (.const (.bool true)), none, 0, none⟩] []) (.ret)))), [.tmp 2], true⟩
def s33 : Sig := ⟨(.cons (.v (.list .job)) .nil), [], ((.v .bool), []), []⟩
def l33_0 (all0 : (List Job)) (nx2 : ((Int × Unit) × Unit) → Option Bool) (z3 : Int) : Option Bool :=
  cond (decide (z3 < (List.length all0 : Int)))
  (cond (decide (0 ≤ z3))
  (Option.bind (all0[Int.toNat z3]?) fun y4 =>
  cond (decide (10 < (List.length y4.after : Int)))
  (some false)
  (nx2 ((IntKind.wrap .i64 (z3 + 1), ()), ())))
  (none))
  (some true)
def F33 (L : Lp)  (all0 : (List Job)) : Option Bool :=
  cond (decide (30 < (List.length all0 : Int)))
  (some false)
  (L (fun (s1 : ((Int × Unit) × Unit)) nx2 => l33_0 all0 nx2 s1.1.1) ((0, ()), ()))
theorem e33 (L : Lp)  (x : s33.args.den) (h : denH s33.heap) : nrun [] L n33 s33 x h = F33 L  x.1 := by kernel_rfl
def f33 : (List Job) → Option Bool := F33 (@LN LOOPS) 
@[reducible] def t33 : Ent := ⟨33, s33, fun x h => f33 x.1⟩
theorem k33 : chkNF Try.prog Try.f33 n33 = true := by kernel_rfl
theorem ok33 : NOk Try.prog t33 := NOk.body (T := []) mixed nall_nil (oneEach_of (by kernel_rfl)) Try.func33 k33 (by kernel_rfl) (fun x h => e33 _  x h)
/- drayage/deps.Lost -/
def n35 : NFunc := ⟨36, .seq (.region 1 [
    ⟨(some 2), .box 18 (.tmp 0), none, 0, none⟩,
    ⟨(some 4), .move (.const (.bool false)), none, 1, none⟩] []) (.seq (.seq (.region 0 [
    ⟨(some 9), .fieldAddr 9 (.tmp 2), none, 0, none⟩,
    ⟨(some 10), .load false 1 (.tmp 9), none, 0, none⟩,
    ⟨(some 11), .len (.tmp 10), none, 0, none⟩,
    ⟨(some 12), .move (.const (.int .i64 (0))), none, 0, none⟩] []) (.block 0 (.loop [1, 10, 11, 12] ⟨[(12, (.v (.int .i64)))], [1, 10, 11], []⟩ (.seq (.region 0 [
    ⟨(some 13), .bin .lss (.tmp 12) (.tmp 11), none, 0, none⟩] []) (.seq (.cond (.tmp 13) (.skip) (.exit 0)) (.seq (.block 1 (.seq (.region 1 [
    ⟨(some 14), .indexSl 2 (.tmp 10) (.tmp 12), none, 0, none⟩,
    ⟨(some 15), .load true 2 (.tmp 14), none, 0, none⟩,
    ⟨(some 6), .alloc [.int .i64 (0), .bool false], none, 0, none⟩,
    ⟨none, .store 2 (.tmp 6) (.tmp 15), none, 1, none⟩] []) (.seq (.region 5 [
    ⟨(some 17), .fieldAddr 0 (.tmp 6), none, 0, none⟩,
    ⟨(some 18), .load false 1 (.tmp 17), none, 0, none⟩,
    ⟨(some 19), .move (.tmp 1), none, 0, none⟩,
    ⟨(some 20), .call (.func 67) [(false, (.tmp 18)), (false, (.tmp 19))] false 4, none, 0, none⟩,
    ⟨(some 16), .move (.tmp 20), none, 4, none⟩,
    ⟨(some 21), .extract (.tmp 16) 0, none, 4, none⟩,
    ⟨(some 22), .extract (.tmp 16) 1, none, 4, none⟩,
    ⟨(some 7), .alloc [.int .i64 (0), .int .i64 (0), .int .i64 (0), .int .i64 (0), .int .i64 (0), .int .i64 (0), .int .i64 (0), .int .i64 (0), .int .i64 (0), .zsl, .int .i64 (0), .bool false, .bool false, .int .i64 (0), .int .i64 (0), .int .i64 (0), .int .i64 (0), .int .i64 (0)], none, 4, none⟩,
    ⟨none, .store 18 (.tmp 7) (.tmp 21), none, 5, none⟩,
    ⟨(some 8), .move (.tmp 22), none, 5, none⟩] []) (.seq (.region 8 [
    ⟨(some 23), .move (.tmp 8), none, 0, none⟩,
    ⟨(some 24), .move (.tmp 23), none, 0, none⟩,
    ⟨(some 25), .fieldAddr 10 (.tmp 7), (some (24, true)), 0, none⟩,
    ⟨(some 26), .load false 1 (.tmp 25), (some (24, true)), 0, none⟩,
    ⟨(some 27), .call (.func 69) [(false, (.tmp 26))] false 4, (some (24, true)), 0, none⟩,
    ⟨(some 28), .pick (.tmp 24) (.tmp 27) (.const (.bool false)), none, 4, none⟩,
    ⟨(some 29), .move (.tmp 28), none, 4, none⟩,
    ⟨(some 30), .load true 2 (.tmp 6), (some (29, true)), 4, none⟩,
    ⟨(some 31), .load true 18 (.tmp 7), (some (29, true)), 4, none⟩,
    ⟨(some 32), .call (.func 68) [(false, (.tmp 30)), (false, (.tmp 31))] false 4, (some (29, true)), 4, none⟩,
    ⟨(some 33), .un .not (.tmp 32), (some (29, true)), 8, none⟩,
    ⟨(some 34), .pick (.tmp 29) (.tmp 33) (.const (.bool false)), none, 8, none⟩] []) (.cond (.tmp 34) (.seq (.region 0 [
    ⟨(some 4), .move (.const (.bool true)), none, 0, none⟩] []) (.ret)) (.skip)))))) (.region 0 [
    ⟨(some 35), .bin .add (.tmp 12) (.const (.int .i64 (1))), none, 0, none⟩,
    ⟨(some 12), .move (.tmp 35), none, 0, none⟩] []))))))) (.seq (.region 0 [
    ⟨(some 4), .move (.const (.bool false)), none, 0, none⟩] []) (.ret))), [.tmp 4], true⟩
def s35 : Sig := ⟨(.cons (.v .job) (.cons (.v (.list .job)) .nil)), [], ((.v .bool), []), []⟩
def l35_0 (g67 : Int → (List Job) → Option (Job × (Bool × Unit))) (g69 : Int → Option Bool) (g68 : Dep → Job → Option Bool) (j0 : Job) (all1 : (List Job)) (nx3 : ((Int × Unit) × Unit) → Option Bool) (z4 : Int) : Option Bool :=
  cond (decide (z4 < (List.length j0.after : Int)))
  (cond (decide (0 ≤ z4))
  (Option.bind (j0.after[Int.toNat z4]?) fun y5 =>
  Option.bind (g67 y5.job all1) fun r6 =>
  cond r6.2.1
  (Option.bind (g69 r6.1.state) fun r7 =>
  cond r7
  (Option.bind (g68 y5 r6.1) fun r8 =>
  cond (!r8)
  (some true)
  (nx3 ((IntKind.wrap .i64 (z4 + 1), ()), ())))
  (nx3 ((IntKind.wrap .i64 (z4 + 1), ()), ())))
  (nx3 ((IntKind.wrap .i64 (z4 + 1), ()), ())))
  (none))
  (some false)
def F35 (L : Lp) (g67 : Int → (List Job) → Option (Job × (Bool × Unit))) (g69 : Int → Option Bool) (g68 : Dep → Job → Option Bool) (j0 : Job) (all1 : (List Job)) : Option Bool :=
  L (fun (s2 : ((Int × Unit) × Unit)) nx3 => l35_0 g67 g69 g68 j0 all1 nx3 s2.1.1) ((0, ()), ())
theorem e35 (L : Lp) (g67 : Int → (List Job) → Option (Job × (Bool × Unit))) (g69 : Int → Option Bool) (g68 : Dep → Job → Option Bool) (x : s35.args.den) (h : denH s35.heap) : nrun [⟨67, s67, fun x h => g67 x.1 x.2.1⟩, ⟨69, s69, fun x h => g69 x.1⟩, ⟨68, s68, fun x h => g68 x.1 x.2.1⟩] L n35 s35 x h = F35 L g67 g69 g68 x.1 x.2.1 := by kernel_rfl
def f35 : Job → (List Job) → Option Bool := F35 (@LN LOOPS) f67 f69 f68
@[reducible] def t35 : Ent := ⟨35, s35, fun x h => f35 x.1 x.2.1⟩
theorem k35 : chkNF Try.prog Try.f35 n35 = true := by kernel_rfl
theorem ok35 : NOk Try.prog t35 := NOk.body (T := [t67, t69, t68]) mixed (nall_cons ok67 (nall_cons ok69 (nall_cons ok68 nall_nil))) (oneEach_of (by kernel_rfl)) Try.func35 k35 (by kernel_rfl) (fun x h => e35 _ _ _ _ x h)
/- drayage/drayageref15.Next -/
def n36 : NFunc := ⟨48, .seq (.region 0 [
    ⟨(some 4), .move (.const (.int .i64 (0))), none, 0, none⟩] []) (.seq (.join [] [] ⟨[], [], []⟩ (.seq (.region 0 [
    ⟨(some 5), .move (.tmp 1), none, 0, none⟩] []) (.block 0 (.seq (.region 0 [
    ⟨(some 7), .bin .eql (.tmp 5) (.const (.int .i64 (1))), none, 0, none⟩,
    ⟨(some 6), .move (.tmp 7), none, 0, none⟩] []) (.cond (.tmp 6) (.seq (.region 0 [
    ⟨(some 8), .move (.tmp 0), none, 0, none⟩,
    ⟨(some 9), .bin .eql (.tmp 8) (.const (.int .i64 (1))), none, 0, none⟩] []) (.cond (.tmp 9) (.seq (.region 0 [
    ⟨(some 4), .move (.const (.int .i64 (2))), none, 0, none⟩] []) (.ret)) (.skip))) (.seq (.region 0 [
    ⟨(some 11), .bin .eql (.tmp 5) (.const (.int .i64 (2))), none, 0, none⟩,
    ⟨(some 10), .move (.tmp 11), none, 0, none⟩] []) (.cond (.tmp 10) (.seq (.region 0 [
    ⟨(some 12), .move (.tmp 0), none, 0, none⟩,
    ⟨(some 13), .bin .eql (.tmp 12) (.const (.int .i64 (2))), none, 0, none⟩] []) (.cond (.tmp 13) (.seq (.region 0 [
    ⟨(some 4), .move (.const (.int .i64 (1))), none, 0, none⟩] []) (.ret)) (.skip))) (.seq (.region 0 [
    ⟨(some 15), .bin .eql (.tmp 5) (.const (.int .i64 (3))), none, 0, none⟩,
    ⟨(some 14), .move (.tmp 15), none, 0, none⟩] []) (.cond (.tmp 14) (.seq (.region 0 [
    ⟨(some 16), .move (.tmp 0), none, 0, none⟩,
    ⟨(some 17), .bin .eql (.tmp 16) (.const (.int .i64 (1))), none, 0, none⟩] []) (.cond (.tmp 17) (.seq (.region 0 [
    ⟨(some 4), .move (.const (.int .i64 (3))), none, 0, none⟩] []) (.ret)) (.skip))) (.seq (.region 0 [
    ⟨(some 19), .bin .eql (.tmp 5) (.const (.int .i64 (4))), none, 0, none⟩,
    ⟨(some 18), .move (.tmp 19), none, 0, none⟩] []) (.cond (.tmp 18) (.seq (.region 0 [
    ⟨(some 20), .move (.tmp 0), none, 0, none⟩,
    ⟨(some 21), .bin .eql (.tmp 20) (.const (.int .i64 (3))), none, 0, none⟩] []) (.cond (.tmp 21) (.seq (.region 0 [
    ⟨(some 4), .move (.const (.int .i64 (1))), none, 0, none⟩] []) (.ret)) (.skip))) (.seq (.region 0 [
    ⟨(some 23), .bin .eql (.tmp 5) (.const (.int .i64 (5))), none, 0, none⟩,
    ⟨(some 22), .move (.tmp 23), none, 0, none⟩] []) (.cond (.tmp 22) (.seq (.region 0 [
    ⟨(some 24), .move (.tmp 0), none, 0, none⟩,
    ⟨(some 25), .bin .eql (.tmp 24) (.const (.int .i64 (3))), none, 0, none⟩] []) (.cond (.tmp 25) (.seq (.region 0 [
    ⟨(some 4), .move (.const (.int .i64 (4))), none, 0, none⟩] []) (.ret)) (.skip))) (.seq (.region 0 [
    ⟨(some 27), .bin .eql (.tmp 5) (.const (.int .i64 (6))), none, 0, none⟩,
    ⟨(some 26), .move (.tmp 27), none, 0, none⟩] []) (.cond (.tmp 26) (.seq (.seq (.region 0 [
    ⟨(some 28), .move (.tmp 0), none, 0, none⟩,
    ⟨(some 29), .bin .eql (.tmp 28) (.const (.int .i64 (3))), none, 0, none⟩] []) (.cond (.tmp 29) (.seq (.region 0 [
    ⟨(some 4), .move (.const (.int .i64 (4))), none, 0, none⟩] []) (.ret)) (.skip))) (.seq (.region 0 [
    ⟨(some 30), .move (.tmp 0), none, 0, none⟩,
    ⟨(some 31), .bin .eql (.tmp 30) (.const (.int .i64 (1))), none, 0, none⟩,
    ⟨(some 32), .move (.tmp 31), none, 0, none⟩,
    ⟨(some 33), .move (.tmp 0), (some (32, false)), 0, none⟩,
    ⟨(some 34), .bin .eql (.tmp 33) (.const (.int .i64 (2))), (some (32, false)), 0, none⟩,
    ⟨(some 35), .pick (.tmp 32) (.const (.bool true)) (.tmp 34), none, 0, none⟩] []) (.cond (.tmp 35) (.seq (.region 0 [
    ⟨(some 4), .move (.const (.int .i64 (6))), none, 0, none⟩] []) (.ret)) (.skip)))) (.seq (.region 0 [
    ⟨(some 37), .bin .eql (.tmp 5) (.const (.int .i64 (7))), none, 0, none⟩,
    ⟨(some 36), .move (.tmp 37), none, 0, none⟩] []) (.cond (.tmp 36) (.seq (.region 0 [
    ⟨(some 38), .move (.tmp 0), none, 0, none⟩,
    ⟨(some 39), .bin .eql (.tmp 38) (.const (.int .i64 (3))), none, 0, none⟩,
    ⟨(some 40), .move (.tmp 39), none, 0, none⟩,
    ⟨(some 41), .move (.tmp 0), (some (40, false)), 0, none⟩,
    ⟨(some 42), .bin .eql (.tmp 41) (.const (.int .i64 (4))), (some (40, false)), 0, none⟩,
    ⟨(some 43), .pick (.tmp 40) (.const (.bool true)) (.tmp 42), none, 0, none⟩] []) (.cond (.tmp 43) (.seq (.region 0 [
    ⟨(some 4), .move (.const (.int .i64 (5))), none, 0, none⟩] []) (.ret)) (.skip))) (.seq (.region 0 [
    ⟨(some 45), .bin .eql (.tmp 5) (.const (.int .i64 (8))), none, 0, none⟩,
    ⟨(some 44), .move (.tmp 45), none, 0, none⟩] []) (.cond (.tmp 44) (.seq (.region 0 [
    ⟨(some 46), .move (.tmp 0), none, 0, none⟩,
    ⟨(some 47), .bin .eql (.tmp 46) (.const (.int .i64 (4))), none, 0, none⟩] []) (.cond (.tmp 47) (.seq (.region 0 [
    ⟨(some 4), .move (.const (.int .i64 (6))), none, 0, none⟩] []) (.ret)) (.skip))) (.skip)))))))))))))))))))) (.seq (.region 0 [
    ⟨(some 4), .move (.const (.int .i64 (0))), none, 0, none⟩] []) (.ret))), [.tmp 4], true⟩
def s36 : Sig := ⟨(.cons (.v (.int .i64)) (.cons (.v (.int .i64)) .nil)), [], ((.v (.int .i64)), []), []⟩
def F36 (L : Lp)  (state0 : Int) (what1 : Int) : Option Int :=
  Option.bind (α := ((Unit × Unit) ⊕ Int))
  (cond (decide (what1 = 1))
  (cond (decide (state0 = 1))
  (some (.inr 2))
  (some (.inl ((), ()))))
  (cond (decide (what1 = 2))
  (cond (decide (state0 = 2))
  (some (.inr 1))
  (some (.inl ((), ()))))
  (cond (decide (what1 = 3))
  (cond (decide (state0 = 1))
  (some (.inr 3))
  (some (.inl ((), ()))))
  (cond (decide (what1 = 4))
  (cond (decide (state0 = 3))
  (some (.inr 1))
  (some (.inl ((), ()))))
  (cond (decide (what1 = 5))
  (cond (decide (state0 = 3))
  (some (.inr 4))
  (some (.inl ((), ()))))
  (cond (decide (what1 = 6))
  (cond (decide (state0 = 3))
  (some (.inr 4))
  (cond (decide (state0 = 1))
  (some (.inr 6))
  (cond (decide (state0 = 2))
  (some (.inr 6))
  (some (.inl ((), ()))))))
  (cond (decide (what1 = 7))
  (cond (decide (state0 = 3))
  (some (.inr 5))
  (cond (decide (state0 = 4))
  (some (.inr 5))
  (some (.inl ((), ())))))
  (cond (decide (what1 = 8))
  (cond (decide (state0 = 4))
  (some (.inr 6))
  (some (.inl ((), ()))))
  (some (.inl ((), ()))))))))))) (Sum.elim (fun x2 =>
  some 0) some)
theorem e36 (L : Lp)  (x : s36.args.den) (h : denH s36.heap) : nrun [] L n36 s36 x h = F36 L  x.1 x.2.1 := by kernel_rfl
def f36 : Int → Int → Option Int := F36 (@LN LOOPS) 
@[reducible] def t36 : Ent := ⟨36, s36, fun x h => f36 x.1 x.2.1⟩
theorem k36 : chkNF Try.prog Try.f36 n36 = true := by kernel_rfl
theorem ok36 : NOk Try.prog t36 := NOk.body (T := []) mixed nall_nil (oneEach_of (by kernel_rfl)) Try.func36 k36 (by kernel_rfl) (fun x h => e36 _  x h)
/- drayage/drayageref16.Step -/
def n37 : NFunc := ⟨50, .seq (.region 2 [
    ⟨(some 4), .box 18 (.tmp 0), none, 0, none⟩,
    ⟨(some 8), .alloc [.int .i64 (0), .int .i64 (0), .int .i64 (0), .int .i64 (0), .int .i64 (0), .int .i64 (0), .int .i64 (0), .int .i64 (0), .int .i64 (0), .zsl, .int .i64 (0), .bool false, .bool false, .int .i64 (0), .int .i64 (0), .int .i64 (0), .int .i64 (0), .int .i64 (0)], none, 1, none⟩] []) (.seq (.region 0 [
    ⟨(some 10), .fieldAddr 10 (.tmp 4), none, 0, none⟩,
    ⟨(some 11), .load false 1 (.tmp 10), none, 0, none⟩,
    ⟨(some 9), .move (.tmp 11), none, 0, none⟩] []) (.seq (.region 4 [
    ⟨(some 12), .move (.tmp 9), none, 0, none⟩,
    ⟨(some 13), .move (.tmp 1), none, 0, none⟩,
    ⟨(some 14), .call (.func 36) [(false, (.tmp 12)), (false, (.tmp 13))] false 4, none, 0, none⟩,
    ⟨(some 15), .fieldAddr 10 (.tmp 4), none, 4, none⟩,
    ⟨none, .store 1 (.tmp 15) (.tmp 14), none, 4, none⟩] []) (.seq (.region 0 [
    ⟨(some 16), .fieldAddr 13 (.tmp 4), none, 0, none⟩,
    ⟨(some 17), .load false 1 (.tmp 16), none, 0, none⟩,
    ⟨(some 18), .bin .add (.tmp 17) (.const (.int .i64 (1))), none, 0, none⟩,
    ⟨(some 19), .fieldAddr 13 (.tmp 4), none, 0, none⟩,
    ⟨none, .store 1 (.tmp 19) (.tmp 18), none, 0, none⟩] []) (.seq (.meet [8, 4, 2, 1, 9, 3] [] ⟨[(4, (.ptr 0 0 0)), (8, (.ptr 1 0 0))], [1, 2, 3, 9], [.one false .job, .cell false (.cons (.v (.int .i64)) (.cons (.v (.int .i64)) (.cons (.v (.int .i64)) (.cons (.v (.int .i64)) (.cons (.v (.int .i64)) (.cons (.v (.int .i64)) (.cons (.v (.int .i64)) (.cons (.v (.int .i64)) (.cons (.v (.int .i64)) (.cons .zsl (.cons (.v (.int .i64)) (.cons (.v .bool) (.cons (.v .bool) (.cons (.v (.int .i64)) (.cons (.v (.int .i64)) (.cons (.v (.int .i64)) (.cons (.v (.int .i64)) (.cons (.v (.int .i64)) .nil))))))))))))))))))]⟩ (.seq (.region 0 [
    ⟨(some 20), .move (.tmp 1), none, 0, none⟩,
    ⟨(some 21), .bin .eql (.tmp 20) (.const (.int .i64 (3))), none, 0, none⟩] []) (.cond (.tmp 21) (.region 0 [
    ⟨(some 22), .move (.tmp 2), none, 0, none⟩,
    ⟨(some 23), .fieldAddr 15 (.tmp 4), none, 0, none⟩,
    ⟨none, .store 1 (.tmp 23) (.tmp 22), none, 0, none⟩] []) (.skip)))) (.seq (.meet [8, 4, 2, 1, 9, 3] [] ⟨[(4, (.ptr 0 0 0)), (8, (.ptr 1 0 0))], [1, 2, 3, 9], [.one false .job, .cell false (.cons (.v (.int .i64)) (.cons (.v (.int .i64)) (.cons (.v (.int .i64)) (.cons (.v (.int .i64)) (.cons (.v (.int .i64)) (.cons (.v (.int .i64)) (.cons (.v (.int .i64)) (.cons (.v (.int .i64)) (.cons (.v (.int .i64)) (.cons .zsl (.cons (.v (.int .i64)) (.cons (.v .bool) (.cons (.v .bool) (.cons (.v (.int .i64)) (.cons (.v (.int .i64)) (.cons (.v (.int .i64)) (.cons (.v (.int .i64)) (.cons (.v (.int .i64)) .nil))))))))))))))))))]⟩ (.seq (.region 0 [
    ⟨(some 24), .move (.tmp 1), none, 0, none⟩,
    ⟨(some 25), .bin .eql (.tmp 24) (.const (.int .i64 (4))), none, 0, none⟩] []) (.cond (.tmp 25) (.region 0 [
    ⟨(some 26), .fieldAddr 15 (.tmp 4), none, 0, none⟩,
    ⟨none, .store 1 (.tmp 26) (.const (.int .i64 (0))), none, 0, none⟩] []) (.skip)))) (.seq (.meet [8, 4, 2, 1, 9] [] ⟨[(4, (.ptr 0 0 0)), (8, (.ptr 1 0 0))], [1, 2, 9], [.one false .job, .cell false (.cons (.v (.int .i64)) (.cons (.v (.int .i64)) (.cons (.v (.int .i64)) (.cons (.v (.int .i64)) (.cons (.v (.int .i64)) (.cons (.v (.int .i64)) (.cons (.v (.int .i64)) (.cons (.v (.int .i64)) (.cons (.v (.int .i64)) (.cons .zsl (.cons (.v (.int .i64)) (.cons (.v .bool) (.cons (.v .bool) (.cons (.v (.int .i64)) (.cons (.v (.int .i64)) (.cons (.v (.int .i64)) (.cons (.v (.int .i64)) (.cons (.v (.int .i64)) .nil))))))))))))))))))]⟩ (.seq (.region 0 [
    ⟨(some 27), .move (.tmp 1), none, 0, none⟩,
    ⟨(some 28), .bin .eql (.tmp 27) (.const (.int .i64 (5))), none, 0, none⟩] []) (.cond (.tmp 28) (.region 0 [
    ⟨(some 29), .move (.tmp 3), none, 0, none⟩,
    ⟨(some 30), .fieldAddr 11 (.tmp 4), none, 0, none⟩,
    ⟨none, .store 1 (.tmp 30) (.tmp 29), none, 0, none⟩] []) (.skip)))) (.seq (.meet [8, 4, 2, 1, 9] [] ⟨[(4, (.ptr 0 0 0)), (8, (.ptr 1 0 0))], [1, 2, 9], [.one false .job, .cell false (.cons (.v (.int .i64)) (.cons (.v (.int .i64)) (.cons (.v (.int .i64)) (.cons (.v (.int .i64)) (.cons (.v (.int .i64)) (.cons (.v (.int .i64)) (.cons (.v (.int .i64)) (.cons (.v (.int .i64)) (.cons (.v (.int .i64)) (.cons .zsl (.cons (.v (.int .i64)) (.cons (.v .bool) (.cons (.v .bool) (.cons (.v (.int .i64)) (.cons (.v (.int .i64)) (.cons (.v (.int .i64)) (.cons (.v (.int .i64)) (.cons (.v (.int .i64)) .nil))))))))))))))))))]⟩ (.seq (.region 0 [
    ⟨(some 31), .move (.tmp 1), none, 0, none⟩,
    ⟨(some 32), .bin .eql (.tmp 31) (.const (.int .i64 (6))), none, 0, none⟩] []) (.cond (.tmp 32) (.seq (.region 0 [
    ⟨(some 33), .fieldAddr 12 (.tmp 4), none, 0, none⟩,
    ⟨none, .store 1 (.tmp 33) (.const (.bool true)), none, 0, none⟩] []) (.region 0 [
    ⟨(some 34), .fieldAddr 11 (.tmp 4), none, 0, none⟩,
    ⟨none, .store 1 (.tmp 34) (.const (.bool false)), none, 0, none⟩] [])) (.skip)))) (.seq (.meet [8, 4, 2, 1] [] ⟨[(4, (.ptr 0 0 0)), (8, (.ptr 1 0 0))], [1, 2], [.one false .job, .cell false (.cons (.v (.int .i64)) (.cons (.v (.int .i64)) (.cons (.v (.int .i64)) (.cons (.v (.int .i64)) (.cons (.v (.int .i64)) (.cons (.v (.int .i64)) (.cons (.v (.int .i64)) (.cons (.v (.int .i64)) (.cons (.v (.int .i64)) (.cons .zsl (.cons (.v (.int .i64)) (.cons (.v .bool) (.cons (.v .bool) (.cons (.v (.int .i64)) (.cons (.v (.int .i64)) (.cons (.v (.int .i64)) (.cons (.v (.int .i64)) (.cons (.v (.int .i64)) .nil))))))))))))))))))]⟩ (.seq (.region 0 [
    ⟨(some 35), .move (.tmp 1), none, 0, none⟩,
    ⟨(some 36), .bin .eql (.tmp 35) (.const (.int .i64 (7))), none, 0, none⟩] []) (.cond (.tmp 36) (.seq (.region 0 [
    ⟨(some 37), .fieldAddr 12 (.tmp 4), none, 0, none⟩,
    ⟨none, .store 1 (.tmp 37) (.const (.bool false)), none, 0, none⟩] []) (.seq (.region 0 [
    ⟨(some 38), .move (.tmp 9), none, 0, none⟩,
    ⟨(some 39), .bin .eql (.tmp 38) (.const (.int .i64 (3))), none, 0, none⟩] []) (.cond (.tmp 39) (.region 0 [
    ⟨(some 40), .fieldAddr 11 (.tmp 4), none, 0, none⟩,
    ⟨none, .store 1 (.tmp 40) (.const (.bool false)), none, 0, none⟩] []) (.skip)))) (.skip)))) (.seq (.seq (.region 0 [
    ⟨(some 41), .move (.tmp 1), none, 0, none⟩,
    ⟨(some 42), .bin .eql (.tmp 41) (.const (.int .i64 (8))), none, 0, none⟩] []) (.cond (.tmp 42) (.region 0 [
    ⟨(some 43), .fieldAddr 11 (.tmp 4), none, 0, none⟩,
    ⟨none, .store 1 (.tmp 43) (.const (.bool false)), none, 0, none⟩] []) (.skip))) (.seq (.seq (.region 0 [
    ⟨(some 44), .fieldAddr 10 (.tmp 4), none, 0, none⟩,
    ⟨(some 45), .load false 1 (.tmp 44), none, 0, none⟩,
    ⟨(some 46), .bin .geq (.tmp 45) (.const (.int .i64 (5))), none, 0, none⟩] []) (.cond (.tmp 46) (.region 0 [
    ⟨(some 47), .move (.tmp 2), none, 0, none⟩,
    ⟨(some 48), .fieldAddr 16 (.tmp 4), none, 0, none⟩,
    ⟨none, .store 1 (.tmp 48) (.tmp 47), none, 0, none⟩] []) (.skip))) (.seq (.region 0 [
    ⟨(some 49), .load true 18 (.tmp 4), none, 0, none⟩,
    ⟨none, .store 18 (.tmp 8) (.tmp 49), none, 0, none⟩] []) (.ret)))))))))))), [.cell true 18 8], true⟩
def s37 : Sig := ⟨(.cons (.v .job) (.cons (.v (.int .i64)) (.cons (.v (.int .i64)) (.cons (.v .bool) .nil)))), [], ((.v .job), []), []⟩
def F37 (L : Lp) (g36 : Int → Int → Option Int) (j0 : Job) (what1 : Int) (now2 : Int) (ok3 : Bool) : Option Job :=
  Option.bind (g36 j0.state what1) fun r4 =>
  Option.bind (α := ((Unit × (Unit × Unit)) × (Job × ((Int × (Int × (Int × (Int × (Int × (Int × (Int × (Int × (Int × (Unit × (Int × (Bool × (Bool × (Int × (Int × (Int × (Int × (Int × Unit)))))))))))))))))) × Unit))))
  (cond (decide (what1 = 3))
  (some (((), (), ()), (Job.mk j0.id j0.user j0.queue j0.many j0.need j0.wall j0.after r4 j0.ok j0.kill (IntKind.wrap .i64 (j0.version + 1)) j0.born now2 j0.fin j0.array, (0, 0, 0, 0, 0, 0, 0, 0, 0, (), 0, false, false, 0, 0, 0, 0, 0, ()), ())))
  (some (((), (), ()), (Job.mk j0.id j0.user j0.queue j0.many j0.need j0.wall j0.after r4 j0.ok j0.kill (IntKind.wrap .i64 (j0.version + 1)) j0.born j0.start j0.fin j0.array, (0, 0, 0, 0, 0, 0, 0, 0, 0, (), 0, false, false, 0, 0, 0, 0, 0, ()), ())))) fun x5 =>
  Option.bind (α := ((Unit × (Unit × Unit)) × (Job × ((Int × (Int × (Int × (Int × (Int × (Int × (Int × (Int × (Int × (Unit × (Int × (Bool × (Bool × (Int × (Int × (Int × (Int × (Int × Unit)))))))))))))))))) × Unit))))
  (cond (decide (what1 = 4))
  (some (((), (), ()), (Job.mk x5.2.1.id x5.2.1.user x5.2.1.queue x5.2.1.many x5.2.1.need x5.2.1.wall x5.2.1.after x5.2.1.state x5.2.1.ok x5.2.1.kill x5.2.1.version x5.2.1.born 0 x5.2.1.fin x5.2.1.array, (x5.2.2.1.1, x5.2.2.1.2.1, x5.2.2.1.2.2.1, x5.2.2.1.2.2.2.1, x5.2.2.1.2.2.2.2.1, x5.2.2.1.2.2.2.2.2.1, x5.2.2.1.2.2.2.2.2.2.1, x5.2.2.1.2.2.2.2.2.2.2.1, x5.2.2.1.2.2.2.2.2.2.2.2.1, (), x5.2.2.1.2.2.2.2.2.2.2.2.2.2.1, x5.2.2.1.2.2.2.2.2.2.2.2.2.2.2.1, x5.2.2.1.2.2.2.2.2.2.2.2.2.2.2.2.1, x5.2.2.1.2.2.2.2.2.2.2.2.2.2.2.2.2.1, x5.2.2.1.2.2.2.2.2.2.2.2.2.2.2.2.2.2.1, x5.2.2.1.2.2.2.2.2.2.2.2.2.2.2.2.2.2.2.1, x5.2.2.1.2.2.2.2.2.2.2.2.2.2.2.2.2.2.2.2.1, x5.2.2.1.2.2.2.2.2.2.2.2.2.2.2.2.2.2.2.2.2.1, ()), ())))
  (some (((), (), ()), (x5.2.1, (x5.2.2.1.1, x5.2.2.1.2.1, x5.2.2.1.2.2.1, x5.2.2.1.2.2.2.1, x5.2.2.1.2.2.2.2.1, x5.2.2.1.2.2.2.2.2.1, x5.2.2.1.2.2.2.2.2.2.1, x5.2.2.1.2.2.2.2.2.2.2.1, x5.2.2.1.2.2.2.2.2.2.2.2.1, (), x5.2.2.1.2.2.2.2.2.2.2.2.2.2.1, x5.2.2.1.2.2.2.2.2.2.2.2.2.2.2.1, x5.2.2.1.2.2.2.2.2.2.2.2.2.2.2.2.1, x5.2.2.1.2.2.2.2.2.2.2.2.2.2.2.2.2.1, x5.2.2.1.2.2.2.2.2.2.2.2.2.2.2.2.2.2.1, x5.2.2.1.2.2.2.2.2.2.2.2.2.2.2.2.2.2.2.1, x5.2.2.1.2.2.2.2.2.2.2.2.2.2.2.2.2.2.2.2.1, x5.2.2.1.2.2.2.2.2.2.2.2.2.2.2.2.2.2.2.2.2.1, ()), ())))) fun x6 =>
  Option.bind (α := ((Unit × (Unit × Unit)) × (Job × ((Int × (Int × (Int × (Int × (Int × (Int × (Int × (Int × (Int × (Unit × (Int × (Bool × (Bool × (Int × (Int × (Int × (Int × (Int × Unit)))))))))))))))))) × Unit))))
  (cond (decide (what1 = 5))
  (some (((), (), ()), (Job.mk x6.2.1.id x6.2.1.user x6.2.1.queue x6.2.1.many x6.2.1.need x6.2.1.wall x6.2.1.after x6.2.1.state ok3 x6.2.1.kill x6.2.1.version x6.2.1.born x6.2.1.start x6.2.1.fin x6.2.1.array, (x6.2.2.1.1, x6.2.2.1.2.1, x6.2.2.1.2.2.1, x6.2.2.1.2.2.2.1, x6.2.2.1.2.2.2.2.1, x6.2.2.1.2.2.2.2.2.1, x6.2.2.1.2.2.2.2.2.2.1, x6.2.2.1.2.2.2.2.2.2.2.1, x6.2.2.1.2.2.2.2.2.2.2.2.1, (), x6.2.2.1.2.2.2.2.2.2.2.2.2.2.1, x6.2.2.1.2.2.2.2.2.2.2.2.2.2.2.1, x6.2.2.1.2.2.2.2.2.2.2.2.2.2.2.2.1, x6.2.2.1.2.2.2.2.2.2.2.2.2.2.2.2.2.1, x6.2.2.1.2.2.2.2.2.2.2.2.2.2.2.2.2.2.1, x6.2.2.1.2.2.2.2.2.2.2.2.2.2.2.2.2.2.2.1, x6.2.2.1.2.2.2.2.2.2.2.2.2.2.2.2.2.2.2.2.1, x6.2.2.1.2.2.2.2.2.2.2.2.2.2.2.2.2.2.2.2.2.1, ()), ())))
  (some (((), (), ()), (x6.2.1, (x6.2.2.1.1, x6.2.2.1.2.1, x6.2.2.1.2.2.1, x6.2.2.1.2.2.2.1, x6.2.2.1.2.2.2.2.1, x6.2.2.1.2.2.2.2.2.1, x6.2.2.1.2.2.2.2.2.2.1, x6.2.2.1.2.2.2.2.2.2.2.1, x6.2.2.1.2.2.2.2.2.2.2.2.1, (), x6.2.2.1.2.2.2.2.2.2.2.2.2.2.1, x6.2.2.1.2.2.2.2.2.2.2.2.2.2.2.1, x6.2.2.1.2.2.2.2.2.2.2.2.2.2.2.2.1, x6.2.2.1.2.2.2.2.2.2.2.2.2.2.2.2.2.1, x6.2.2.1.2.2.2.2.2.2.2.2.2.2.2.2.2.2.1, x6.2.2.1.2.2.2.2.2.2.2.2.2.2.2.2.2.2.2.1, x6.2.2.1.2.2.2.2.2.2.2.2.2.2.2.2.2.2.2.2.1, x6.2.2.1.2.2.2.2.2.2.2.2.2.2.2.2.2.2.2.2.2.1, ()), ())))) fun x7 =>
  Option.bind (α := ((Unit × (Unit × Unit)) × (Job × ((Int × (Int × (Int × (Int × (Int × (Int × (Int × (Int × (Int × (Unit × (Int × (Bool × (Bool × (Int × (Int × (Int × (Int × (Int × Unit)))))))))))))))))) × Unit))))
  (cond (decide (what1 = 6))
  (some (((), (), ()), (Job.mk x7.2.1.id x7.2.1.user x7.2.1.queue x7.2.1.many x7.2.1.need x7.2.1.wall x7.2.1.after x7.2.1.state false true x7.2.1.version x7.2.1.born x7.2.1.start x7.2.1.fin x7.2.1.array, (x7.2.2.1.1, x7.2.2.1.2.1, x7.2.2.1.2.2.1, x7.2.2.1.2.2.2.1, x7.2.2.1.2.2.2.2.1, x7.2.2.1.2.2.2.2.2.1, x7.2.2.1.2.2.2.2.2.2.1, x7.2.2.1.2.2.2.2.2.2.2.1, x7.2.2.1.2.2.2.2.2.2.2.2.1, (), x7.2.2.1.2.2.2.2.2.2.2.2.2.2.1, x7.2.2.1.2.2.2.2.2.2.2.2.2.2.2.1, x7.2.2.1.2.2.2.2.2.2.2.2.2.2.2.2.1, x7.2.2.1.2.2.2.2.2.2.2.2.2.2.2.2.2.1, x7.2.2.1.2.2.2.2.2.2.2.2.2.2.2.2.2.2.1, x7.2.2.1.2.2.2.2.2.2.2.2.2.2.2.2.2.2.2.1, x7.2.2.1.2.2.2.2.2.2.2.2.2.2.2.2.2.2.2.2.1, x7.2.2.1.2.2.2.2.2.2.2.2.2.2.2.2.2.2.2.2.2.1, ()), ())))
  (some (((), (), ()), (x7.2.1, (x7.2.2.1.1, x7.2.2.1.2.1, x7.2.2.1.2.2.1, x7.2.2.1.2.2.2.1, x7.2.2.1.2.2.2.2.1, x7.2.2.1.2.2.2.2.2.1, x7.2.2.1.2.2.2.2.2.2.1, x7.2.2.1.2.2.2.2.2.2.2.1, x7.2.2.1.2.2.2.2.2.2.2.2.1, (), x7.2.2.1.2.2.2.2.2.2.2.2.2.2.1, x7.2.2.1.2.2.2.2.2.2.2.2.2.2.2.1, x7.2.2.1.2.2.2.2.2.2.2.2.2.2.2.2.1, x7.2.2.1.2.2.2.2.2.2.2.2.2.2.2.2.2.1, x7.2.2.1.2.2.2.2.2.2.2.2.2.2.2.2.2.2.1, x7.2.2.1.2.2.2.2.2.2.2.2.2.2.2.2.2.2.2.1, x7.2.2.1.2.2.2.2.2.2.2.2.2.2.2.2.2.2.2.2.1, x7.2.2.1.2.2.2.2.2.2.2.2.2.2.2.2.2.2.2.2.2.1, ()), ())))) fun x8 =>
  Option.bind (α := ((Unit × (Unit × Unit)) × (Job × ((Int × (Int × (Int × (Int × (Int × (Int × (Int × (Int × (Int × (Unit × (Int × (Bool × (Bool × (Int × (Int × (Int × (Int × (Int × Unit)))))))))))))))))) × Unit))))
  (cond (decide (what1 = 7))
  (cond (decide (j0.state = 3))
  (some (((), (), ()), (Job.mk x8.2.1.id x8.2.1.user x8.2.1.queue x8.2.1.many x8.2.1.need x8.2.1.wall x8.2.1.after x8.2.1.state false false x8.2.1.version x8.2.1.born x8.2.1.start x8.2.1.fin x8.2.1.array, (x8.2.2.1.1, x8.2.2.1.2.1, x8.2.2.1.2.2.1, x8.2.2.1.2.2.2.1, x8.2.2.1.2.2.2.2.1, x8.2.2.1.2.2.2.2.2.1, x8.2.2.1.2.2.2.2.2.2.1, x8.2.2.1.2.2.2.2.2.2.2.1, x8.2.2.1.2.2.2.2.2.2.2.2.1, (), x8.2.2.1.2.2.2.2.2.2.2.2.2.2.1, x8.2.2.1.2.2.2.2.2.2.2.2.2.2.2.1, x8.2.2.1.2.2.2.2.2.2.2.2.2.2.2.2.1, x8.2.2.1.2.2.2.2.2.2.2.2.2.2.2.2.2.1, x8.2.2.1.2.2.2.2.2.2.2.2.2.2.2.2.2.2.1, x8.2.2.1.2.2.2.2.2.2.2.2.2.2.2.2.2.2.2.1, x8.2.2.1.2.2.2.2.2.2.2.2.2.2.2.2.2.2.2.2.1, x8.2.2.1.2.2.2.2.2.2.2.2.2.2.2.2.2.2.2.2.2.1, ()), ())))
  (some (((), (), ()), (Job.mk x8.2.1.id x8.2.1.user x8.2.1.queue x8.2.1.many x8.2.1.need x8.2.1.wall x8.2.1.after x8.2.1.state x8.2.1.ok false x8.2.1.version x8.2.1.born x8.2.1.start x8.2.1.fin x8.2.1.array, (x8.2.2.1.1, x8.2.2.1.2.1, x8.2.2.1.2.2.1, x8.2.2.1.2.2.2.1, x8.2.2.1.2.2.2.2.1, x8.2.2.1.2.2.2.2.2.1, x8.2.2.1.2.2.2.2.2.2.1, x8.2.2.1.2.2.2.2.2.2.2.1, x8.2.2.1.2.2.2.2.2.2.2.2.1, (), x8.2.2.1.2.2.2.2.2.2.2.2.2.2.1, x8.2.2.1.2.2.2.2.2.2.2.2.2.2.2.1, x8.2.2.1.2.2.2.2.2.2.2.2.2.2.2.2.1, x8.2.2.1.2.2.2.2.2.2.2.2.2.2.2.2.2.1, x8.2.2.1.2.2.2.2.2.2.2.2.2.2.2.2.2.2.1, x8.2.2.1.2.2.2.2.2.2.2.2.2.2.2.2.2.2.2.1, x8.2.2.1.2.2.2.2.2.2.2.2.2.2.2.2.2.2.2.2.1, x8.2.2.1.2.2.2.2.2.2.2.2.2.2.2.2.2.2.2.2.2.1, ()), ()))))
  (some (((), (), ()), (x8.2.1, (x8.2.2.1.1, x8.2.2.1.2.1, x8.2.2.1.2.2.1, x8.2.2.1.2.2.2.1, x8.2.2.1.2.2.2.2.1, x8.2.2.1.2.2.2.2.2.1, x8.2.2.1.2.2.2.2.2.2.1, x8.2.2.1.2.2.2.2.2.2.2.1, x8.2.2.1.2.2.2.2.2.2.2.2.1, (), x8.2.2.1.2.2.2.2.2.2.2.2.2.2.1, x8.2.2.1.2.2.2.2.2.2.2.2.2.2.2.1, x8.2.2.1.2.2.2.2.2.2.2.2.2.2.2.2.1, x8.2.2.1.2.2.2.2.2.2.2.2.2.2.2.2.2.1, x8.2.2.1.2.2.2.2.2.2.2.2.2.2.2.2.2.2.1, x8.2.2.1.2.2.2.2.2.2.2.2.2.2.2.2.2.2.2.1, x8.2.2.1.2.2.2.2.2.2.2.2.2.2.2.2.2.2.2.2.1, x8.2.2.1.2.2.2.2.2.2.2.2.2.2.2.2.2.2.2.2.2.1, ()), ())))) fun x9 =>
  cond (decide (what1 = 8))
  (cond (decide (5 ≤ x9.2.1.state))
  (some (Job.mk x9.2.1.id x9.2.1.user x9.2.1.queue x9.2.1.many x9.2.1.need x9.2.1.wall x9.2.1.after x9.2.1.state false x9.2.1.kill x9.2.1.version x9.2.1.born x9.2.1.start now2 x9.2.1.array))
  (some (Job.mk x9.2.1.id x9.2.1.user x9.2.1.queue x9.2.1.many x9.2.1.need x9.2.1.wall x9.2.1.after x9.2.1.state false x9.2.1.kill x9.2.1.version x9.2.1.born x9.2.1.start x9.2.1.fin x9.2.1.array)))
  (cond (decide (5 ≤ x9.2.1.state))
  (some (Job.mk x9.2.1.id x9.2.1.user x9.2.1.queue x9.2.1.many x9.2.1.need x9.2.1.wall x9.2.1.after x9.2.1.state x9.2.1.ok x9.2.1.kill x9.2.1.version x9.2.1.born x9.2.1.start now2 x9.2.1.array))
  (some x9.2.1))
theorem e37 (L : Lp) (g36 : Int → Int → Option Int) (x : s37.args.den) (h : denH s37.heap) : nrun [⟨36, s36, fun x h => g36 x.1 x.2.1⟩] L n37 s37 x h = F37 L g36 x.1 x.2.1 x.2.2.1 x.2.2.2.1 := by kernel_rfl
def f37 : Job → Int → Int → Bool → Option Job := F37 (@LN LOOPS) f36
@[reducible] def t37 : Ent := ⟨37, s37, fun x h => f37 x.1 x.2.1 x.2.2.1 x.2.2.2.1⟩
theorem k37 : chkNF Try.prog Try.f37 n37 = true := by kernel_rfl
theorem ok37 : NOk Try.prog t37 := NOk.body (T := [t36]) mixed (nall_cons ok36 nall_nil) (oneEach_of (by kernel_rfl)) Try.func37 k37 (by kernel_rfl) (fun x h => e37 _ _ x h)
/- drayage/drayagelaw17.DepsStay -/
def n6 : NFunc := ⟨104, .seq (.region 1 [
    ⟨(some 3), .box 18 (.tmp 0), none, 0, none⟩,
    ⟨(some 6), .move (.const (.bool false)), none, 1, none⟩] []) (.seq (.seq (.region 4 [
    ⟨(some 15), .call (.func 32) [] false 4, none, 0, none⟩,
    ⟨(some 16), .un .not (.tmp 15), none, 4, none⟩] []) (.cond (.tmp 16) (.seq (.region 0 [
    ⟨(some 6), .move (.const (.bool false)), none, 0, none⟩] []) (.ret)) (.skip))) (.seq (.seq (.region 4 [
    ⟨(some 17), .move (.tmp 1), none, 0, none⟩,
    ⟨(some 18), .call (.func 33) [(false, (.tmp 17))] false 4, none, 0, none⟩,
    ⟨(some 19), .un .not (.tmp 18), none, 4, none⟩,
    ⟨(some 20), .move (.tmp 19), none, 4, none⟩,
    ⟨(some 21), .fieldAddr 9 (.tmp 3), (some (20, false)), 4, none⟩,
    ⟨(some 22), .load false 1 (.tmp 21), (some (20, false)), 4, none⟩,
    ⟨(some 23), .len (.tmp 22), (some (20, false)), 4, none⟩,
    ⟨(some 24), .bin .gtr (.tmp 23) (.const (.int .i64 (10))), (some (20, false)), 4, none⟩,
    ⟨(some 25), .pick (.tmp 20) (.const (.bool true)) (.tmp 24), none, 4, none⟩,
    ⟨(some 26), .move (.tmp 25), none, 4, none⟩,
    ⟨(some 27), .move (.tmp 2), (some (26, false)), 4, none⟩,
    ⟨(some 28), .len (.tmp 27), (some (26, false)), 4, none⟩,
    ⟨(some 29), .bin .gtr (.tmp 28) (.const (.int .i64 (40))), (some (26, false)), 4, none⟩,
    ⟨(some 30), .pick (.tmp 26) (.const (.bool true)) (.tmp 29), none, 4, none⟩,
    ⟨(some 31), .move (.tmp 30), none, 4, none⟩,
    ⟨(some 32), .move (.tmp 1), (some (31, false)), 4, none⟩,
    ⟨(some 33), .len (.tmp 32), (some (31, false)), 4, none⟩,
    ⟨(some 34), .bin .eql (.tmp 33) (.const (.int .i64 (0))), (some (31, false)), 4, none⟩,
    ⟨(some 35), .pick (.tmp 31) (.const (.bool true)) (.tmp 34), none, 4, none⟩] []) (.cond (.tmp 35) (.seq (.region 0 [
    ⟨(some 6), .move (.const (.bool true)), none, 0, none⟩] []) (.ret)) (.skip))) (.seq (.region 2 [
    ⟨(some 36), .buildSlice 18 0 true [.int .i64 (0), .int .i64 (0), .int .i64 (0), .int .i64 (0), .int .i64 (0), .int .i64 (0), .int .i64 (0), .int .i64 (0), .int .i64 (0), .zsl, .int .i64 (0), .bool false, .bool false, .int .i64 (0), .int .i64 (0), .int .i64 (0), .int .i64 (0), .int .i64 (0)] [], none, 0, none⟩,
    ⟨(some 37), .move (.tmp 1), none, 1, none⟩,
    ⟨(some 38), .append 18 152 true (.tmp 36) (.tmp 37), none, 1, none⟩,
    ⟨(some 7), .move (.tmp 38), none, 2, none⟩] []) (.seq (.region 8 [
    ⟨(some 39), .load true 18 (.tmp 3), none, 0, (some ([], none))⟩,
    ⟨(some 40), .move (.tmp 7), none, 0, (some ([], none))⟩,
    ⟨(some 41), .call (.func 34) [(false, (.tmp 39)), (false, (.tmp 40))] true 4, none, 0, (some ([], none))⟩,
    ⟨(some 42), .load true 18 (.tmp 3), none, 4, (some ([], none))⟩,
    ⟨(some 43), .move (.tmp 7), none, 4, (some ([], none))⟩,
    ⟨(some 44), .call (.func 35) [(false, (.tmp 42)), (false, (.tmp 43))] false 4, none, 4, (some ([0, 1, 2, 3], none))⟩,
    ⟨(some 8), .move (.tmp 41), none, 8, (some ([0, 1, 2, 3, 4, 5, 6, 7], none))⟩,
    ⟨(some 9), .move (.tmp 44), none, 8, (some ([0, 1, 2, 3, 4, 5, 6, 7], none))⟩] []) (.seq (.seq (.region 0 [
    ⟨(some 45), .move (.tmp 2), none, 0, none⟩,
    ⟨(some 46), .len (.tmp 45), none, 0, none⟩,
    ⟨(some 47), .move (.const (.int .i64 (0))), none, 0, none⟩] []) (.block 0 (.loop [3, 7, 8, 9, 45, 46, 47] ⟨[(3, (.ptr 0 0 0)), (7, (.slw 1 18)), (8, (.v .bool)), (9, (.v .bool)), (47, (.v (.int .i64)))], [45, 46], [.one false .job, .typed .job]⟩ (.seq (.region 0 [
    ⟨(some 48), .bin .lss (.tmp 47) (.tmp 46), none, 0, none⟩] []) (.seq (.cond (.tmp 48) (.skip) (.exit 0)) (.seq (.block 1 (.seq (.region 1 [
    ⟨(some 49), .indexSl 4 (.tmp 45) (.tmp 47), none, 0, none⟩,
    ⟨(some 50), .load true 4 (.tmp 49), none, 0, none⟩,
    ⟨(some 11), .alloc [.int .i64 (0), .int .i64 (0), .int .i64 (0), .bool false], none, 0, none⟩,
    ⟨none, .store 4 (.tmp 11) (.tmp 50), none, 1, none⟩] []) (.seq (.region 0 [
    ⟨(some 51), .fieldAddr 0 (.tmp 11), none, 0, none⟩,
    ⟨(some 52), .load false 1 (.tmp 51), none, 0, none⟩,
    ⟨(some 53), .move (.tmp 7), none, 0, none⟩,
    ⟨(some 54), .len (.tmp 53), none, 0, none⟩,
    ⟨(some 55), .bin .rem (.tmp 52) (.tmp 54), none, 0, none⟩,
    ⟨(some 12), .move (.tmp 55), none, 0, none⟩] []) (.seq (.seq (.region 4 [
    ⟨(some 56), .move (.tmp 12), none, 0, (some ([], none))⟩,
    ⟨(some 57), .bin .lss (.tmp 56) (.const (.int .i64 (0))), none, 0, (some ([], none))⟩,
    ⟨(some 58), .move (.tmp 57), none, 0, (some ([], none))⟩,
    ⟨(some 59), .move (.tmp 7), (some (58, false)), 0, (some ([], none))⟩,
    ⟨(some 60), .move (.tmp 12), (some (58, false)), 0, (some ([], none))⟩,
    ⟨(some 61), .indexSl 18 (.tmp 59) (.tmp 60), (some (58, false)), 0, (some ([], none))⟩,
    ⟨(some 62), .fieldAddr 10 (.tmp 61), (some (58, false)), 0, (some ([], none))⟩,
    ⟨(some 63), .load false 1 (.tmp 62), (some (58, false)), 0, (some ([], none))⟩,
    ⟨(some 64), .fieldAddr 1 (.tmp 11), (some (58, false)), 0, (some ([], none))⟩,
    ⟨(some 65), .load false 1 (.tmp 64), (some (58, false)), 0, (some ([], none))⟩,
    ⟨(some 66), .call (.func 36) [(false, (.tmp 63)), (false, (.tmp 65))] false 4, (some (58, false)), 0, (some ([], none))⟩,
    ⟨(some 67), .bin .eql (.tmp 66) (.const (.int .i64 (0))), (some (58, false)), 4, (some ([0, 1, 2, 3], none))⟩,
    ⟨(some 68), .pick (.tmp 58) (.const (.bool true)) (.tmp 67), none, 4, (some ([0, 1, 2, 3], none))⟩] []) (.cond (.tmp 68) (.exit 1) (.skip))) (.seq (.region 4 [
    ⟨(some 69), .move (.tmp 7), none, 0, (some ([], none))⟩,
    ⟨(some 70), .move (.tmp 12), none, 0, (some ([], none))⟩,
    ⟨(some 71), .move (.tmp 7), none, 0, (some ([], none))⟩,
    ⟨(some 72), .move (.tmp 12), none, 0, (some ([], none))⟩,
    ⟨(some 73), .indexSl 18 (.tmp 71) (.tmp 72), none, 0, (some ([], none))⟩,
    ⟨(some 74), .load true 18 (.tmp 73), none, 0, (some ([], none))⟩,
    ⟨(some 75), .fieldAddr 1 (.tmp 11), none, 0, (some ([], none))⟩,
    ⟨(some 76), .load false 1 (.tmp 75), none, 0, (some ([], none))⟩,
    ⟨(some 77), .fieldAddr 2 (.tmp 11), none, 0, (some ([], none))⟩,
    ⟨(some 78), .load false 1 (.tmp 77), none, 0, (some ([], none))⟩,
    ⟨(some 79), .fieldAddr 3 (.tmp 11), none, 0, (some ([], none))⟩,
    ⟨(some 80), .load false 1 (.tmp 79), none, 0, (some ([], none))⟩,
    ⟨(some 81), .call (.func 37) [(false, (.tmp 74)), (false, (.tmp 76)), (false, (.tmp 78)), (false, (.tmp 80))] false 4, none, 0, (some ([], none))⟩,
    ⟨(some 82), .indexSl 18 (.tmp 69) (.tmp 70), none, 4, (some ([0, 1, 2, 3], none))⟩,
    ⟨none, .store 18 (.tmp 82) (.tmp 81), none, 4, (some ([0, 1, 2, 3], none))⟩] []) (.seq (.region 8 [
    ⟨(some 83), .load true 18 (.tmp 3), none, 0, (some ([], none))⟩,
    ⟨(some 84), .move (.tmp 7), none, 0, (some ([], none))⟩,
    ⟨(some 85), .call (.func 34) [(false, (.tmp 83)), (false, (.tmp 84))] true 4, none, 0, (some ([], none))⟩,
    ⟨(some 86), .load true 18 (.tmp 3), none, 4, (some ([], none))⟩,
    ⟨(some 87), .move (.tmp 7), none, 4, (some ([], none))⟩,
    ⟨(some 88), .call (.func 35) [(false, (.tmp 86)), (false, (.tmp 87))] false 4, none, 4, (some ([0, 1, 2, 3], none))⟩,
    ⟨(some 13), .move (.tmp 85), none, 8, (some ([0, 1, 2, 3, 4, 5, 6, 7], none))⟩,
    ⟨(some 14), .move (.tmp 88), none, 8, (some ([0, 1, 2, 3, 4, 5, 6, 7], none))⟩] []) (.seq (.seq (.region 0 [
    ⟨(some 89), .move (.tmp 8), none, 0, none⟩,
    ⟨(some 90), .move (.tmp 89), none, 0, none⟩,
    ⟨(some 91), .move (.tmp 13), (some (90, true)), 0, none⟩,
    ⟨(some 92), .un .not (.tmp 91), (some (90, true)), 0, none⟩,
    ⟨(some 93), .pick (.tmp 90) (.tmp 92) (.const (.bool false)), none, 0, none⟩,
    ⟨(some 94), .move (.tmp 93), none, 0, none⟩,
    ⟨(some 95), .move (.tmp 9), (some (94, false)), 0, none⟩,
    ⟨(some 96), .move (.tmp 95), (some (94, false)), 0, none⟩,
    ⟨(some 97), .move (.tmp 14), (some (96, true)), 0, none⟩,
    ⟨(some 98), .un .not (.tmp 97), (some (96, true)), 0, none⟩,
    ⟨(some 99), .pick (.tmp 96) (.tmp 98) (.const (.bool false)), (some (94, false)), 0, none⟩,
    ⟨(some 100), .pick (.tmp 94) (.const (.bool true)) (.tmp 99), none, 0, none⟩] []) (.cond (.tmp 100) (.seq (.region 0 [
    ⟨(some 6), .move (.const (.bool false)), none, 0, none⟩] []) (.ret)) (.skip))) (.region 0 [
    ⟨(some 101), .move (.tmp 13), none, 0, none⟩,
    ⟨(some 102), .move (.tmp 14), none, 0, none⟩,
    ⟨(some 8), .move (.tmp 101), none, 0, none⟩,
    ⟨(some 9), .move (.tmp 102), none, 0, none⟩] [])))))))) (.region 0 [
    ⟨(some 103), .bin .add (.tmp 47) (.const (.int .i64 (1))), none, 0, none⟩,
    ⟨(some 47), .move (.tmp 103), none, 0, none⟩] []))))))) (.seq (.region 0 [
    ⟨(some 6), .move (.const (.bool true)), none, 0, none⟩] []) (.ret))))))), [.tmp 6], true⟩
def s6 : Sig := ⟨(.cons (.v .job) (.cons (.v (.list .job)) (.cons (.v (.list (.pair (.int .i64) (.pair (.int .i64) (.pair (.int .i64) .bool))))) .nil))), [], ((.v .bool), []), []⟩
def l6_0 (g34 : Job → (List Job) → Option Bool) (g35 : Job → (List Job) → Option Bool) (g36 : Int → Int → Option Int) (g37 : Job → Int → Int → Bool → Option Job) (al2 : (List (Int × (Int × (Int × Bool))))) (nx8 : ((Unit × (Unit × (Bool × (Bool × (Int × Unit))))) × (Job × ((List Job) × Unit))) → Option Bool) (met9 : Bool) (lost10 : Bool) (z11 : Int) (z12 : Job) (z13 : (List Job)) : Option Bool :=
  cond (decide (z11 < (List.length al2 : Int)))
  (cond (decide (0 ≤ z11))
  (Option.bind (al2[Int.toNat z11]?) fun y14 =>
  cond (decide ((List.length z13 : Int) = 0))
  (none)
  (cond (decide ((Int.tmod y14.1 (List.length z13 : Int)) < 0))
  (nx8 (((), (), met9, lost10, IntKind.wrap .i64 (z11 + 1), ()), (z12, z13, ())))
  (cond (decide (0 ≤ (Int.tmod y14.1 (List.length z13 : Int))))
  (cond (decide ((Int.toNat (Int.tmod y14.1 (List.length z13 : Int))) < (List.length z13)))
  (Option.bind (z13[Int.toNat (Int.tmod y14.1 (List.length z13 : Int))]?) fun y15 =>
  Option.bind (g36 y15.state y14.2.1) fun r16 =>
  cond (decide (r16 = 0))
  (nx8 (((), (), met9, lost10, IntKind.wrap .i64 (z11 + 1), ()), (z12, z13, ())))
  (cond (decide (0 ≤ (Int.tmod y14.1 (List.length z13 : Int))))
  (cond (decide ((Int.toNat (Int.tmod y14.1 (List.length z13 : Int))) < (List.length z13)))
  (Option.bind (z13[Int.toNat (Int.tmod y14.1 (List.length z13 : Int))]?) fun y17 =>
  Option.bind (g37 y17 y14.2.1 y14.2.2.1 y14.2.2.2) fun r18 =>
  cond (decide (0 ≤ (Int.tmod y14.1 (List.length z13 : Int))))
  (cond (decide ((Int.toNat (Int.tmod y14.1 (List.length z13 : Int))) < (List.length z13)))
  (Option.bind (z13[Int.toNat (Int.tmod y14.1 (List.length z13 : Int))]?) fun y19 =>
  Option.bind (g34 z12 (List.set z13 (Int.toNat (Int.tmod y14.1 (List.length z13 : Int))) r18)) fun r20 =>
  Option.bind (g35 z12 (List.set z13 (Int.toNat (Int.tmod y14.1 (List.length z13 : Int))) r18)) fun r21 =>
  cond met9
  (cond (!r20)
  (some false)
  (cond lost10
  (cond (!r21)
  (some false)
  (nx8 (((), (), r20, r21, IntKind.wrap .i64 (z11 + 1), ()), (z12, List.set z13 (Int.toNat (Int.tmod y14.1 (List.length z13 : Int))) r18, ()))))
  (nx8 (((), (), r20, r21, IntKind.wrap .i64 (z11 + 1), ()), (z12, List.set z13 (Int.toNat (Int.tmod y14.1 (List.length z13 : Int))) r18, ())))))
  (cond lost10
  (cond (!r21)
  (some false)
  (nx8 (((), (), r20, r21, IntKind.wrap .i64 (z11 + 1), ()), (z12, List.set z13 (Int.toNat (Int.tmod y14.1 (List.length z13 : Int))) r18, ()))))
  (nx8 (((), (), r20, r21, IntKind.wrap .i64 (z11 + 1), ()), (z12, List.set z13 (Int.toNat (Int.tmod y14.1 (List.length z13 : Int))) r18, ())))))
  (none))
  (none))
  (none))
  (none)))
  (none))
  (none))))
  (none))
  (some true)
def F6 (L : Lp) (g32 : Option Bool) (g33 : (List Job) → Option Bool) (g34 : Job → (List Job) → Option Bool) (g35 : Job → (List Job) → Option Bool) (g36 : Int → Int → Option Int) (g37 : Job → Int → Int → Bool → Option Job) (j0 : Job) (all1 : (List Job)) (al2 : (List (Int × (Int × (Int × Bool))))) : Option Bool :=
  Option.bind (g32) fun r3 =>
  cond (!r3)
  (some false)
  (Option.bind (g33 all1) fun r4 =>
  cond (!r4)
  (some true)
  (cond (decide (10 < (List.length j0.after : Int)))
  (some true)
  (cond (decide (40 < (List.length al2 : Int)))
  (some true)
  (cond (decide ((List.length all1 : Int) = 0))
  (some true)
  (cond (smallB (0 + (List.length all1)) 152)
  (Option.bind (g34 j0 ([] ++ all1)) fun r5 =>
  Option.bind (g35 j0 ([] ++ all1)) fun r6 =>
  L (fun (s7 : ((Unit × (Unit × (Bool × (Bool × (Int × Unit))))) × (Job × ((List Job) × Unit)))) nx8 => l6_0 g34 g35 g36 g37 al2 nx8 s7.1.2.2.1 s7.1.2.2.2.1 s7.1.2.2.2.2.1 s7.2.1 s7.2.2.1) (((), (), r5, r6, 0, ()), (j0, [] ++ all1, ())))
  (none))))))
theorem e6 (L : Lp) (g32 : Option Bool) (g33 : (List Job) → Option Bool) (g34 : Job → (List Job) → Option Bool) (g35 : Job → (List Job) → Option Bool) (g36 : Int → Int → Option Int) (g37 : Job → Int → Int → Bool → Option Job) (x : s6.args.den) (h : denH s6.heap) : nrun [⟨32, s32, fun x h => g32 ⟩, ⟨33, s33, fun x h => g33 x.1⟩, ⟨34, s34, fun x h => g34 x.1 x.2.1⟩, ⟨35, s35, fun x h => g35 x.1 x.2.1⟩, ⟨36, s36, fun x h => g36 x.1 x.2.1⟩, ⟨37, s37, fun x h => g37 x.1 x.2.1 x.2.2.1 x.2.2.2.1⟩] L n6 s6 x h = F6 L g32 g33 g34 g35 g36 g37 x.1 x.2.1 x.2.2.1 := by kernel_rfl
def f6 : Job → (List Job) → (List (Int × (Int × (Int × Bool)))) → Option Bool := F6 (@LN LOOPS) f32 f33 f34 f35 f36 f37
@[reducible] def t6 : Ent := ⟨6, s6, fun x h => f6 x.1 x.2.1 x.2.2.1⟩
theorem k6 : chkNF Try.prog Try.f6 n6 = true := by kernel_rfl
theorem ok6 : NOk Try.prog t6 := NOk.body (T := [t32, t33, t34, t35, t36, t37]) mixed (nall_cons ok32 (nall_cons ok33 (nall_cons ok34 (nall_cons ok35 (nall_cons ok36 (nall_cons ok37 nall_nil)))))) (oneEach_of (by kernel_rfl)) Try.func6 k6 (by kernel_rfl) (fun x h => e6 _ _ _ _ _ _ _ x h)
end NM
end Go.Proofs.Ytnggfgfeghmddaa
