/-
  The plain forms of the functions that the statement reaches, and that each is its function's body. (Written by program.)
-/
import Derived.Test.YtnggfgfeghmddaaNmX
import Derived.Test.YtnggfgfeghmddaaProg
import Derived.ProofKit
import Derived.Test.YtnggfgfeghmddaaInsEntry
import Derived.Test.YtnggfgfeghmddaaDelEntry
set_option linter.unusedVariables false
set_option maxRecDepth 100000
set_option maxHeartbeats 4000000
namespace Go.Proofs.Ytnggfgfeghmddaa
namespace NM
open AM Go.RowKit
theorem mixed : Try.prog.follows .mixedOrders = true := by kernel_rfl
/- drayage/keys.New -/
def n25 : NFunc := ⟨25, .seq (.region 0 [
 ⟨(some 4), .move (.const (.nilp)), none, 0, none⟩,
 ⟨(some 5), .move (.const (.int .i64 (0))), none, 0, none⟩] []) (.seq (.seq (.region 0 [
 ⟨(some 6), .move (.tmp 0), none, 0, none⟩,
 ⟨(some 7), .bin .lss (.tmp 6) (.const (.int .i64 (1))), none, 0, none⟩,
 ⟨(some 8), .move (.tmp 7), none, 0, none⟩,
 ⟨(some 9), .move (.tmp 0), (some (8, false)), 0, none⟩,
 ⟨(some 10), .bin .gtr (.tmp 9) (.const (.int .i64 (8))), (some (8, false)), 0, none⟩,
 ⟨(some 11), .pick (.tmp 8) (.const (.bool true)) (.tmp 10), none, 0, none⟩,
 ⟨(some 12), .move (.tmp 11), none, 0, none⟩,
 ⟨(some 13), .move (.tmp 1), (some (12, false)), 0, none⟩,
 ⟨(some 14), .bin .lss (.tmp 13) (.const (.int .i64 (1))), (some (12, false)), 0, none⟩,
 ⟨(some 15), .pick (.tmp 12) (.const (.bool true)) (.tmp 14), none, 0, none⟩,
 ⟨(some 16), .move (.tmp 15), none, 0, none⟩,
 ⟨(some 17), .move (.tmp 1), (some (16, false)), 0, none⟩,
 ⟨(some 18), .bin .gtr (.tmp 17) (.const (.int .i64 (16))), (some (16, false)), 0, none⟩,
 ⟨(some 19), .pick (.tmp 16) (.const (.bool true)) (.tmp 18), none, 0, none⟩] []) (.cond (.tmp 19) (.seq (.region 0 [
 ⟨(some 4), .move (.const (.nilp)), none, 0, none⟩,
 ⟨(some 5), .move (.const (.int .i64 (2))), none, 0, none⟩] []) (.ret)) (.skip))) (.seq (.region 2 [
 ⟨(some 20), .move (.tmp 1), none, 0, none⟩,
 ⟨(some 21), .move (.tmp 0), none, 0, none⟩,
 ⟨(some 22), .makeSlice 2 32 false [.int .i64 (0), .zsl] (.tmp 21) (.tmp 21), none, 0, none⟩,
 ⟨(some 23), .build [.int .i64 (0), .zsl] [(0, 1, (.tmp 20)), (1, 1, (.tmp 22))], none, 1, none⟩,
 ⟨(some 24), .box 2 (.tmp 23), none, 1, none⟩,
 ⟨(some 4), .move (.tmp 24), none, 2, none⟩,
 ⟨(some 5), .move (.const (.int .i64 (0))), none, 2, none⟩] [⟨22, none, some (21, 3)⟩]) (.ret))), [.tmp 4, .tmp 5], false⟩
def s25 : Sig := ⟨(.cons (.v (.int .i64)) (.cons (.v (.int .i64)) .nil)), [], ((.tup (.cons .nilp (.cons (.v (.int .i64)) .nil))), []), [((.tup (.cons (.ptr 0 0 0) (.cons (.v (.int .i64)) .nil))), [.cell false (.cons (.v (.int .i64)) (.cons (.slw 1 2) .nil)), .many 2 (.cons (.cons (.v (.int .i64)) (.cons .zsl .nil)) (.cons (.cons (.v (.int .i64)) (.cons .zsl .nil)) .nil))]), ((.tup (.cons (.ptr 0 0 0) (.cons (.v (.int .i64)) .nil))), [.cell false (.cons (.v (.int .i64)) (.cons (.slw 1 2) .nil)), .cell false (.cons (.v (.int .i64)) (.cons .zsl .nil))]), ((.tup (.cons (.ptr 0 0 0) (.cons (.v (.int .i64)) .nil))), [.cell false (.cons (.v (.int .i64)) (.cons (.slw 1 2) .nil)), .many 2 .nil])]⟩
def F25 (L : Lp)  (users0 : Int) (keep1 : Int) : Option ((Unit × (Int × Unit)) ⊕ (((Unit × (Int × Unit)) × ((Int × (Unit × Unit)) × (((Int × (Unit × Unit)) × ((Int × (Unit × Unit)) × Unit)) × Unit))) ⊕ (((Unit × (Int × Unit)) × ((Int × (Unit × Unit)) × ((Int × (Unit × Unit)) × Unit))) ⊕ ((Unit × (Int × Unit)) × ((Int × (Unit × Unit)) × (Unit × Unit)))))) :=
 cond (decide (users0 < 1))
 (some (.inl ((), 2, ())))
 (cond (decide (8 < users0))
 (some (.inl ((), 2, ())))
 (cond (decide (keep1 < 1))
 (some (.inl ((), 2, ())))
 (cond (decide (16 < keep1))
 (some (.inl ((), 2, ())))
 (cond (decide (users0 = 2))
 (some (.inr (.inl (((), 0, ()), ((keep1, (), ()), ((0, (), ()), ((0, (), ()), ())), ())))))
 (cond (decide (users0 = 1))
 (some (.inr (.inr (.inl (((), 0, ()), ((keep1, (), ()), (0, (), ()), ()))))))
 (cond (decide (users0 = 0))
 (some (.inr (.inr (.inr (((), 0, ()), ((keep1, (), ()), (), ()))))))
 (none)))))))
theorem e25 (L : Lp)  (x : s25.args.den) (h : denH s25.heap) : nrun [] L n25 s25 x h = F25 L  x.1 x.2.1 := by kernel_rfl
def f25 : Int → Int → Option ((Unit × (Int × Unit)) ⊕ (((Unit × (Int × Unit)) × ((Int × (Unit × Unit)) × (((Int × (Unit × Unit)) × ((Int × (Unit × Unit)) × Unit)) × Unit))) ⊕ (((Unit × (Int × Unit)) × ((Int × (Unit × Unit)) × ((Int × (Unit × Unit)) × Unit))) ⊕ ((Unit × (Int × Unit)) × ((Int × (Unit × Unit)) × (Unit × Unit)))))) := F25 (@LN LOOPS) 
@[reducible] def t25 : Ent := ⟨25, s25, fun x h => f25 x.1 x.2.1⟩
theorem k25 : chkNF Try.prog Try.f25 n25 = true := by kernel_rfl
theorem ok25 : NOk Try.prog t25 := NOk.body (T := []) mixed nall_nil (oneEach_of (by kernel_rfl)) Try.func25 k25 (by kernel_rfl) (fun x h => e25 _  x h)
/- drayage/drayagelaw37.ask -/
def n52 : NFunc := ⟨5, .seq (.region 1 [
 ⟨(some 2), .alloc [.int .i64 (0), .int .i64 (0), .int .i64 (0), .int .i64 (0), .int .i64 (0), .int .i64 (0), .int .i64 (0), .int .i64 (0), .int .i64 (0), .int .i64 (0), .int .i64 (0), .int .i64 (0), .zsl, .int .i64 (0), .int .i64 (0), .int .i64 (0), .int .i64 (0)], none, 0, none⟩] []) (.seq (.region 0 [
 ⟨(some 3), .move (.tmp 0), none, 0, none⟩,
 ⟨(some 4), .build [.int .i64 (0), .int .i64 (0), .int .i64 (0), .int .i64 (0), .int .i64 (0), .int .i64 (0), .int .i64 (0), .int .i64 (0), .int .i64 (0), .int .i64 (0), .int .i64 (0), .int .i64 (0), .zsl, .int .i64 (0), .int .i64 (0), .int .i64 (0), .int .i64 (0)] [(0, 1, (.const (.int .i64 (10)))), (1, 1, (.tmp 3))], none, 0, none⟩,
 ⟨none, .store 17 (.tmp 2) (.tmp 4), none, 0, none⟩] []) (.ret)), [.cell true 17 2], true⟩
def s52 : Sig := ⟨(.cons (.v (.int .i64)) .nil), [], ((.v .request), []), []⟩
def F52 (L : Lp)  (key0 : Int) : Option Request :=
 some (Request.mk 10 key0 0 0 0 0 (Res.mk 0 0 0 0) 0 0 [] 0 0 0 0)
theorem e52 (L : Lp)  (x : s52.args.den) (h : denH s52.heap) : nrun [] L n52 s52 x h = F52 L  x.1 := by kernel_rfl
def f52 : Int → Option Request := F52 (@LN LOOPS) 
@[reducible] def t52 : Ent := ⟨52, s52, fun x h => f52 x.1⟩
theorem k52 : chkNF Try.prog Try.f52 n52 = true := by kernel_rfl
theorem ok52 : NOk Try.prog t52 := NOk.body (T := []) mixed nall_nil (oneEach_of (by kernel_rfl)) Try.func52 k52 (by kernel_rfl) (fun x h => e52 _  x h)
/- (*drayage/keys.Keys).of -/
def n53 : NFunc := ⟨26, .seq (.region 0 [
 ⟨(some 4), .move (.const (.nilp)), none, 0, none⟩] []) (.seq (.seq (.region 0 [
 ⟨(some 5), .move (.tmp 0), none, 0, none⟩,
 ⟨(some 6), .eqP false (.tmp 5) (.const (.nilp)), none, 0, none⟩,
 ⟨(some 7), .move (.tmp 6), none, 0, none⟩,
 ⟨(some 8), .move (.tmp 1), (some (7, false)), 0, none⟩,
 ⟨(some 9), .bin .lss (.tmp 8) (.const (.int .i64 (0))), (some (7, false)), 0, none⟩,
 ⟨(some 10), .pick (.tmp 7) (.const (.bool true)) (.tmp 9), none, 0, none⟩,
 ⟨(some 11), .move (.tmp 10), none, 0, none⟩,
 ⟨(some 12), .move (.tmp 1), (some (11, false)), 0, none⟩,
 ⟨(some 13), .move (.tmp 0), (some (11, false)), 0, none⟩,
 ⟨(some 14), .nilCheck (.tmp 13), (some (11, false)), 0, none⟩,
 ⟨(some 15), .fieldAddr 1 (.tmp 14), (some (11, false)), 0, none⟩,
 ⟨(some 16), .load false 1 (.tmp 15), (some (11, false)), 0, none⟩,
 ⟨(some 17), .len (.tmp 16), (some (11, false)), 0, none⟩,
 ⟨(some 18), .bin .geq (.tmp 12) (.tmp 17), (some (11, false)), 0, none⟩,
 ⟨(some 19), .pick (.tmp 11) (.const (.bool true)) (.tmp 18), none, 0, none⟩] []) (.cond (.tmp 19) (.seq (.region 0 [
 ⟨(some 4), .move (.const (.nilp)), none, 0, none⟩] []) (.ret)) (.skip))) (.seq (.region 0 [
 ⟨(some 20), .move (.tmp 0), none, 0, none⟩,
 ⟨(some 21), .nilCheck (.tmp 20), none, 0, none⟩,
 ⟨(some 22), .fieldAddr 1 (.tmp 21), none, 0, none⟩,
 ⟨(some 23), .load false 1 (.tmp 22), none, 0, none⟩,
 ⟨(some 24), .move (.tmp 1), none, 0, none⟩,
 ⟨(some 25), .indexSl 2 (.tmp 23) (.tmp 24), none, 0, none⟩,
 ⟨(some 4), .move (.tmp 25), none, 0, none⟩] [⟨25, none, some (24, 1)⟩]) (.ret))), [.tmp 4], false⟩
def s53 : Sig := ⟨(.cons (.ptr 0 0 0) (.cons (.v (.int .i64)) .nil)), [.cell false (.cons (.v (.int .i64)) (.cons (.slw 1 2) .nil)), .cell false (.cons (.v (.int .i64)) (.cons .zsl .nil))], (.nilp, [.cell false (.cons (.v (.int .i64)) (.cons (.slw 1 2) .nil)), .cell false (.cons (.v (.int .i64)) (.cons .zsl .nil))]), [((.ptr 1 0 0), [.cell false (.cons (.v (.int .i64)) (.cons (.slw 1 2) .nil)), .cell false (.cons (.v (.int .i64)) (.cons .zsl .nil))])]⟩
def F53 (L : Lp)  (user0 : Int) (a1 : Int) (a2 : Int) : Option ((Unit × ((Int × (Unit × Unit)) × ((Int × (Unit × Unit)) × Unit))) ⊕ (Unit × ((Int × (Unit × Unit)) × ((Int × (Unit × Unit)) × Unit)))) :=
 cond (decide (user0 < 0))
 (some (.inl ((), ((a1, (), ()), (a2, (), ()), ()))))
 (cond (decide (1 ≤ user0))
 (some (.inl ((), ((a1, (), ()), (a2, (), ()), ()))))
 (cond (decide (user0 = 0))
 (some (.inr ((), ((a1, (), ()), (a2, (), ()), ()))))
 (none)))
theorem e53 (L : Lp)  (x : s53.args.den) (h : denH s53.heap) : nrun [] L n53 s53 x h = F53 L  x.2.1 h.1.1 h.2.1.1 := by kernel_rfl
def f53 : Int → Int → Int → Option ((Unit × ((Int × (Unit × Unit)) × ((Int × (Unit × Unit)) × Unit))) ⊕ (Unit × ((Int × (Unit × Unit)) × ((Int × (Unit × Unit)) × Unit)))) := F53 (@LN LOOPS) 
@[reducible] def t53 : Ent := ⟨53, s53, fun x h => f53 x.2.1 h.1.1 h.2.1.1⟩
theorem k53 : chkNF Try.prog Try.f53 n53 = true := by kernel_rfl
theorem ok53 : NOk Try.prog t53 := NOk.body (T := []) mixed nall_nil (oneEach_of (by kernel_rfl)) Try.func53 k53 (by kernel_rfl) (fun x h => e53 _  x h)
/- drayage/ask.exists -/
def n80 : NFunc := ⟨9, .seq (.region 0 [
 ⟨(some 2), .move (.const (.bool false)), none, 0, none⟩] []) (.seq (.region 0 [
 ⟨(some 3), .move (.tmp 0), none, 0, none⟩,
 ⟨(some 4), .bin .geq (.tmp 3) (.const (.int .i64 (1))), none, 0, none⟩,
 ⟨(some 5), .move (.tmp 4), none, 0, none⟩,
 ⟨(some 6), .move (.tmp 0), (some (5, true)), 0, none⟩,
 ⟨(some 7), .bin .leq (.tmp 6) (.const (.int .i64 (12))), (some (5, true)), 0, none⟩,
 ⟨(some 8), .pick (.tmp 5) (.tmp 7) (.const (.bool false)), none, 0, none⟩,
 ⟨(some 2), .move (.tmp 8), none, 0, none⟩] []) (.ret)), [.tmp 2], true⟩
def s80 : Sig := ⟨(.cons (.v (.int .i64)) .nil), [], ((.v .bool), []), []⟩
def F80 (L : Lp)  (kind0 : Int) : Option Bool :=
 cond (decide (1 ≤ kind0))
 (some (decide (kind0 ≤ 12)))
 (some false)
theorem e80 (L : Lp)  (x : s80.args.den) (h : denH s80.heap) : nrun [] L n80 s80 x h = F80 L  x.1 := by kernel_rfl
def f80 : Int → Option Bool := F80 (@LN LOOPS) 
@[reducible] def t80 : Ent := ⟨80, s80, fun x h => f80 x.1⟩
theorem k80 : chkNF Try.prog Try.f80 n80 = true := by kernel_rfl
theorem ok80 : NOk Try.prog t80 := NOk.body (T := []) mixed nall_nil (oneEach_of (by kernel_rfl)) Try.func80 k80 (by kernel_rfl) (fun x h => e80 _  x h)
/- drayage/ask.afterRight -/
def n81 : NFunc := ⟨30, .seq (.region 0 [
 ⟨(some 4), .move (.const (.bool false)), none, 0, none⟩] []) (.seq (.seq (.region 0 [
 ⟨(some 7), .move (.tmp 0), none, 0, none⟩,
 ⟨(some 8), .bin .neq (.tmp 7) (.const (.int .i64 (1))), none, 0, none⟩] []) (.cond (.tmp 8) (.seq (.region 0 [
 ⟨(some 9), .move (.tmp 1), none, 0, none⟩,
 ⟨(some 10), .len (.tmp 9), none, 0, none⟩,
 ⟨(some 11), .bin .eql (.tmp 10) (.const (.int .i64 (0))), none, 0, none⟩,
 ⟨(some 4), .move (.tmp 11), none, 0, none⟩] []) (.ret)) (.skip))) (.seq (.seq (.region 0 [
 ⟨(some 12), .move (.tmp 1), none, 0, none⟩,
 ⟨(some 13), .len (.tmp 12), none, 0, none⟩,
 ⟨(some 14), .bin .gtr (.tmp 13) (.const (.int .i64 (4))), none, 0, none⟩] []) (.cond (.tmp 14) (.seq (.region 0 [
 ⟨(some 4), .move (.const (.bool false)), none, 0, none⟩] []) (.ret)) (.skip))) (.seq (.seq (.region 0 [
 ⟨(some 15), .move (.tmp 1), none, 0, none⟩,
 ⟨(some 16), .len (.tmp 15), none, 0, none⟩,
 ⟨(some 17), .move (.const (.int .i64 (0))), none, 0, none⟩] []) (.block 0 (.loop [15, 16, 17] ⟨[(17, (.v (.int .i64)))], [15, 16], []⟩ (.seq (.region 0 [
 ⟨(some 18), .bin .lss (.tmp 17) (.tmp 16), none, 0, none⟩] []) (.seq (.cond (.tmp 18) (.skip) (.exit 0)) (.seq (.block 1 (.seq (.region 1 [
 ⟨(some 19), .indexSl 2 (.tmp 15) (.tmp 17), none, 0, none⟩,
 ⟨(some 20), .load true 2 (.tmp 19), none, 0, none⟩,
 ⟨(some 6), .alloc [.int .i64 (0), .bool false], none, 0, none⟩,
 ⟨none, .store 2 (.tmp 6) (.tmp 20), none, 1, none⟩] []) (.seq (.region 0 [
 ⟨(some 21), .fieldAddr 0 (.tmp 6), none, 0, none⟩,
 ⟨(some 22), .load false 1 (.tmp 21), none, 0, none⟩,
 ⟨(some 23), .bin .lss (.tmp 22) (.const (.int .i64 (0))), none, 0, none⟩,
 ⟨(some 24), .move (.tmp 23), none, 0, none⟩,
 ⟨(some 25), .fieldAddr 0 (.tmp 6), (some (24, false)), 0, none⟩,
 ⟨(some 26), .load false 1 (.tmp 25), (some (24, false)), 0, none⟩,
 ⟨(some 27), .bin .gtr (.tmp 26) (.const (.int .i64 (281474976710656))), (some (24, false)), 0, none⟩,
 ⟨(some 28), .pick (.tmp 24) (.const (.bool true)) (.tmp 27), none, 0, none⟩] []) (.cond (.tmp 28) (.seq (.region 0 [
 ⟨(some 4), .move (.const (.bool false)), none, 0, none⟩] []) (.ret)) (.skip))))) (.region 0 [
 ⟨(some 29), .bin .add (.tmp 17) (.const (.int .i64 (1))), none, 0, none⟩,
 ⟨(some 17), .move (.tmp 29), none, 0, none⟩] []))))))) (.seq (.region 0 [
 ⟨(some 4), .move (.const (.bool true)), none, 0, none⟩] []) (.ret))))), [.tmp 4], true⟩
def s81 : Sig := ⟨(.cons (.v (.int .i64)) (.cons (.v (.list .dep)) .nil)), [], ((.v .bool), []), []⟩
def l81_0 (after1 : (List Dep)) (nx3 : ((Int × Unit) × Unit) → Option Bool) (z4 : Int) : Option Bool :=
 cond (decide (z4 < (List.length after1 : Int)))
 (cond (decide (0 ≤ z4))
 (Option.bind (after1[Int.toNat z4]?) fun y5 =>
 cond (decide (y5.job < 0))
 (some false)
 (cond (decide (281474976710656 < y5.job))
 (some false)
 (nx3 ((IntKind.wrap .i64 (z4 + 1), ()), ()))))
 (none))
 (some true)
def F81 (L : Lp)  (kind0 : Int) (after1 : (List Dep)) : Option Bool :=
 cond (!decide (kind0 = 1))
 (some (decide ((List.length after1 : Int) = 0)))
 (cond (decide (4 < (List.length after1 : Int)))
 (some false)
 (L (fun (s2 : ((Int × Unit) × Unit)) nx3 => l81_0 after1 nx3 s2.1.1) ((0, ()), ())))
theorem e81 (L : Lp)  (x : s81.args.den) (h : denH s81.heap) : nrun [] L n81 s81 x h = F81 L  x.1 x.2.1 := by kernel_rfl
def f81 : Int → (List Dep) → Option Bool := F81 (@LN LOOPS) 
@[reducible] def t81 : Ent := ⟨81, s81, fun x h => f81 x.1 x.2.1⟩
theorem k81 : chkNF Try.prog Try.f81 n81 = true := by kernel_rfl
theorem ok81 : NOk Try.prog t81 := NOk.body (T := []) mixed nall_nil (oneEach_of (by kernel_rfl)) Try.func81 k81 (by kernel_rfl) (fun x h => e81 _  x h)
/- drayage/ask.numbers -/
def n82 : NFunc := ⟨120, .split 0 0 13 (.seq (.region 0 [
 ⟨(some 2), .move (.const (.zsl)), none, 0, none⟩] []) (.seq (.region 0 [
 ⟨(some 3), .move (.const (.zsl)), none, 0, none⟩] []) (.seq (.seq (.region 0 [
 ⟨(some 4), .move (.tmp 0), none, 0, none⟩,
 ⟨(some 5), .nilCheck (.tmp 4), none, 0, none⟩,
 ⟨(some 6), .fieldAddr 0 (.tmp 5), none, 0, none⟩,
 ⟨(some 7), .load false 1 (.tmp 6), none, 0, none⟩] []) (.block 0 (.seq (.seq (.region 0 [
 ⟨(some 9), .bin .eql (.tmp 7) (.const (.int .i64 (2))), none, 0, none⟩,
 ⟨(some 8), .move (.tmp 9), none, 0, none⟩] []) (.cond (.tmp 8) (.skip) (.seq (.region 0 [
 ⟨(some 10), .bin .eql (.tmp 7) (.const (.int .i64 (3))), none, 0, none⟩,
 ⟨(some 8), .move (.tmp 10), none, 0, none⟩] []) (.cond (.tmp 8) (.skip) (.seq (.region 0 [
 ⟨(some 11), .bin .eql (.tmp 7) (.const (.int .i64 (4))), none, 0, none⟩,
 ⟨(some 8), .move (.tmp 11), none, 0, none⟩] []) (.cond (.tmp 8) (.skip) (.seq (.region 0 [
 ⟨(some 12), .bin .eql (.tmp 7) (.const (.int .i64 (5))), none, 0, none⟩,
 ⟨(some 8), .move (.tmp 12), none, 0, none⟩] []) (.cond (.tmp 8) (.skip) (.seq (.region 0 [
 ⟨(some 13), .bin .eql (.tmp 7) (.const (.int .i64 (6))), none, 0, none⟩,
 ⟨(some 8), .move (.tmp 13), none, 0, none⟩] []) (.cond (.tmp 8) (.skip) (.region 0 [
 ⟨(some 14), .bin .eql (.tmp 7) (.const (.int .i64 (7))), none, 0, none⟩,
 ⟨(some 8), .move (.tmp 14), none, 0, none⟩] []))))))))))) (.cond (.tmp 8) (.region 2 [
 ⟨(some 15), .move (.tmp 3), none, 0, (some ([], none))⟩,
 ⟨(some 16), .move (.tmp 0), none, 0, (some ([], none))⟩,
 ⟨(some 17), .nilCheck (.tmp 16), none, 0, (some ([], none))⟩,
 ⟨(some 18), .fieldAddr 2 (.tmp 17), none, 0, (some ([], none))⟩,
 ⟨(some 19), .move (.tmp 0), none, 0, (some ([], none))⟩,
 ⟨(some 20), .nilCheck (.tmp 19), none, 0, (some ([], none))⟩,
 ⟨(some 21), .fieldAddr 3 (.tmp 20), none, 0, (some ([], none))⟩,
 ⟨(some 22), .buildSlice 1 2 false [.nilp] [(0, (.tmp 18)), (1, (.tmp 21))], none, 0, (some ([], none))⟩,
 ⟨(some 23), .append 1 8 false (.tmp 15) (.tmp 22), none, 1, (some ([0], none))⟩,
 ⟨(some 3), .move (.tmp 23), none, 2, (some ([0, 1], none))⟩] []) (.seq (.region 0 [
 ⟨(some 25), .bin .eql (.tmp 7) (.const (.int .i64 (8))), none, 0, none⟩,
 ⟨(some 24), .move (.tmp 25), none, 0, none⟩] []) (.cond (.tmp 24) (.region 2 [
 ⟨(some 26), .move (.tmp 3), none, 0, none⟩,
 ⟨(some 27), .move (.tmp 0), none, 0, none⟩,
 ⟨(some 28), .nilCheck (.tmp 27), none, 0, none⟩,
 ⟨(some 29), .fieldAddr 2 (.tmp 28), none, 0, none⟩,
 ⟨(some 30), .buildSlice 1 1 false [.nilp] [(0, (.tmp 29))], none, 0, none⟩,
 ⟨(some 31), .append 1 8 false (.tmp 26) (.tmp 30), none, 1, none⟩,
 ⟨(some 3), .move (.tmp 31), none, 2, none⟩] []) (.seq (.region 0 [
 ⟨(some 33), .bin .eql (.tmp 7) (.const (.int .i64 (11))), none, 0, none⟩,
 ⟨(some 32), .move (.tmp 33), none, 0, none⟩] []) (.cond (.tmp 32) (.region 2 [
 ⟨(some 34), .move (.tmp 3), none, 0, (some ([], none))⟩,
 ⟨(some 35), .move (.tmp 0), none, 0, (some ([], none))⟩,
 ⟨(some 36), .nilCheck (.tmp 35), none, 0, (some ([], none))⟩,
 ⟨(some 37), .fieldAddr 13 (.tmp 36), none, 0, (some ([], none))⟩,
 ⟨(some 38), .move (.tmp 0), none, 0, (some ([], none))⟩,
 ⟨(some 39), .nilCheck (.tmp 38), none, 0, (some ([], none))⟩,
 ⟨(some 40), .fieldAddr 14 (.tmp 39), none, 0, (some ([], none))⟩,
 ⟨(some 41), .move (.tmp 0), none, 0, (some ([], none))⟩,
 ⟨(some 42), .nilCheck (.tmp 41), none, 0, (some ([], none))⟩,
 ⟨(some 43), .fieldAddr 15 (.tmp 42), none, 0, (some ([], none))⟩,
 ⟨(some 44), .buildSlice 1 3 false [.nilp] [(0, (.tmp 37)), (1, (.tmp 40)), (2, (.tmp 43))], none, 0, (some ([], none))⟩,
 ⟨(some 45), .append 1 8 false (.tmp 34) (.tmp 44), none, 1, (some ([0], none))⟩,
 ⟨(some 3), .move (.tmp 45), none, 2, (some ([0, 1], none))⟩] []) (.seq (.region 0 [
 ⟨(some 47), .bin .eql (.tmp 7) (.const (.int .i64 (12))), none, 0, none⟩,
 ⟨(some 46), .move (.tmp 47), none, 0, none⟩] []) (.cond (.tmp 46) (.region 2 [
 ⟨(some 48), .move (.tmp 3), none, 0, none⟩,
 ⟨(some 49), .move (.tmp 0), none, 0, none⟩,
 ⟨(some 50), .nilCheck (.tmp 49), none, 0, none⟩,
 ⟨(some 51), .fieldAddr 16 (.tmp 50), none, 0, none⟩,
 ⟨(some 52), .buildSlice 1 1 false [.nilp] [(0, (.tmp 51))], none, 0, none⟩,
 ⟨(some 53), .append 1 8 false (.tmp 48) (.tmp 52), none, 1, none⟩,
 ⟨(some 3), .move (.tmp 53), none, 2, none⟩] []) (.skip))))))))))) (.seq (.seq (.region 0 [
 ⟨(some 54), .move (.tmp 0), none, 0, none⟩,
 ⟨(some 55), .nilCheck (.tmp 54), none, 0, none⟩,
 ⟨(some 56), .fieldAddr 0 (.tmp 55), none, 0, none⟩,
 ⟨(some 57), .load false 1 (.tmp 56), none, 0, none⟩] []) (.block 1 (.seq (.block 4 (.seq (.block 3 (.seq (.block 2 (.seq (.seq (.seq (.region 0 [
 ⟨(some 59), .bin .eql (.tmp 57) (.const (.int .i64 (1))), none, 0, none⟩,
 ⟨(some 58), .move (.tmp 59), none, 0, none⟩] []) (.cond (.tmp 58) (.exit 2) (.skip))) (.seq (.seq (.region 0 [
 ⟨(some 61), .bin .eql (.tmp 57) (.const (.int .i64 (2))), none, 0, none⟩,
 ⟨(some 60), .move (.tmp 61), none, 0, none⟩] []) (.cond (.tmp 60) (.exit 3) (.skip))) (.seq (.seq (.region 0 [
 ⟨(some 63), .bin .eql (.tmp 57) (.const (.int .i64 (7))), none, 0, none⟩,
 ⟨(some 62), .move (.tmp 63), none, 0, none⟩] []) (.cond (.tmp 62) (.skip) (.region 0 [
 ⟨(some 64), .bin .eql (.tmp 57) (.const (.int .i64 (9))), none, 0, none⟩,
 ⟨(some 62), .move (.tmp 64), none, 0, none⟩] []))) (.cond (.tmp 62) (.exit 4) (.skip))))) (.exit 1))) (.region 2 [
 ⟨(some 65), .move (.tmp 3), none, 0, none⟩,
 ⟨(some 66), .move (.tmp 0), none, 0, none⟩,
 ⟨(some 67), .nilCheck (.tmp 66), none, 0, none⟩,
 ⟨(some 68), .fieldAddr 4 (.tmp 67), none, 0, none⟩,
 ⟨(some 69), .buildSlice 1 1 false [.nilp] [(0, (.tmp 68))], none, 0, none⟩,
 ⟨(some 70), .append 1 8 false (.tmp 65) (.tmp 69), none, 1, none⟩,
 ⟨(some 3), .move (.tmp 70), none, 2, none⟩] []))) (.seq (.seq (.region 2 [
 ⟨(some 71), .move (.tmp 3), none, 0, none⟩,
 ⟨(some 72), .move (.tmp 0), none, 0, none⟩,
 ⟨(some 73), .nilCheck (.tmp 72), none, 0, none⟩,
 ⟨(some 74), .fieldAddr 5 (.tmp 73), none, 0, none⟩,
 ⟨(some 75), .buildSlice 1 1 false [.nilp] [(0, (.tmp 74))], none, 0, none⟩,
 ⟨(some 76), .append 1 8 false (.tmp 71) (.tmp 75), none, 1, none⟩,
 ⟨(some 3), .move (.tmp 76), none, 2, none⟩] []) (.seq (.region 2 [
 ⟨(some 77), .move (.tmp 3), none, 0, (some ([], none))⟩,
 ⟨(some 78), .move (.tmp 0), none, 0, (some ([], none))⟩,
 ⟨(some 79), .nilCheck (.tmp 78), none, 0, (some ([], none))⟩,
 ⟨(some 80), .fieldAddr 6 (.tmp 79), none, 0, (some ([], none))⟩,
 ⟨(some 81), .fieldAddr 0 (.tmp 80), none, 0, (some ([], none))⟩,
 ⟨(some 82), .move (.tmp 0), none, 0, (some ([], none))⟩,
 ⟨(some 83), .nilCheck (.tmp 82), none, 0, (some ([], none))⟩,
 ⟨(some 84), .fieldAddr 6 (.tmp 83), none, 0, (some ([], none))⟩,
 ⟨(some 85), .fieldAddr 1 (.tmp 84), none, 0, (some ([], none))⟩,
 ⟨(some 86), .move (.tmp 0), none, 0, (some ([], none))⟩,
 ⟨(some 87), .nilCheck (.tmp 86), none, 0, (some ([], none))⟩,
 ⟨(some 88), .fieldAddr 6 (.tmp 87), none, 0, (some ([], none))⟩,
 ⟨(some 89), .fieldAddr 2 (.tmp 88), none, 0, (some ([], none))⟩,
 ⟨(some 90), .move (.tmp 0), none, 0, (some ([], none))⟩,
 ⟨(some 91), .nilCheck (.tmp 90), none, 0, (some ([], none))⟩,
 ⟨(some 92), .fieldAddr 6 (.tmp 91), none, 0, (some ([], none))⟩,
 ⟨(some 93), .fieldAddr 3 (.tmp 92), none, 0, (some ([], none))⟩,
 ⟨(some 94), .buildSlice 1 4 false [.nilp] [(0, (.tmp 81)), (1, (.tmp 85)), (2, (.tmp 89)), (3, (.tmp 93))], none, 0, (some ([], none))⟩,
 ⟨(some 95), .append 1 8 false (.tmp 77) (.tmp 94), none, 1, (some ([0], none))⟩,
 ⟨(some 3), .move (.tmp 95), none, 2, (some ([0, 1], none))⟩] []) (.region 2 [
 ⟨(some 96), .move (.tmp 3), none, 0, none⟩,
 ⟨(some 97), .move (.tmp 0), none, 0, none⟩,
 ⟨(some 98), .nilCheck (.tmp 97), none, 0, none⟩,
 ⟨(some 99), .fieldAddr 10 (.tmp 98), none, 0, none⟩,
 ⟨(some 100), .buildSlice 1 1 false [.nilp] [(0, (.tmp 99))], none, 0, none⟩,
 ⟨(some 101), .append 1 8 false (.tmp 96) (.tmp 100), none, 1, none⟩,
 ⟨(some 3), .move (.tmp 101), none, 2, none⟩] []))) (.exit 1)))) (.seq (.region 2 [
 ⟨(some 102), .move (.tmp 3), none, 0, none⟩,
 ⟨(some 103), .move (.tmp 0), none, 0, none⟩,
 ⟨(some 104), .nilCheck (.tmp 103), none, 0, none⟩,
 ⟨(some 105), .fieldAddr 4 (.tmp 104), none, 0, none⟩,
 ⟨(some 106), .buildSlice 1 1 false [.nilp] [(0, (.tmp 105))], none, 0, none⟩,
 ⟨(some 107), .append 1 8 false (.tmp 102) (.tmp 106), none, 1, none⟩,
 ⟨(some 3), .move (.tmp 107), none, 2, none⟩] []) (.exit 1))))) (.seq (.seq (.region 0 [
 ⟨(some 108), .move (.tmp 0), none, 0, none⟩,
 ⟨(some 109), .nilCheck (.tmp 108), none, 0, none⟩,
 ⟨(some 110), .fieldAddr 0 (.tmp 109), none, 0, none⟩,
 ⟨(some 111), .load false 1 (.tmp 110), none, 0, none⟩,
 ⟨(some 112), .bin .eql (.tmp 111) (.const (.int .i64 (1))), none, 0, none⟩] []) (.cond (.tmp 112) (.region 2 [
 ⟨(some 113), .move (.tmp 3), none, 0, none⟩,
 ⟨(some 114), .move (.tmp 0), none, 0, none⟩,
 ⟨(some 115), .nilCheck (.tmp 114), none, 0, none⟩,
 ⟨(some 116), .fieldAddr 11 (.tmp 115), none, 0, none⟩,
 ⟨(some 117), .buildSlice 1 1 false [.nilp] [(0, (.tmp 116))], none, 0, none⟩,
 ⟨(some 118), .append 1 8 false (.tmp 113) (.tmp 117), none, 1, none⟩,
 ⟨(some 3), .move (.tmp 118), none, 2, none⟩] []) (.skip))) (.seq (.region 0 [
 ⟨(some 119), .move (.tmp 3), none, 0, none⟩,
 ⟨(some 2), .move (.tmp 119), none, 0, none⟩] []) (.ret))))))), [.tmp 2], false⟩
def s82 : Sig := ⟨(.cons (.ptr 0 0 0) .nil), [.one false .request], ((.slw 1 1), [.one false .request, .many 1 (.cons (.cons (.ptr 0 0 13) .nil) (.cons (.cons (.ptr 0 0 14) .nil) (.cons (.cons (.ptr 0 0 15) .nil) .nil)))]), [(.zsl, [.one false .request]), ((.slw 1 1), [.one false .request, .cell false (.cons (.ptr 0 0 4) .nil)]), ((.slw 1 1), [.one false .request, .cell false (.cons (.ptr 0 0 2) .nil)]), ((.slw 1 1), [.one false .request, .many 1 (.cons (.cons (.ptr 0 0 2) .nil) (.cons (.cons (.ptr 0 0 3) .nil) (.cons (.cons (.ptr 0 0 4) .nil) .nil)))]), ((.slw 1 1), [.one false .request, .many 1 (.cons (.cons (.ptr 0 0 2) .nil) (.cons (.cons (.ptr 0 0 3) .nil) .nil))]), ((.slw 1 1), [.one false .request, .many 1 (.cons (.cons (.ptr 0 0 2) .nil) (.cons (.cons (.ptr 0 0 3) .nil) (.cons (.cons (.ptr 0 0 5) .nil) (.cons (.cons (.ptr 0 0 6) .nil) (.cons (.cons (.ptr 0 0 7) .nil) (.cons (.cons (.ptr 0 0 8) .nil) (.cons (.cons (.ptr 0 0 9) .nil) (.cons (.cons (.ptr 0 0 10) .nil) .nil))))))))]), ((.slw 1 1), [.one false .request, .many 1 (.cons (.cons (.ptr 0 0 4) .nil) (.cons (.cons (.ptr 0 0 5) .nil) (.cons (.cons (.ptr 0 0 6) .nil) (.cons (.cons (.ptr 0 0 7) .nil) (.cons (.cons (.ptr 0 0 8) .nil) (.cons (.cons (.ptr 0 0 9) .nil) (.cons (.cons (.ptr 0 0 10) .nil) (.cons (.cons (.ptr 0 0 11) .nil) .nil))))))))]), ((.slw 1 1), [.one false .request, .cell false (.cons (.ptr 0 0 16) .nil)])]⟩
@[reducible] def y82 : Type := ((Unit × (Request × (((Unit × Unit) × ((Unit × Unit) × ((Unit × Unit) × Unit))) × Unit))) ⊕ ((Unit × (Request × Unit)) ⊕ ((Unit × (Request × ((Unit × Unit) × Unit))) ⊕ ((Unit × (Request × ((Unit × Unit) × Unit))) ⊕ ((Unit × (Request × (((Unit × Unit) × ((Unit × Unit) × ((Unit × Unit) × Unit))) × Unit))) ⊕ ((Unit × (Request × (((Unit × Unit) × ((Unit × Unit) × Unit)) × Unit))) ⊕ ((Unit × (Request × (((Unit × Unit) × ((Unit × Unit) × ((Unit × Unit) × ((Unit × Unit) × ((Unit × Unit) × ((Unit × Unit) × ((Unit × Unit) × ((Unit × Unit) × Unit)))))))) × Unit))) ⊕ ((Unit × (Request × (((Unit × Unit) × ((Unit × Unit) × ((Unit × Unit) × ((Unit × Unit) × ((Unit × Unit) × ((Unit × Unit) × ((Unit × Unit) × ((Unit × Unit) × Unit)))))))) × Unit))) ⊕ (Unit × (Request × ((Unit × Unit) × Unit)))))))))))
def F82 (L : Lp)  (a0 : Request) : Option y82 :=
 cond (decide (a0.kind = 12))
 (some (.inr (.inr (.inr (.inr (.inr (.inr (.inr (.inr ((), (Request.mk 12 a0.key a0.job a0.version a0.queue a0.many a0.need a0.wall a0.tasks a0.after a0.node a0.fro a0.to a0.id, ((), ()), ())))))))))))
 (cond (decide (a0.kind = 11))
 (some (.inl ((), (Request.mk 11 a0.key a0.job a0.version a0.queue a0.many a0.need a0.wall a0.tasks a0.after a0.node a0.fro a0.to a0.id, (((), ()), (((), ()), (((), ()), ()))), ()))))
 (cond (decide (a0.kind = 10))
 (some (.inr (.inl ((), (Request.mk 10 a0.key a0.job a0.version a0.queue a0.many a0.need a0.wall a0.tasks a0.after a0.node a0.fro a0.to a0.id, ())))))
 (cond (decide (a0.kind = 9))
 (some (.inr (.inr (.inl ((), (Request.mk 9 a0.key a0.job a0.version a0.queue a0.many a0.need a0.wall a0.tasks a0.after a0.node a0.fro a0.to a0.id, ((), ()), ()))))))
 (cond (decide (a0.kind = 8))
 (some (.inr (.inr (.inr (.inl ((), (Request.mk 8 a0.key a0.job a0.version a0.queue a0.many a0.need a0.wall a0.tasks a0.after a0.node a0.fro a0.to a0.id, ((), ()), ())))))))
 (cond (decide (a0.kind = 7))
 (some (.inr (.inr (.inr (.inr (.inl ((), (Request.mk 7 a0.key a0.job a0.version a0.queue a0.many a0.need a0.wall a0.tasks a0.after a0.node a0.fro a0.to a0.id, (((), ()), (((), ()), (((), ()), ()))), ()))))))))
 (cond (decide (a0.kind = 6))
 (some (.inr (.inr (.inr (.inr (.inr (.inl ((), (Request.mk 6 a0.key a0.job a0.version a0.queue a0.many a0.need a0.wall a0.tasks a0.after a0.node a0.fro a0.to a0.id, (((), ()), (((), ()), ())), ())))))))))
 (cond (decide (a0.kind = 5))
 (some (.inr (.inr (.inr (.inr (.inr (.inl ((), (Request.mk 5 a0.key a0.job a0.version a0.queue a0.many a0.need a0.wall a0.tasks a0.after a0.node a0.fro a0.to a0.id, (((), ()), (((), ()), ())), ())))))))))
 (cond (decide (a0.kind = 4))
 (some (.inr (.inr (.inr (.inr (.inr (.inl ((), (Request.mk 4 a0.key a0.job a0.version a0.queue a0.many a0.need a0.wall a0.tasks a0.after a0.node a0.fro a0.to a0.id, (((), ()), (((), ()), ())), ())))))))))
 (cond (decide (a0.kind = 3))
 (some (.inr (.inr (.inr (.inr (.inr (.inl ((), (Request.mk 3 a0.key a0.job a0.version a0.queue a0.many a0.need a0.wall a0.tasks a0.after a0.node a0.fro a0.to a0.id, (((), ()), (((), ()), ())), ())))))))))
 (cond (decide (a0.kind = 2))
 (some (.inr (.inr (.inr (.inr (.inr (.inr (.inl ((), (Request.mk 2 a0.key a0.job a0.version a0.queue a0.many a0.need a0.wall a0.tasks a0.after a0.node a0.fro a0.to a0.id, (((), ()), (((), ()), (((), ()), (((), ()), (((), ()), (((), ()), (((), ()), (((), ()), ())))))))), ()))))))))))
 (cond (decide (a0.kind = 1))
 (some (.inr (.inr (.inr (.inr (.inr (.inr (.inr (.inl ((), (Request.mk 1 a0.key a0.job a0.version a0.queue a0.many a0.need a0.wall a0.tasks a0.after a0.node a0.fro a0.to a0.id, (((), ()), (((), ()), (((), ()), (((), ()), (((), ()), (((), ()), (((), ()), (((), ()), ())))))))), ())))))))))))
 (cond (decide (a0.kind = 0))
 (some (.inr (.inl ((), (Request.mk 0 a0.key a0.job a0.version a0.queue a0.many a0.need a0.wall a0.tasks a0.after a0.node a0.fro a0.to a0.id, ())))))
 (none)))))))))))))
theorem e82 (L : Lp)  (x : s82.args.den) (h : denH s82.heap) : nrun [] L n82 s82 x h = F82 L  h.1 := by kernel_rfl
def f82 : Request → Option y82 := F82 (@LN LOOPS) 
@[reducible] def t82 : Ent := ⟨82, s82, fun x h => f82 h.1⟩
theorem k82 : chkNF Try.prog Try.f82 n82 = true := by kernel_rfl
theorem ok82 : NOk Try.prog t82 := NOk.body (T := []) mixed nall_nil (oneEach_of (by kernel_rfl)) Try.func82 k82 (by kernel_rfl) (fun x h => e82 _  x h)
/- slices.Equal[[]drayage/api.Dep,drayage/api.Dep] -/
def n89 : NFunc := ⟨26, .seq (.region 0 [
 ⟨(some 4), .move (.const (.bool false)), none, 0, none⟩] []) (.seq (.seq (.region 0 [
 ⟨(some 6), .move (.tmp 0), none, 0, none⟩,
 ⟨(some 7), .len (.tmp 6), none, 0, none⟩,
 ⟨(some 8), .move (.tmp 1), none, 0, none⟩,
 ⟨(some 9), .len (.tmp 8), none, 0, none⟩,
 ⟨(some 10), .bin .neq (.tmp 7) (.tmp 9), none, 0, none⟩] []) (.cond (.tmp 10) (.seq (.region 0 [
 ⟨(some 4), .move (.const (.bool false)), none, 0, none⟩] []) (.ret)) (.skip))) (.seq (.seq (.region 0 [
 ⟨(some 11), .move (.tmp 0), none, 0, none⟩,
 ⟨(some 12), .len (.tmp 11), none, 0, none⟩,
 ⟨(some 13), .move (.const (.int .i64 (0))), none, 0, none⟩] []) (.block 0 (.loop [0, 1, 12, 13] ⟨[(13, (.v (.int .i64)))], [0, 1, 12], []⟩ (.seq (.region 0 [
 ⟨(some 14), .bin .lss (.tmp 13) (.tmp 12), none, 0, none⟩] []) (.seq (.cond (.tmp 14) (.skip) (.exit 0)) (.seq (.block 1 (.seq (.region 0 [
 ⟨(some 15), .move (.tmp 13), none, 0, none⟩,
 ⟨(some 5), .move (.tmp 15), none, 0, none⟩] []) (.seq (.region 0 [
 ⟨(some 16), .move (.tmp 0), none, 0, (some ([], none))⟩,
 ⟨(some 17), .move (.tmp 5), none, 0, (some ([], none))⟩,
 ⟨(some 18), .indexSl 2 (.tmp 16) (.tmp 17), none, 0, (some ([], none))⟩,
 ⟨(some 19), .load true 2 (.tmp 18), none, 0, (some ([], none))⟩,
 ⟨(some 20), .move (.tmp 1), none, 0, (some ([], none))⟩,
 ⟨(some 21), .move (.tmp 5), none, 0, (some ([], none))⟩,
 ⟨(some 22), .indexSl 2 (.tmp 20) (.tmp 21), none, 0, (some ([], none))⟩,
 ⟨(some 23), .load true 2 (.tmp 22), none, 0, (some ([], none))⟩,
 ⟨(some 24), .eqAgg (true, [.int .i64, .bool]) (.tmp 19) (.tmp 23), none, 0, (some ([], none))⟩] []) (.cond (.tmp 24) (.seq (.region 0 [
 ⟨(some 4), .move (.const (.bool false)), none, 0, none⟩] []) (.ret)) (.skip))))) (.region 0 [
 ⟨(some 25), .bin .add (.tmp 13) (.const (.int .i64 (1))), none, 0, none⟩,
 ⟨(some 13), .move (.tmp 25), none, 0, none⟩] []))))))) (.seq (.region 0 [
 ⟨(some 4), .move (.const (.bool true)), none, 0, none⟩] []) (.ret)))), [.tmp 4], false⟩
def s89 : Sig := ⟨(.cons (.v (.list .dep)) (.cons (.v (.list .dep)) .nil)), [], ((.v .bool), []), []⟩
def l89_0 (as0 : (List Dep)) (as1 : (List Dep)) (nx3 : ((Int × Unit) × Unit) → Option Bool) (z4 : Int) : Option Bool :=
 cond (decide (z4 < (List.length as0 : Int)))
 (cond (decide (0 ≤ z4))
 (Option.bind (as0[Int.toNat z4]?) fun y5 =>
 cond (decide (0 ≤ z4))
 (Option.bind (as1[Int.toNat z4]?) fun y6 =>
 cond (!((decide (y5.job = y6.job)) && ((y5.ok == y6.ok) && true)))
 (some false)
 (nx3 ((IntKind.wrap .i64 (z4 + 1), ()), ())))
 (none))
 (none))
 (some true)
def F89 (L : Lp)  (as0 : (List Dep)) (as1 : (List Dep)) : Option Bool :=
 cond (!decide ((List.length as0 : Int) = (List.length as1 : Int)))
 (some false)
 (L (fun (s2 : ((Int × Unit) × Unit)) nx3 => l89_0 as0 as1 nx3 s2.1.1) ((0, ()), ()))
theorem e89 (L : Lp)  (x : s89.args.den) (h : denH s89.heap) : nrun [] L n89 s89 x h = F89 L  x.1 x.2.1 := by kernel_rfl
def f89 : (List Dep) → (List Dep) → Option Bool := F89 (@LN LOOPS) 
@[reducible] def t89 : Ent := ⟨89, s89, fun x h => f89 x.1 x.2.1⟩
theorem k89 : chkNF Try.prog Try.f89 n89 = true := by kernel_rfl
theorem ok89 : NOk Try.prog t89 := NOk.body (T := []) mixed nall_nil (oneEach_of (by kernel_rfl)) Try.func89 k89 (by kernel_rfl) (fun x h => e89 _  x h)
/- drayage/ask.Same -/
def n61 : NFunc := ⟨101, .seq (.region 2 [
 ⟨(some 2), .box 17 (.tmp 0), none, 0, none⟩,
 ⟨(some 3), .box 17 (.tmp 1), none, 1, none⟩,
 ⟨(some 4), .move (.const (.bool false)), none, 2, none⟩] []) (.seq (.region 4 [
 ⟨(some 5), .fieldAddr 0 (.tmp 2), none, 0, none⟩,
 ⟨(some 6), .load false 1 (.tmp 5), none, 0, none⟩,
 ⟨(some 7), .fieldAddr 0 (.tmp 3), none, 0, none⟩,
 ⟨(some 8), .load false 1 (.tmp 7), none, 0, none⟩,
 ⟨(some 9), .bin .eql (.tmp 6) (.tmp 8), none, 0, none⟩,
 ⟨(some 10), .move (.tmp 9), none, 0, none⟩,
 ⟨(some 11), .fieldAddr 1 (.tmp 2), (some (10, true)), 0, none⟩,
 ⟨(some 12), .load false 1 (.tmp 11), (some (10, true)), 0, none⟩,
 ⟨(some 13), .fieldAddr 1 (.tmp 3), (some (10, true)), 0, none⟩,
 ⟨(some 14), .load false 1 (.tmp 13), (some (10, true)), 0, none⟩,
 ⟨(some 15), .bin .eql (.tmp 12) (.tmp 14), (some (10, true)), 0, none⟩,
 ⟨(some 16), .pick (.tmp 10) (.tmp 15) (.const (.bool false)), none, 0, none⟩,
 ⟨(some 17), .move (.tmp 16), none, 0, none⟩,
 ⟨(some 18), .fieldAddr 2 (.tmp 2), (some (17, true)), 0, none⟩,
 ⟨(some 19), .load false 1 (.tmp 18), (some (17, true)), 0, none⟩,
 ⟨(some 20), .fieldAddr 2 (.tmp 3), (some (17, true)), 0, none⟩,
 ⟨(some 21), .load false 1 (.tmp 20), (some (17, true)), 0, none⟩,
 ⟨(some 22), .bin .eql (.tmp 19) (.tmp 21), (some (17, true)), 0, none⟩,
 ⟨(some 23), .pick (.tmp 17) (.tmp 22) (.const (.bool false)), none, 0, none⟩,
 ⟨(some 24), .move (.tmp 23), none, 0, none⟩,
 ⟨(some 25), .fieldAddr 3 (.tmp 2), (some (24, true)), 0, none⟩,
 ⟨(some 26), .load false 1 (.tmp 25), (some (24, true)), 0, none⟩,
 ⟨(some 27), .fieldAddr 3 (.tmp 3), (some (24, true)), 0, none⟩,
 ⟨(some 28), .load false 1 (.tmp 27), (some (24, true)), 0, none⟩,
 ⟨(some 29), .bin .eql (.tmp 26) (.tmp 28), (some (24, true)), 0, none⟩,
 ⟨(some 30), .pick (.tmp 24) (.tmp 29) (.const (.bool false)), none, 0, none⟩,
 ⟨(some 31), .move (.tmp 30), none, 0, none⟩,
 ⟨(some 32), .fieldAddr 4 (.tmp 2), (some (31, true)), 0, none⟩,
 ⟨(some 33), .load false 1 (.tmp 32), (some (31, true)), 0, none⟩,
 ⟨(some 34), .fieldAddr 4 (.tmp 3), (some (31, true)), 0, none⟩,
 ⟨(some 35), .load false 1 (.tmp 34), (some (31, true)), 0, none⟩,
 ⟨(some 36), .bin .eql (.tmp 33) (.tmp 35), (some (31, true)), 0, none⟩,
 ⟨(some 37), .pick (.tmp 31) (.tmp 36) (.const (.bool false)), none, 0, none⟩,
 ⟨(some 38), .move (.tmp 37), none, 0, none⟩,
 ⟨(some 39), .fieldAddr 5 (.tmp 2), (some (38, true)), 0, none⟩,
 ⟨(some 40), .load false 1 (.tmp 39), (some (38, true)), 0, none⟩,
 ⟨(some 41), .fieldAddr 5 (.tmp 3), (some (38, true)), 0, none⟩,
 ⟨(some 42), .load false 1 (.tmp 41), (some (38, true)), 0, none⟩,
 ⟨(some 43), .bin .eql (.tmp 40) (.tmp 42), (some (38, true)), 0, none⟩,
 ⟨(some 44), .pick (.tmp 38) (.tmp 43) (.const (.bool false)), none, 0, none⟩,
 ⟨(some 45), .move (.tmp 44), none, 0, none⟩,
 ⟨(some 46), .fieldAddr 6 (.tmp 2), (some (45, true)), 0, none⟩,
 ⟨(some 47), .load true 4 (.tmp 46), (some (45, true)), 0, none⟩,
 ⟨(some 48), .fieldAddr 6 (.tmp 3), (some (45, true)), 0, none⟩,
 ⟨(some 49), .load true 4 (.tmp 48), (some (45, true)), 0, none⟩,
 ⟨(some 50), .eqAgg (false, [.int .i64, .int .i64, .int .i64, .int .i64]) (.tmp 47) (.tmp 49), (some (45, true)), 0, none⟩,
 ⟨(some 51), .pick (.tmp 45) (.tmp 50) (.const (.bool false)), none, 0, none⟩,
 ⟨(some 52), .move (.tmp 51), none, 0, none⟩,
 ⟨(some 53), .fieldAddr 10 (.tmp 2), (some (52, true)), 0, none⟩,
 ⟨(some 54), .load false 1 (.tmp 53), (some (52, true)), 0, none⟩,
 ⟨(some 55), .fieldAddr 10 (.tmp 3), (some (52, true)), 0, none⟩,
 ⟨(some 56), .load false 1 (.tmp 55), (some (52, true)), 0, none⟩,
 ⟨(some 57), .bin .eql (.tmp 54) (.tmp 56), (some (52, true)), 0, none⟩,
 ⟨(some 58), .pick (.tmp 52) (.tmp 57) (.const (.bool false)), none, 0, none⟩,
 ⟨(some 59), .move (.tmp 58), none, 0, none⟩,
 ⟨(some 60), .fieldAddr 11 (.tmp 2), (some (59, true)), 0, none⟩,
 ⟨(some 61), .load false 1 (.tmp 60), (some (59, true)), 0, none⟩,
 ⟨(some 62), .fieldAddr 11 (.tmp 3), (some (59, true)), 0, none⟩,
 ⟨(some 63), .load false 1 (.tmp 62), (some (59, true)), 0, none⟩,
 ⟨(some 64), .bin .eql (.tmp 61) (.tmp 63), (some (59, true)), 0, none⟩,
 ⟨(some 65), .pick (.tmp 59) (.tmp 64) (.const (.bool false)), none, 0, none⟩,
 ⟨(some 66), .move (.tmp 65), none, 0, none⟩,
 ⟨(some 67), .fieldAddr 12 (.tmp 2), (some (66, true)), 0, none⟩,
 ⟨(some 68), .load false 1 (.tmp 67), (some (66, true)), 0, none⟩,
 ⟨(some 69), .fieldAddr 12 (.tmp 3), (some (66, true)), 0, none⟩,
 ⟨(some 70), .load false 1 (.tmp 69), (some (66, true)), 0, none⟩,
 ⟨(some 71), .call (.func 89) [(false, (.tmp 68)), (false, (.tmp 70))] false 4, (some (66, true)), 0, none⟩,
 ⟨(some 72), .pick (.tmp 66) (.tmp 71) (.const (.bool false)), none, 4, none⟩,
 ⟨(some 73), .move (.tmp 72), none, 4, none⟩,
 ⟨(some 74), .fieldAddr 13 (.tmp 2), (some (73, true)), 4, none⟩,
 ⟨(some 75), .load false 1 (.tmp 74), (some (73, true)), 4, none⟩,
 ⟨(some 76), .fieldAddr 13 (.tmp 3), (some (73, true)), 4, none⟩,
 ⟨(some 77), .load false 1 (.tmp 76), (some (73, true)), 4, none⟩,
 ⟨(some 78), .bin .eql (.tmp 75) (.tmp 77), (some (73, true)), 4, none⟩,
 ⟨(some 79), .pick (.tmp 73) (.tmp 78) (.const (.bool false)), none, 4, none⟩,
 ⟨(some 80), .move (.tmp 79), none, 4, none⟩,
 ⟨(some 81), .fieldAddr 14 (.tmp 2), (some (80, true)), 4, none⟩,
 ⟨(some 82), .load false 1 (.tmp 81), (some (80, true)), 4, none⟩,
 ⟨(some 83), .fieldAddr 14 (.tmp 3), (some (80, true)), 4, none⟩,
 ⟨(some 84), .load false 1 (.tmp 83), (some (80, true)), 4, none⟩,
 ⟨(some 85), .bin .eql (.tmp 82) (.tmp 84), (some (80, true)), 4, none⟩,
 ⟨(some 86), .pick (.tmp 80) (.tmp 85) (.const (.bool false)), none, 4, none⟩,
 ⟨(some 87), .move (.tmp 86), none, 4, none⟩,
 ⟨(some 88), .fieldAddr 15 (.tmp 2), (some (87, true)), 4, none⟩,
 ⟨(some 89), .load false 1 (.tmp 88), (some (87, true)), 4, none⟩,
 ⟨(some 90), .fieldAddr 15 (.tmp 3), (some (87, true)), 4, none⟩,
 ⟨(some 91), .load false 1 (.tmp 90), (some (87, true)), 4, none⟩,
 ⟨(some 92), .bin .eql (.tmp 89) (.tmp 91), (some (87, true)), 4, none⟩,
 ⟨(some 93), .pick (.tmp 87) (.tmp 92) (.const (.bool false)), none, 4, none⟩,
 ⟨(some 94), .move (.tmp 93), none, 4, none⟩,
 ⟨(some 95), .fieldAddr 16 (.tmp 2), (some (94, true)), 4, none⟩,
 ⟨(some 96), .load false 1 (.tmp 95), (some (94, true)), 4, none⟩,
 ⟨(some 97), .fieldAddr 16 (.tmp 3), (some (94, true)), 4, none⟩,
 ⟨(some 98), .load false 1 (.tmp 97), (some (94, true)), 4, none⟩,
 ⟨(some 99), .bin .eql (.tmp 96) (.tmp 98), (some (94, true)), 4, none⟩,
 ⟨(some 100), .pick (.tmp 94) (.tmp 99) (.const (.bool false)), none, 4, none⟩,
 ⟨(some 4), .move (.tmp 100), none, 4, none⟩] []) (.ret)), [.tmp 4], true⟩
def s61 : Sig := ⟨(.cons (.v .request) (.cons (.v .request) .nil)), [], ((.v .bool), []), []⟩
def F61 (L : Lp) (g89 : (List Dep) → (List Dep) → Option Bool) (a0 : Request) (b1 : Request) : Option Bool :=
 cond (decide (a0.kind = b1.kind))
 (cond (decide (a0.key = b1.key))
 (cond (decide (a0.job = b1.job))
 (cond (decide (a0.version = b1.version))
 (cond (decide (a0.queue = b1.queue))
 (cond (decide (a0.many = b1.many))
 (cond ((decide (a0.need.cpu = b1.need.cpu)) && ((decide (a0.need.mem = b1.need.mem)) && ((decide (a0.need.gpu = b1.need.gpu)) && ((decide (a0.need.lic = b1.need.lic)) && true))))
 (cond (decide (a0.wall = b1.wall))
 (cond (decide (a0.tasks = b1.tasks))
 (Option.bind (g89 a0.after b1.after) fun r2 =>
 cond r2
 (cond (decide (a0.node = b1.node))
 (cond (decide (a0.fro = b1.fro))
 (cond (decide (a0.to = b1.to))
 (some (decide (a0.id = b1.id)))
 (some false))
 (some false))
 (some false))
 (some false))
 (some false))
 (some false))
 (some false))
 (some false))
 (some false))
 (some false))
 (some false))
 (some false))
 (some false)
theorem e61 (L : Lp) (g89 : (List Dep) → (List Dep) → Option Bool) (x : s61.args.den) (h : denH s61.heap) : nrun [⟨89, s89, fun x h => g89 x.1 x.2.1⟩] L n61 s61 x h = F61 L g89 x.1 x.2.1 := by kernel_rfl
def f61 : Request → Request → Option Bool := F61 (@LN LOOPS) f89
@[reducible] def t61 : Ent := ⟨61, s61, fun x h => f61 x.1 x.2.1⟩
theorem k61 : chkNF Try.prog Try.f61 n61 = true := by kernel_rfl
theorem ok61 : NOk Try.prog t61 := NOk.body (T := [t89]) mixed (nall_cons ok89 nall_nil) (oneEach_of (by kernel_rfl)) Try.func61 k61 (by kernel_rfl) (fun x h => e61 _ _ x h)
/- drayage/ask.Right -/
def n54 : NFunc := ⟨56, .seq (.region 1 [
 ⟨(some 1), .box 17 (.tmp 0), none, 0, none⟩,
 ⟨(some 2), .move (.const (.bool false)), none, 1, none⟩] []) (.seq (.seq (.region 8 [
 ⟨(some 6), .fieldAddr 0 (.tmp 1), none, 0, none⟩,
 ⟨(some 7), .load false 1 (.tmp 6), none, 0, none⟩,
 ⟨(some 8), .call (.func 80) [(false, (.tmp 7))] false 4, none, 0, none⟩,
 ⟨(some 9), .un .not (.tmp 8), none, 4, none⟩,
 ⟨(some 10), .move (.tmp 9), none, 4, none⟩,
 ⟨(some 11), .fieldAddr 1 (.tmp 1), (some (10, false)), 4, none⟩,
 ⟨(some 12), .load false 1 (.tmp 11), (some (10, false)), 4, none⟩,
 ⟨(some 13), .bin .lss (.tmp 12) (.const (.int .i64 (1))), (some (10, false)), 4, none⟩,
 ⟨(some 14), .pick (.tmp 10) (.const (.bool true)) (.tmp 13), none, 4, none⟩,
 ⟨(some 15), .move (.tmp 14), none, 4, none⟩,
 ⟨(some 16), .fieldAddr 1 (.tmp 1), (some (15, false)), 4, none⟩,
 ⟨(some 17), .load false 1 (.tmp 16), (some (15, false)), 4, none⟩,
 ⟨(some 18), .bin .gtr (.tmp 17) (.const (.int .i64 (1073741824))), (some (15, false)), 4, none⟩,
 ⟨(some 19), .pick (.tmp 15) (.const (.bool true)) (.tmp 18), none, 4, none⟩,
 ⟨(some 20), .move (.tmp 19), none, 4, none⟩,
 ⟨(some 21), .fieldAddr 0 (.tmp 1), (some (20, false)), 4, none⟩,
 ⟨(some 22), .load false 1 (.tmp 21), (some (20, false)), 4, none⟩,
 ⟨(some 23), .fieldAddr 12 (.tmp 1), (some (20, false)), 4, none⟩,
 ⟨(some 24), .load false 1 (.tmp 23), (some (20, false)), 4, none⟩,
 ⟨(some 25), .call (.func 81) [(false, (.tmp 22)), (false, (.tmp 24))] false 4, (some (20, false)), 4, none⟩,
 ⟨(some 26), .un .not (.tmp 25), (some (20, false)), 8, none⟩,
 ⟨(some 27), .pick (.tmp 20) (.const (.bool true)) (.tmp 26), none, 8, none⟩] []) (.cond (.tmp 27) (.seq (.region 0 [
 ⟨(some 2), .move (.const (.bool false)), none, 0, none⟩] []) (.ret)) (.skip))) (.seq (.region 1 [
 ⟨(some 28), .load true 17 (.tmp 1), none, 0, none⟩,
 ⟨(some 3), .alloc [.int .i64 (0), .int .i64 (0), .int .i64 (0), .int .i64 (0), .int .i64 (0), .int .i64 (0), .int .i64 (0), .int .i64 (0), .int .i64 (0), .int .i64 (0), .int .i64 (0), .int .i64 (0), .zsl, .int .i64 (0), .int .i64 (0), .int .i64 (0), .int .i64 (0)], none, 0, none⟩,
 ⟨none, .store 17 (.tmp 3) (.tmp 28), none, 1, none⟩] []) (.seq (.region 0 [
 ⟨(some 29), .fieldAddr 12 (.tmp 3), none, 0, none⟩,
 ⟨none, .store 1 (.tmp 29) (.const (.zsl)), none, 0, none⟩] []) (.seq (.join [1, 3] [] ⟨[(1, (.ptr 0 0 0)), (3, (.ptr 1 0 0))], [], [.one false .request, .one false .request]⟩ (.seq (.region 4 [
 ⟨(some 30), .call (.func 82) [(true, (.tmp 3))] false 4, none, 0, none⟩,
 ⟨(some 31), .len (.tmp 30), none, 4, none⟩,
 ⟨(some 32), .move (.const (.int .i64 (0))), none, 4, none⟩] []) (.block 0 (.loopU [1, 3, 30, 31, 32] 9 (.seq (.region 0 [
 ⟨(some 33), .bin .lss (.tmp 32) (.tmp 31), none, 0, none⟩] []) (.seq (.cond (.tmp 33) (.skip) (.exit 0)) (.seq (.block 1 (.seq (.region 0 [
 ⟨(some 34), .indexSl 1 (.tmp 30) (.tmp 32), none, 0, none⟩,
 ⟨(some 35), .load false 1 (.tmp 34), none, 0, none⟩,
 ⟨(some 5), .move (.tmp 35), none, 0, none⟩] []) (.seq (.seq (.region 0 [
 ⟨(some 36), .move (.tmp 5), none, 0, none⟩,
 ⟨(some 37), .nilCheck (.tmp 36), none, 0, none⟩,
 ⟨(some 38), .load false 1 (.tmp 37), none, 0, none⟩,
 ⟨(some 39), .bin .lss (.tmp 38) (.const (.int .i64 (0))), none, 0, none⟩,
 ⟨(some 40), .move (.tmp 39), none, 0, none⟩,
 ⟨(some 41), .move (.tmp 5), (some (40, false)), 0, none⟩,
 ⟨(some 42), .nilCheck (.tmp 41), (some (40, false)), 0, none⟩,
 ⟨(some 43), .load false 1 (.tmp 42), (some (40, false)), 0, none⟩,
 ⟨(some 44), .bin .gtr (.tmp 43) (.const (.int .i64 (281474976710656))), (some (40, false)), 0, none⟩,
 ⟨(some 45), .pick (.tmp 40) (.const (.bool true)) (.tmp 44), none, 0, none⟩] []) (.cond (.tmp 45) (.seq (.region 0 [
 ⟨(some 2), .move (.const (.bool false)), none, 0, none⟩] []) (.ret)) (.skip))) (.region 0 [
 ⟨(some 46), .move (.tmp 5), none, 0, none⟩,
 ⟨(some 47), .nilCheck (.tmp 46), none, 0, none⟩,
 ⟨none, .store 1 (.tmp 47) (.const (.int .i64 (0))), none, 0, none⟩] [])))) (.region 0 [
 ⟨(some 48), .bin .add (.tmp 32) (.const (.int .i64 (1))), none, 0, none⟩,
 ⟨(some 32), .move (.tmp 48), none, 0, none⟩] [])))))))) (.seq (.region 4 [
 ⟨(some 49), .load true 17 (.tmp 3), none, 0, none⟩,
 ⟨(some 50), .fieldAddr 0 (.tmp 1), none, 0, none⟩,
 ⟨(some 51), .load false 1 (.tmp 50), none, 0, none⟩,
 ⟨(some 52), .fieldAddr 1 (.tmp 1), none, 0, none⟩,
 ⟨(some 53), .load false 1 (.tmp 52), none, 0, none⟩,
 ⟨(some 54), .build [.int .i64 (0), .int .i64 (0), .int .i64 (0), .int .i64 (0), .int .i64 (0), .int .i64 (0), .int .i64 (0), .int .i64 (0), .int .i64 (0), .int .i64 (0), .int .i64 (0), .int .i64 (0), .zsl, .int .i64 (0), .int .i64 (0), .int .i64 (0), .int .i64 (0)] [(0, 1, (.tmp 51)), (1, 1, (.tmp 53))], none, 0, none⟩,
 ⟨(some 55), .call (.func 61) [(false, (.tmp 49)), (false, (.tmp 54))] false 4, none, 0, none⟩,
 ⟨(some 2), .move (.tmp 55), none, 4, none⟩] []) (.ret)))))), [.tmp 2], true⟩
def s54 : Sig := ⟨(.cons (.v .request) .nil), [], ((.v .bool), []), []⟩
def F54 (L : Lp) (g80 : Int → Option Bool) (g81 : Int → (List Dep) → Option Bool) (g82 : Request → Option y82) (g61 : Request → Request → Option Bool) (ar0 : Request) : Option Bool :=
 Option.bind (g80 ar0.kind) fun r1 =>
 cond (!r1)
 (some false)
 (cond (decide (ar0.key < 1))
 (some false)
 (cond (decide (1073741824 < ar0.key))
 (some false)
 (Option.bind (g81 ar0.kind ar0.after) fun r2 =>
 cond (!r2)
 (some false)
 (Option.bind (α := (((Unit × (Unit × Unit)) × (Request × (Request × Unit))) ⊕ Bool))
 (Option.bind (g82 (Request.mk ar0.kind ar0.key ar0.job ar0.version ar0.queue ar0.many ar0.need ar0.wall ar0.tasks [] ar0.node ar0.fro ar0.to ar0.id)) (Sum.elim (fun r3 =>
 cond (decide (r3.2.1.node < 0))
 (some (.inr false))
 (cond (decide (281474976710656 < r3.2.1.node))
 (some (.inr false))
 (cond (decide (r3.2.1.fro < 0))
 (some (.inr false))
 (cond (decide (281474976710656 < r3.2.1.fro))
 (some (.inr false))
 (cond (decide (r3.2.1.to < 0))
 (some (.inr false))
 (cond (decide (281474976710656 < r3.2.1.to))
 (some (.inr false))
 (some (.inl (((), (), ()), (ar0, Request.mk r3.2.1.kind r3.2.1.key r3.2.1.job r3.2.1.version r3.2.1.queue r3.2.1.many r3.2.1.need r3.2.1.wall r3.2.1.tasks r3.2.1.after 0 0 0 r3.2.1.id, ())))))))))) (Sum.elim (fun r4 =>
 some (.inl (((), (), ()), (ar0, r4.2.1, ())))) (Sum.elim (fun r5 =>
 cond (decide (r5.2.1.queue < 0))
 (some (.inr false))
 (cond (decide (281474976710656 < r5.2.1.queue))
 (some (.inr false))
 (some (.inl (((), (), ()), (ar0, Request.mk r5.2.1.kind r5.2.1.key r5.2.1.job r5.2.1.version 0 r5.2.1.many r5.2.1.need r5.2.1.wall r5.2.1.tasks r5.2.1.after r5.2.1.node r5.2.1.fro r5.2.1.to r5.2.1.id, ())))))) (Sum.elim (fun r6 =>
 cond (decide (r6.2.1.job < 0))
 (some (.inr false))
 (cond (decide (281474976710656 < r6.2.1.job))
 (some (.inr false))
 (some (.inl (((), (), ()), (ar0, Request.mk r6.2.1.kind r6.2.1.key 0 r6.2.1.version r6.2.1.queue r6.2.1.many r6.2.1.need r6.2.1.wall r6.2.1.tasks r6.2.1.after r6.2.1.node r6.2.1.fro r6.2.1.to r6.2.1.id, ())))))) (Sum.elim (fun r7 =>
 cond (decide (r7.2.1.job < 0))
 (some (.inr false))
 (cond (decide (281474976710656 < r7.2.1.job))
 (some (.inr false))
 (cond (decide (r7.2.1.version < 0))
 (some (.inr false))
 (cond (decide (281474976710656 < r7.2.1.version))
 (some (.inr false))
 (cond (decide (r7.2.1.queue < 0))
 (some (.inr false))
 (cond (decide (281474976710656 < r7.2.1.queue))
 (some (.inr false))
 (some (.inl (((), (), ()), (ar0, Request.mk r7.2.1.kind r7.2.1.key 0 0 0 r7.2.1.many r7.2.1.need r7.2.1.wall r7.2.1.tasks r7.2.1.after r7.2.1.node r7.2.1.fro r7.2.1.to r7.2.1.id, ())))))))))) (Sum.elim (fun r8 =>
 cond (decide (r8.2.1.job < 0))
 (some (.inr false))
 (cond (decide (281474976710656 < r8.2.1.job))
 (some (.inr false))
 (cond (decide (r8.2.1.version < 0))
 (some (.inr false))
 (cond (decide (281474976710656 < r8.2.1.version))
 (some (.inr false))
 (some (.inl (((), (), ()), (ar0, Request.mk r8.2.1.kind r8.2.1.key 0 0 r8.2.1.queue r8.2.1.many r8.2.1.need r8.2.1.wall r8.2.1.tasks r8.2.1.after r8.2.1.node r8.2.1.fro r8.2.1.to r8.2.1.id, ())))))))) (Sum.elim (fun r9 =>
 cond (decide (r9.2.1.job < 0))
 (some (.inr false))
 (cond (decide (281474976710656 < r9.2.1.job))
 (some (.inr false))
 (cond (decide (r9.2.1.version < 0))
 (some (.inr false))
 (cond (decide (281474976710656 < r9.2.1.version))
 (some (.inr false))
 (cond (decide (r9.2.1.many < 0))
 (some (.inr false))
 (cond (decide (281474976710656 < r9.2.1.many))
 (some (.inr false))
 (cond (decide (r9.2.1.need.cpu < 0))
 (some (.inr false))
 (cond (decide (281474976710656 < r9.2.1.need.cpu))
 (some (.inr false))
 (cond (decide (r9.2.1.need.mem < 0))
 (some (.inr false))
 (cond (decide (281474976710656 < r9.2.1.need.mem))
 (some (.inr false))
 (cond (decide (r9.2.1.need.gpu < 0))
 (some (.inr false))
 (cond (decide (281474976710656 < r9.2.1.need.gpu))
 (some (.inr false))
 (cond (decide (r9.2.1.need.lic < 0))
 (some (.inr false))
 (cond (decide (281474976710656 < r9.2.1.need.lic))
 (some (.inr false))
 (cond (decide (r9.2.1.wall < 0))
 (some (.inr false))
 (cond (decide (281474976710656 < r9.2.1.wall))
 (some (.inr false))
 (some (.inl (((), (), ()), (ar0, Request.mk r9.2.1.kind r9.2.1.key 0 0 r9.2.1.queue 0 (Res.mk 0 0 0 0) 0 r9.2.1.tasks r9.2.1.after r9.2.1.node r9.2.1.fro r9.2.1.to r9.2.1.id, ())))))))))))))))))))) (Sum.elim (fun r10 =>
 cond (decide (r10.2.1.queue < 0))
 (some (.inr false))
 (cond (decide (281474976710656 < r10.2.1.queue))
 (some (.inr false))
 (cond (decide (r10.2.1.many < 0))
 (some (.inr false))
 (cond (decide (281474976710656 < r10.2.1.many))
 (some (.inr false))
 (cond (decide (r10.2.1.need.cpu < 0))
 (some (.inr false))
 (cond (decide (281474976710656 < r10.2.1.need.cpu))
 (some (.inr false))
 (cond (decide (r10.2.1.need.mem < 0))
 (some (.inr false))
 (cond (decide (281474976710656 < r10.2.1.need.mem))
 (some (.inr false))
 (cond (decide (r10.2.1.need.gpu < 0))
 (some (.inr false))
 (cond (decide (281474976710656 < r10.2.1.need.gpu))
 (some (.inr false))
 (cond (decide (r10.2.1.need.lic < 0))
 (some (.inr false))
 (cond (decide (281474976710656 < r10.2.1.need.lic))
 (some (.inr false))
 (cond (decide (r10.2.1.wall < 0))
 (some (.inr false))
 (cond (decide (281474976710656 < r10.2.1.wall))
 (some (.inr false))
 (cond (decide (r10.2.1.tasks < 0))
 (some (.inr false))
 (cond (decide (281474976710656 < r10.2.1.tasks))
 (some (.inr false))
 (some (.inl (((), (), ()), (ar0, Request.mk r10.2.1.kind r10.2.1.key r10.2.1.job r10.2.1.version 0 0 (Res.mk 0 0 0 0) 0 0 r10.2.1.after r10.2.1.node r10.2.1.fro r10.2.1.to r10.2.1.id, ())))))))))))))))))))) (fun r11 =>
 cond (decide (r11.2.1.id < 0))
 (some (.inr false))
 (cond (decide (281474976710656 < r11.2.1.id))
 (some (.inr false))
 (some (.inl (((), (), ()), (ar0, Request.mk r11.2.1.kind r11.2.1.key r11.2.1.job r11.2.1.version r11.2.1.queue r11.2.1.many r11.2.1.need r11.2.1.wall r11.2.1.tasks r11.2.1.after r11.2.1.node r11.2.1.fro r11.2.1.to 0, ()))))))))))))))) (Sum.elim (fun x12 =>
 Option.bind (g61 x12.2.2.1 (Request.mk x12.2.1.kind x12.2.1.key 0 0 0 0 (Res.mk 0 0 0 0) 0 0 [] 0 0 0 0)) fun r13 =>
 some r13) some)))))
theorem e54 (L : Lp) (g80 : Int → Option Bool) (g81 : Int → (List Dep) → Option Bool) (g82 : Request → Option y82) (g61 : Request → Request → Option Bool) (x : s54.args.den) (h : denH s54.heap) : nrun [⟨80, s80, fun x h => g80 x.1⟩, ⟨81, s81, fun x h => g81 x.1 x.2.1⟩, ⟨82, s82, fun x h => g82 h.1⟩, ⟨61, s61, fun x h => g61 x.1 x.2.1⟩] L n54 s54 x h = F54 L g80 g81 g82 g61 x.1 := by kernel_rfl
def f54 : Request → Option Bool := F54 (@LN LOOPS) f80 f81 f82 f61
@[reducible] def t54 : Ent := ⟨54, s54, fun x h => f54 x.1⟩
theorem k54 : chkNF Try.prog Try.f54 n54 = true := by kernel_rfl
theorem ok54 : NOk Try.prog t54 := NOk.body (T := [t80, t81, t82, t61]) mixed (nall_cons ok80 (nall_cons ok81 (nall_cons ok82 (nall_cons ok61 nall_nil)))) (oneEach_of (by kernel_rfl)) Try.func54 k54 (by kernel_rfl) (fun x h => e54 _ _ _ _ _ x h)
/- slices.BinarySearchFunc[[]drayage/api.Entry,drayage/api.Entry,int] -/
def n83 : NFunc := ⟨49, .seq (.region 0 [
 ⟨(some 6), .move (.const (.int .i64 (0))), none, 0, none⟩,
 ⟨(some 7), .move (.const (.bool false)), none, 0, none⟩] []) (.seq (.region 0 [
 ⟨(some 12), .move (.tmp 0), none, 0, none⟩,
 ⟨(some 13), .len (.tmp 12), none, 0, none⟩,
 ⟨(some 8), .move (.tmp 13), none, 0, none⟩] []) (.seq (.region 0 [
 ⟨(some 14), .move (.tmp 8), none, 0, none⟩,
 ⟨(some 9), .move (.const (.int .i64 (0))), none, 0, none⟩,
 ⟨(some 10), .move (.tmp 14), none, 0, none⟩] []) (.seq (.block 0 (.loopU [0, 1, 2, 8, 9, 10] 1 (.seq (.seq (.region 0 [
 ⟨(some 15), .move (.tmp 9), none, 0, none⟩,
 ⟨(some 16), .move (.tmp 10), none, 0, none⟩,
 ⟨(some 17), .bin .lss (.tmp 15) (.tmp 16), none, 0, none⟩] []) (.cond (.tmp 17) (.skip) (.exit 0))) (.block 1 (.seq (.region 0 [
 ⟨(some 18), .move (.tmp 9), none, 0, none⟩,
 ⟨(some 19), .move (.tmp 10), none, 0, none⟩,
 ⟨(some 20), .bin .add (.tmp 18) (.tmp 19), none, 0, none⟩,
 ⟨(some 21), .conv .u64 (.tmp 20), none, 0, none⟩,
 ⟨(some 22), .bin .shr (.tmp 21) (.const (.int .u64 (1))), none, 0, none⟩,
 ⟨(some 23), .conv .i64 (.tmp 22), none, 0, none⟩,
 ⟨(some 11), .move (.tmp 23), none, 0, none⟩] []) (.seq (.region 4 [
 ⟨(some 24), .move (.tmp 2), none, 0, none⟩,
 ⟨(some 25), .move (.tmp 0), none, 0, none⟩,
 ⟨(some 26), .move (.tmp 11), none, 0, none⟩,
 ⟨(some 27), .indexSl 26 (.tmp 25) (.tmp 26), none, 0, none⟩,
 ⟨(some 28), .load true 26 (.tmp 27), none, 0, none⟩,
 ⟨(some 29), .move (.tmp 1), none, 0, none⟩,
 ⟨(some 30), .call (.tmp 24) [(false, (.tmp 28)), (false, (.tmp 29))] false 4, none, 0, none⟩,
 ⟨(some 31), .bin .lss (.tmp 30) (.const (.int .i64 (0))), none, 4, none⟩] []) (.cond (.tmp 31) (.region 0 [
 ⟨(some 32), .move (.tmp 11), none, 0, none⟩,
 ⟨(some 33), .bin .add (.tmp 32) (.const (.int .i64 (1))), none, 0, none⟩,
 ⟨(some 9), .move (.tmp 33), none, 0, none⟩] []) (.region 0 [
 ⟨(some 34), .move (.tmp 11), none, 0, none⟩,
 ⟨(some 10), .move (.tmp 34), none, 0, none⟩] [])))))))) (.seq (.region 4 [
 ⟨(some 35), .move (.tmp 9), none, 0, none⟩,
 ⟨(some 36), .move (.tmp 9), none, 0, none⟩,
 ⟨(some 37), .move (.tmp 8), none, 0, none⟩,
 ⟨(some 38), .bin .lss (.tmp 36) (.tmp 37), none, 0, none⟩,
 ⟨(some 39), .move (.tmp 38), none, 0, none⟩,
 ⟨(some 40), .move (.tmp 2), (some (39, true)), 0, none⟩,
 ⟨(some 41), .move (.tmp 0), (some (39, true)), 0, none⟩,
 ⟨(some 42), .move (.tmp 9), (some (39, true)), 0, none⟩,
 ⟨(some 43), .indexSl 26 (.tmp 41) (.tmp 42), (some (39, true)), 0, none⟩,
 ⟨(some 44), .load true 26 (.tmp 43), (some (39, true)), 0, none⟩,
 ⟨(some 45), .move (.tmp 1), (some (39, true)), 0, none⟩,
 ⟨(some 46), .call (.tmp 40) [(false, (.tmp 44)), (false, (.tmp 45))] false 4, (some (39, true)), 0, none⟩,
 ⟨(some 47), .bin .eql (.tmp 46) (.const (.int .i64 (0))), (some (39, true)), 4, none⟩,
 ⟨(some 48), .pick (.tmp 39) (.tmp 47) (.const (.bool false)), none, 4, none⟩,
 ⟨(some 6), .move (.tmp 35), none, 4, none⟩,
 ⟨(some 7), .move (.tmp 48), none, 4, none⟩] []) (.ret))))), [.tmp 6, .tmp 7], false⟩
def s83 : Sig := ⟨(.cons .zsl (.cons (.v (.int .i64)) (.cons (.fn 84 .nil) .nil))), [], ((.tup (.cons (.v (.int .i64)) (.cons (.v .bool) .nil))), []), []⟩
def F83 (L : Lp)  (target0 : Int) : Option (Int × (Bool × Unit)) :=
 some (0, false, ())
theorem e83 (L : Lp)  (x : s83.args.den) (h : denH s83.heap) : nrun [] L n83 s83 x h = F83 L  x.2.1 := by kernel_rfl
def f83 : Int → Option (Int × (Bool × Unit)) := F83 (@LN LOOPS) 
@[reducible] def t83 : Ent := ⟨83, s83, fun x h => f83 x.2.1⟩
theorem k83 : chkNF Try.prog Try.f83 n83 = true := by kernel_rfl
theorem ok83 : NOk Try.prog t83 := NOk.body (T := []) mixed nall_nil (oneEach_of (by kernel_rfl)) Try.func83 k83 (by kernel_rfl) (fun x h => e83 _  x h)
/- (*drayage/keys.known).find -/
def n55 : NFunc := ⟨14, .seq (.region 0 [
 ⟨(some 4), .move (.const (.int .i64 (0))), none, 0, none⟩,
 ⟨(some 5), .move (.const (.bool false)), none, 0, none⟩] []) (.seq (.region 4 [
 ⟨(some 6), .move (.tmp 0), none, 0, none⟩,
 ⟨(some 7), .nilCheck (.tmp 6), none, 0, none⟩,
 ⟨(some 8), .fieldAddr 1 (.tmp 7), none, 0, none⟩,
 ⟨(some 9), .load false 1 (.tmp 8), none, 0, none⟩,
 ⟨(some 10), .move (.tmp 1), none, 0, none⟩,
 ⟨(some 11), .call (.func 83) [(true, (.tmp 9)), (false, (.tmp 10)), (false, (.func 84))] false 4, none, 0, none⟩,
 ⟨(some 12), .extract (.tmp 11) 0, none, 4, none⟩,
 ⟨(some 13), .extract (.tmp 11) 1, none, 4, none⟩,
 ⟨(some 4), .move (.tmp 12), none, 4, none⟩,
 ⟨(some 5), .move (.tmp 13), none, 4, none⟩] []) (.ret)), [.tmp 4, .tmp 5], true⟩
def s55 : Sig := ⟨(.cons (.ptr 0 0 0) (.cons (.v (.int .i64)) .nil)), [.cell false (.cons (.v (.int .i64)) (.cons .zsl .nil))], ((.tup (.cons (.v (.int .i64)) (.cons (.v .bool) .nil))), [.cell false (.cons (.v (.int .i64)) (.cons .zsl .nil))]), []⟩
def F55 (L : Lp) (g83 : Int → Option (Int × (Bool × Unit))) (key0 : Int) (a1 : Int) : Option ((Int × (Bool × Unit)) × ((Int × (Unit × Unit)) × Unit)) :=
 Option.bind (g83 key0) fun r2 =>
 some ((r2.1, r2.2.1, ()), ((a1, (), ()), ()))
theorem e55 (L : Lp) (g83 : Int → Option (Int × (Bool × Unit))) (x : s55.args.den) (h : denH s55.heap) : nrun [⟨83, s83, fun x h => g83 x.2.1⟩] L n55 s55 x h = F55 L g83 x.2.1 h.1.1 := by kernel_rfl
def f55 : Int → Int → Option ((Int × (Bool × Unit)) × ((Int × (Unit × Unit)) × Unit)) := F55 (@LN LOOPS) f83
@[reducible] def t55 : Ent := ⟨55, s55, fun x h => f55 x.2.1 h.1.1⟩
theorem k55 : chkNF Try.prog Try.f55 n55 = true := by kernel_rfl
theorem ok55 : NOk Try.prog t55 := NOk.body (T := [t83]) mixed (nall_cons ok83 nall_nil) (oneEach_of (by kernel_rfl)) Try.func55 k55 (by kernel_rfl) (fun x h => e55 _ _ x h)
/- slices.Clone[[]drayage/api.Dep,drayage/api.Dep] -/
def n72 : NFunc := ⟨8, .seq (.region 0 [
 ⟨(some 2), .move (.const (.zsl)), none, 0, none⟩] []) (.seq (.seq (.region 0 [
 ⟨(some 3), .move (.tmp 0), none, 0, none⟩,
 ⟨(some 4), .eqI false (.tmp 3) (.const (.zsl)), none, 0, none⟩] []) (.cond (.tmp 4) (.seq (.region 0 [
 ⟨(some 2), .move (.const (.zsl)), none, 0, none⟩] []) (.ret)) (.skip))) (.seq (.region 2 [
 ⟨(some 5), .buildSlice 2 0 true [.int .i64 (0), .bool false] [], none, 0, none⟩,
 ⟨(some 6), .move (.tmp 0), none, 1, none⟩,
 ⟨(some 7), .append 2 16 true (.tmp 5) (.tmp 6), none, 1, none⟩,
 ⟨(some 2), .move (.tmp 7), none, 2, none⟩] []) (.ret))), [.tmp 2], false⟩
def s72 : Sig := ⟨(.cons (.v (.list .dep)) .nil), [], ((.slw 0 2), [.typed .dep]), []⟩
def F72 (L : Lp)  (as0 : (List Dep)) : Option (Unit × ((List Dep) × Unit)) :=
 cond (List.isEmpty as0)
 (none)
 (cond (smallB (0 + (List.length as0)) 16)
 (some ((), ([] ++ as0, ())))
 (none))
theorem e72 (L : Lp)  (x : s72.args.den) (h : denH s72.heap) : nrun [] L n72 s72 x h = F72 L  x.1 := by kernel_rfl
def f72 : (List Dep) → Option (Unit × ((List Dep) × Unit)) := cloneF (F72 (@LN LOOPS))
@[reducible] def t72 : Ent := ⟨72, s72, fun x h => f72 x.1⟩
theorem k72 : chkNF Try.prog Try.f72 n72 = true := by kernel_rfl
theorem c72 (A : Option Addr) (c : Nat) (w : World) : Calls Try.prog 72 #[.slice A 0 c] w (fun e w' => ∃ A', e = .returned (.slice A' 0 0) ∧ Go.RowKit.Below w.heap.size w w') := by
 have hq := fun (u : World) => Lib.run_eql_slice_nil (P := Try.prog) u 27 48 A 0 c 0 0 Try.underlying27
 cases A with
 | none => (go_enter Try.func72, Try.ntmps72; go_wp2; go_ret; exact ⟨_, rfl, Go.RowKit.Below.refl _ _⟩)
 | some ad => (go_enter Try.func72, Try.ntmps72; go_wp2; go_ret; exact ⟨_, rfl, (Go.RowKit.Below.refl _ _).alloc (Nat.le_refl _) _⟩)
theorem b72 : NOk Try.prog ⟨72, s72, fun x h => F72 (@LN LOOPS) x.1⟩ := NOk.body (T := []) mixed nall_nil (oneEach_of (by kernel_rfl)) Try.func72 k72 (by kernel_rfl) (fun x h => e72 _  x h)
theorem ok72 : NOk Try.prog t72 := NOk.clone (t := .dep) b72 (clone_empty .dep b72.1 c72)
/- drayage/keys.copyRequest -/
def n56 : NFunc := ⟨8, .seq (.region 2 [
 ⟨(some 1), .box 17 (.tmp 0), none, 0, none⟩,
 ⟨(some 2), .alloc [.int .i64 (0), .int .i64 (0), .int .i64 (0), .int .i64 (0), .int .i64 (0), .int .i64 (0), .int .i64 (0), .int .i64 (0), .int .i64 (0), .int .i64 (0), .int .i64 (0), .int .i64 (0), .zsl, .int .i64 (0), .int .i64 (0), .int .i64 (0), .int .i64 (0)], none, 1, none⟩] []) (.seq (.region 4 [
 ⟨(some 3), .fieldAddr 12 (.tmp 1), none, 0, none⟩,
 ⟨(some 4), .load false 1 (.tmp 3), none, 0, none⟩,
 ⟨(some 5), .call (.func 72) [(false, (.tmp 4))] false 4, none, 0, none⟩,
 ⟨(some 6), .fieldAddr 12 (.tmp 1), none, 4, none⟩,
 ⟨none, .store 1 (.tmp 6) (.tmp 5), none, 4, none⟩] []) (.seq (.region 0 [
 ⟨(some 7), .load true 17 (.tmp 1), none, 0, none⟩,
 ⟨none, .store 17 (.tmp 2) (.tmp 7), none, 0, none⟩] []) (.ret))), [.cell true 17 2], true⟩
def s56 : Sig := ⟨(.cons (.v .request) .nil), [], ((.v .request), []), []⟩
def F56 (L : Lp) (g72 : (List Dep) → Option (Unit × ((List Dep) × Unit))) (ar0 : Request) : Option Request :=
 Option.bind (g72 ar0.after) fun r1 =>
 some (Request.mk ar0.kind ar0.key ar0.job ar0.version ar0.queue ar0.many ar0.need ar0.wall ar0.tasks r1.2.1 ar0.node ar0.fro ar0.to ar0.id)
theorem e56 (L : Lp) (g72 : (List Dep) → Option (Unit × ((List Dep) × Unit))) (x : s56.args.den) (h : denH s56.heap) : nrun [⟨72, s72, fun x h => g72 x.1⟩] L n56 s56 x h = F56 L g72 x.1 := by kernel_rfl
def f56 : Request → Option Request := F56 (@LN LOOPS) f72
@[reducible] def t56 : Ent := ⟨56, s56, fun x h => f56 x.1⟩
theorem k56 : chkNF Try.prog Try.f56 n56 = true := by kernel_rfl
theorem ok56 : NOk Try.prog t56 := NOk.body (T := [t72]) mixed (nall_cons ok72 nall_nil) (oneEach_of (by kernel_rfl)) Try.func56 k56 (by kernel_rfl) (fun x h => e56 _ _ x h)
/- slices.Clone[[]int,int] -/
def n86 : NFunc := ⟨8, .seq (.region 0 [
 ⟨(some 2), .move (.const (.zsl)), none, 0, none⟩] []) (.seq (.seq (.region 0 [
 ⟨(some 3), .move (.tmp 0), none, 0, none⟩,
 ⟨(some 4), .eqI false (.tmp 3) (.const (.zsl)), none, 0, none⟩] []) (.cond (.tmp 4) (.seq (.region 0 [
 ⟨(some 2), .move (.const (.zsl)), none, 0, none⟩] []) (.ret)) (.skip))) (.seq (.region 2 [
 ⟨(some 5), .buildSlice 1 0 true [.int .i64 (0)] [], none, 0, none⟩,
 ⟨(some 6), .move (.tmp 0), none, 1, none⟩,
 ⟨(some 7), .append 1 8 true (.tmp 5) (.tmp 6), none, 1, none⟩,
 ⟨(some 2), .move (.tmp 7), none, 2, none⟩] []) (.ret))), [.tmp 2], false⟩
def s86 : Sig := ⟨(.cons (.v (.list (.int .i64))) .nil), [], ((.slw 0 1), [.typed (.int .i64)]), []⟩
def F86 (L : Lp)  (as0 : (List Int)) : Option (Unit × ((List Int) × Unit)) :=
 cond (List.isEmpty as0)
 (none)
 (cond (smallB (0 + (List.length as0)) 8)
 (some ((), ([] ++ as0, ())))
 (none))
theorem e86 (L : Lp)  (x : s86.args.den) (h : denH s86.heap) : nrun [] L n86 s86 x h = F86 L  x.1 := by kernel_rfl
def f86 : (List Int) → Option (Unit × ((List Int) × Unit)) := cloneF (F86 (@LN LOOPS))
@[reducible] def t86 : Ent := ⟨86, s86, fun x h => f86 x.1⟩
theorem k86 : chkNF Try.prog Try.f86 n86 = true := by kernel_rfl
theorem c86 (A : Option Addr) (c : Nat) (w : World) : Calls Try.prog 86 #[.slice A 0 c] w (fun e w' => ∃ A', e = .returned (.slice A' 0 0) ∧ Go.RowKit.Below w.heap.size w w') := by
 have hq := fun (u : World) => Lib.run_eql_slice_nil (P := Try.prog) u 60 3 A 0 c 0 0 Try.underlying60
 cases A with
 | none => (go_enter Try.func86, Try.ntmps86; go_wp2; go_ret; exact ⟨_, rfl, Go.RowKit.Below.refl _ _⟩)
 | some ad => (go_enter Try.func86, Try.ntmps86; go_wp2; go_ret; exact ⟨_, rfl, (Go.RowKit.Below.refl _ _).alloc (Nat.le_refl _) _⟩)
theorem b86 : NOk Try.prog ⟨86, s86, fun x h => F86 (@LN LOOPS) x.1⟩ := NOk.body (T := []) mixed nall_nil (oneEach_of (by kernel_rfl)) Try.func86 k86 (by kernel_rfl) (fun x h => e86 _  x h)
theorem ok86 : NOk Try.prog t86 := NOk.clone (t := (.int .i64)) b86 (clone_empty (.int .i64) b86.1 c86)
/- drayage/keys.copyReply -/
def n57 : NFunc := ⟨8, .seq (.region 2 [
 ⟨(some 1), .box 5 (.tmp 0), none, 0, none⟩,
 ⟨(some 2), .alloc [.int .i64 (0), .int .i64 (0), .int .i64 (0), .int .i64 (0), .zsl], none, 1, none⟩] []) (.seq (.region 4 [
 ⟨(some 3), .fieldAddr 4 (.tmp 1), none, 0, none⟩,
 ⟨(some 4), .load false 1 (.tmp 3), none, 0, none⟩,
 ⟨(some 5), .call (.func 86) [(false, (.tmp 4))] false 4, none, 0, none⟩,
 ⟨(some 6), .fieldAddr 4 (.tmp 1), none, 4, none⟩,
 ⟨none, .store 1 (.tmp 6) (.tmp 5), none, 4, none⟩] []) (.seq (.region 0 [
 ⟨(some 7), .load true 5 (.tmp 1), none, 0, none⟩,
 ⟨none, .store 5 (.tmp 2) (.tmp 7), none, 0, none⟩] []) (.ret))), [.cell true 5 2], true⟩
def s57 : Sig := ⟨(.cons (.v .reply) .nil), [], ((.v .reply), []), []⟩
def F57 (L : Lp) (g86 : (List Int) → Option (Unit × ((List Int) × Unit))) (a0 : Reply) : Option Reply :=
 Option.bind (g86 a0.nums) fun r1 =>
 some (Reply.mk a0.key a0.err a0.job a0.version r1.2.1)
theorem e57 (L : Lp) (g86 : (List Int) → Option (Unit × ((List Int) × Unit))) (x : s57.args.den) (h : denH s57.heap) : nrun [⟨86, s86, fun x h => g86 x.1⟩] L n57 s57 x h = F57 L g86 x.1 := by kernel_rfl
def f57 : Reply → Option Reply := F57 (@LN LOOPS) f86
@[reducible] def t57 : Ent := ⟨57, s57, fun x h => f57 x.1⟩
theorem k57 : chkNF Try.prog Try.f57 n57 = true := by kernel_rfl
theorem ok57 : NOk Try.prog t57 := NOk.body (T := [t86]) mixed (nall_cons ok86 nall_nil) (oneEach_of (by kernel_rfl)) Try.func57 k57 (by kernel_rfl) (fun x h => e57 _ _ x h)
/- slices.Insert[[]drayage/api.Entry,drayage/api.Entry] -/
def s58 : Sig := ⟨(.cons .zsl (.cons (.v (.int .i64)) (.cons (.slw 0 26) .nil))), [.typed .entry], ((.slw 1 26), [.typed .entry, .typed .entry]), []⟩
def f58 : Int → (List Entry) → Option (Unit × ((List Entry) × ((List Entry) × Unit))) := insertZ 240
@[reducible] def t58 : Ent := ⟨58, s58, fun x h => f58 x.2.1 h.1⟩
theorem ok58 : NOk Try.prog t58 := extz58
/- slices.Delete[[]drayage/api.Entry,drayage/api.Entry] -/
def s59 : Sig := ⟨(.cons (.slw 0 26) (.cons (.v (.int .i64)) (.cons (.v (.int .i64)) .nil))), [.typed .entry], ((.slw 1 26), [.dead, .typed .entry]), []⟩
def f59 : Int → Int → (List Entry) → Option (Unit × (Unit × ((List Entry) × Unit))) := deleteG
@[reducible] def t59 : Ent := ⟨59, s59, fun x h => f59 x.2.1 x.2.2.1 h.1⟩
theorem ok59 : NOk Try.prog t59 := ext59
/- (*drayage/keys.Keys).Store -/
def n26 : NFunc := ⟨86, .seq (.region 2 [
 ⟨(some 6), .box 17 (.tmp 2), none, 0, none⟩,
 ⟨(some 7), .box 5 (.tmp 3), none, 1, none⟩,
 ⟨(some 8), .move (.const (.int .i64 (0))), none, 2, none⟩] []) (.seq (.seq (.region 0 [
 ⟨(some 13), .move (.tmp 0), none, 0, none⟩,
 ⟨(some 14), .eqP false (.tmp 13) (.const (.nilp)), none, 0, none⟩] []) (.cond (.tmp 14) (.seq (.region 0 [
 ⟨(some 8), .move (.const (.int .i64 (1))), none, 0, none⟩] []) (.ret)) (.skip))) (.seq (.region 4 [
 ⟨(some 15), .move (.tmp 0), none, 0, none⟩,
 ⟨(some 16), .move (.tmp 1), none, 0, none⟩,
 ⟨(some 17), .call (.func 53) [(true, (.tmp 15)), (false, (.tmp 16))] false 4, none, 0, none⟩,
 ⟨(some 9), .move (.tmp 17), none, 4, none⟩] []) (.seq (.seq (.region 4 [
 ⟨(some 18), .move (.tmp 9), none, 0, none⟩,
 ⟨(some 19), .eqP false (.tmp 18) (.const (.nilp)), none, 0, none⟩,
 ⟨(some 20), .move (.tmp 19), none, 0, none⟩,
 ⟨(some 21), .load true 17 (.tmp 6), (some (20, false)), 0, none⟩,
 ⟨(some 22), .call (.func 54) [(false, (.tmp 21))] false 4, (some (20, false)), 0, none⟩,
 ⟨(some 23), .un .not (.tmp 22), (some (20, false)), 4, none⟩,
 ⟨(some 24), .pick (.tmp 20) (.const (.bool true)) (.tmp 23), none, 4, none⟩] []) (.cond (.tmp 24) (.seq (.region 0 [
 ⟨(some 8), .move (.const (.int .i64 (2))), none, 0, none⟩] []) (.ret)) (.skip))) (.seq (.region 4 [
 ⟨(some 26), .move (.tmp 9), none, 0, none⟩,
 ⟨(some 27), .fieldAddr 1 (.tmp 6), none, 0, none⟩,
 ⟨(some 28), .load false 1 (.tmp 27), none, 0, none⟩,
 ⟨(some 29), .call (.func 55) [(true, (.tmp 26)), (false, (.tmp 28))] false 4, none, 0, none⟩,
 ⟨(some 25), .move (.tmp 29), none, 4, none⟩,
 ⟨(some 30), .extract (.tmp 25) 0, none, 4, none⟩,
 ⟨(some 31), .extract (.tmp 25) 1, none, 4, none⟩,
 ⟨(some 10), .move (.tmp 30), none, 4, none⟩,
 ⟨(some 11), .move (.tmp 31), none, 4, none⟩] []) (.seq (.seq (.region 0 [
 ⟨(some 32), .move (.tmp 11), none, 0, none⟩] []) (.cond (.tmp 32) (.seq (.region 0 [
 ⟨(some 8), .move (.const (.int .i64 (31))), none, 0, none⟩] []) (.ret)) (.skip))) (.seq (.seq (.region 0 [
 ⟨(some 33), .fieldAddr 1 (.tmp 6), none, 0, (some ([], none))⟩,
 ⟨(some 34), .load false 1 (.tmp 33), none, 0, (some ([], none))⟩,
 ⟨(some 35), .move (.tmp 9), none, 0, (some ([], none))⟩,
 ⟨(some 36), .nilCheck (.tmp 35), none, 0, (some ([], none))⟩,
 ⟨(some 37), .fieldAddr 0 (.tmp 36), none, 0, (some ([], none))⟩,
 ⟨(some 38), .load false 1 (.tmp 37), none, 0, (some ([], none))⟩,
 ⟨(some 39), .bin .leq (.tmp 34) (.tmp 38), none, 0, (some ([], none))⟩] []) (.cond (.tmp 39) (.seq (.region 0 [
 ⟨(some 8), .move (.const (.int .i64 (51))), none, 0, none⟩] []) (.ret)) (.skip))) (.seq (.region 9 [
 ⟨(some 40), .move (.tmp 1), none, 0, (some ([], none))⟩,
 ⟨(some 41), .load true 17 (.tmp 6), none, 0, (some ([], none))⟩,
 ⟨(some 42), .call (.func 56) [(false, (.tmp 41))] true 4, none, 0, (some ([], none))⟩,
 ⟨(some 43), .load true 5 (.tmp 7), none, 4, (some ([], none))⟩,
 ⟨(some 44), .call (.func 57) [(false, (.tmp 43))] true 4, none, 4, (some ([0, 1, 2, 3], none))⟩,
 ⟨(some 45), .build [.int .i64 (0), .int .i64 (0), .int .i64 (0), .int .i64 (0), .int .i64 (0), .int .i64 (0), .int .i64 (0), .int .i64 (0), .int .i64 (0), .int .i64 (0), .int .i64 (0), .int .i64 (0), .int .i64 (0), .int .i64 (0), .zsl, .int .i64 (0), .int .i64 (0), .int .i64 (0), .int .i64 (0), .int .i64 (0), .int .i64 (0), .int .i64 (0), .int .i64 (0), .zsl, .int .i64 (0), .bool false] [(1, 1, (.tmp 40)), (2, 17, (.tmp 42)), (19, 5, (.tmp 44))], none, 8, (some ([0, 1, 2, 3, 4, 5, 6, 7], none))⟩,
 ⟨(some 12), .alloc [.int .i64 (0), .int .i64 (0), .int .i64 (0), .int .i64 (0), .int .i64 (0), .int .i64 (0), .int .i64 (0), .int .i64 (0), .int .i64 (0), .int .i64 (0), .int .i64 (0), .int .i64 (0), .int .i64 (0), .int .i64 (0), .zsl, .int .i64 (0), .int .i64 (0), .int .i64 (0), .int .i64 (0), .int .i64 (0), .int .i64 (0), .int .i64 (0), .int .i64 (0), .zsl, .int .i64 (0), .bool false], none, 8, (some ([], none))⟩,
 ⟨none, .store 26 (.tmp 12) (.tmp 45), none, 9, (some ([0, 1, 2, 3, 4, 5, 6, 7, 8], none))⟩] []) (.seq (.region 5 [
 ⟨(some 46), .move (.tmp 9), none, 0, (some ([], none))⟩,
 ⟨(some 47), .move (.tmp 9), none, 0, (some ([], none))⟩,
 ⟨(some 48), .nilCheck (.tmp 47), none, 0, (some ([], none))⟩,
 ⟨(some 49), .fieldAddr 1 (.tmp 48), none, 0, (some ([], none))⟩,
 ⟨(some 50), .load false 1 (.tmp 49), none, 0, (some ([], none))⟩,
 ⟨(some 51), .move (.tmp 10), none, 0, (some ([], none))⟩,
 ⟨(some 52), .load true 26 (.tmp 12), none, 0, (some ([], none))⟩,
 ⟨(some 53), .buildSlice 26 1 true [.int .i64 (0), .int .i64 (0), .int .i64 (0), .int .i64 (0), .int .i64 (0), .int .i64 (0), .int .i64 (0), .int .i64 (0), .int .i64 (0), .int .i64 (0), .int .i64 (0), .int .i64 (0), .int .i64 (0), .int .i64 (0), .zsl, .int .i64 (0), .int .i64 (0), .int .i64 (0), .int .i64 (0), .int .i64 (0), .int .i64 (0), .int .i64 (0), .int .i64 (0), .zsl, .int .i64 (0), .bool false] [(0, (.tmp 52))], none, 0, (some ([], none))⟩,
 ⟨(some 54), .call (.func 58) [(true, (.tmp 50)), (false, (.tmp 51)), (true, (.tmp 53))] false 4, none, 1, (some ([0], none))⟩,
 ⟨(some 55), .nilCheck (.tmp 46), none, 5, (some ([0, 1, 2, 3, 4], none))⟩,
 ⟨(some 56), .fieldAddr 1 (.tmp 55), none, 5, (some ([0, 1, 2, 3, 4], none))⟩,
 ⟨none, .store 1 (.tmp 56) (.tmp 54), none, 5, (some ([0, 1, 2, 3, 4], none))⟩] []) (.seq (.seq (.region 0 [
 ⟨(some 57), .move (.tmp 9), none, 0, (some ([], none))⟩,
 ⟨(some 58), .nilCheck (.tmp 57), none, 0, (some ([], none))⟩,
 ⟨(some 59), .fieldAddr 1 (.tmp 58), none, 0, (some ([], none))⟩,
 ⟨(some 60), .load false 1 (.tmp 59), none, 0, (some ([], none))⟩,
 ⟨(some 61), .len (.tmp 60), none, 0, (some ([], none))⟩,
 ⟨(some 62), .move (.tmp 0), none, 0, (some ([], none))⟩,
 ⟨(some 63), .nilCheck (.tmp 62), none, 0, (some ([], none))⟩,
 ⟨(some 64), .fieldAddr 0 (.tmp 63), none, 0, (some ([], none))⟩,
 ⟨(some 65), .load false 1 (.tmp 64), none, 0, (some ([], none))⟩,
 ⟨(some 66), .bin .gtr (.tmp 61) (.tmp 65), none, 0, (some ([], none))⟩] []) (.cond (.tmp 66) (.seq (.region 0 [
 ⟨(some 67), .move (.tmp 9), none, 0, none⟩,
 ⟨(some 68), .move (.tmp 9), none, 0, none⟩,
 ⟨(some 69), .nilCheck (.tmp 68), none, 0, none⟩,
 ⟨(some 70), .fieldAddr 1 (.tmp 69), none, 0, none⟩,
 ⟨(some 71), .load false 1 (.tmp 70), none, 0, none⟩,
 ⟨(some 72), .indexSl 26 (.tmp 71) (.const (.int .i64 (0))), none, 0, none⟩,
 ⟨(some 73), .fieldAddr 2 (.tmp 72), none, 0, none⟩,
 ⟨(some 74), .fieldAddr 1 (.tmp 73), none, 0, none⟩,
 ⟨(some 75), .load false 1 (.tmp 74), none, 0, none⟩,
 ⟨(some 76), .nilCheck (.tmp 67), none, 0, none⟩,
 ⟨(some 77), .fieldAddr 0 (.tmp 76), none, 0, none⟩,
 ⟨none, .store 1 (.tmp 77) (.tmp 75), none, 0, none⟩] []) (.region 4 [
 ⟨(some 78), .move (.tmp 9), none, 0, none⟩,
 ⟨(some 79), .move (.tmp 9), none, 0, none⟩,
 ⟨(some 80), .nilCheck (.tmp 79), none, 0, none⟩,
 ⟨(some 81), .fieldAddr 1 (.tmp 80), none, 0, none⟩,
 ⟨(some 82), .load false 1 (.tmp 81), none, 0, none⟩,
 ⟨(some 83), .call (.func 59) [(true, (.tmp 82)), (false, (.const (.int .i64 (0)))), (false, (.const (.int .i64 (1))))] false 4, none, 0, none⟩,
 ⟨(some 84), .nilCheck (.tmp 78), none, 4, none⟩,
 ⟨(some 85), .fieldAddr 1 (.tmp 84), none, 4, none⟩,
 ⟨none, .store 1 (.tmp 85) (.tmp 83), none, 4, none⟩] [])) (.skip))) (.seq (.region 0 [
 ⟨(some 8), .move (.const (.int .i64 (0))), none, 0, none⟩] []) (.ret))))))))))), [.tmp 8], true⟩
def s26 : Sig := ⟨(.cons (.ptr 0 0 0) (.cons (.v (.int .i64)) (.cons (.v .request) (.cons (.v .reply) .nil)))), [.cell false (.cons (.v (.int .i64)) (.cons (.slw 1 2) .nil)), .cell false (.cons (.v (.int .i64)) (.cons .zsl .nil))], ((.v (.int .i64)), [.cell false (.cons (.v (.int .i64)) (.cons (.slw 1 2) .nil)), .cell false (.cons (.v (.int .i64)) (.cons .zsl .nil))]), [((.v (.int .i64)), [.cell false (.cons (.v (.int .i64)) (.cons (.slw 1 2) .nil)), .cell false (.cons (.v (.int .i64)) (.cons (.slw 2 26) .nil)), .typed .entry])]⟩
def F26 (L : Lp) (g53 : Int → Int → Int → Option ((Unit × ((Int × (Unit × Unit)) × ((Int × (Unit × Unit)) × Unit))) ⊕ (Unit × ((Int × (Unit × Unit)) × ((Int × (Unit × Unit)) × Unit))))) (g54 : Request → Option Bool) (g55 : Int → Int → Option ((Int × (Bool × Unit)) × ((Int × (Unit × Unit)) × Unit))) (g56 : Request → Option Request) (g57 : Reply → Option Reply) (g58 : Int → (List Entry) → Option (Unit × ((List Entry) × ((List Entry) × Unit)))) (g59 : Int → Int → (List Entry) → Option (Unit × (Unit × ((List Entry) × Unit)))) (user0 : Int) (ar1 : Request) (a2 : Reply) (a3 : Int) (a4 : Int) : Option ((Int × ((Int × (Unit × Unit)) × ((Int × (Unit × Unit)) × Unit))) ⊕ (Int × ((Int × (Unit × Unit)) × ((Int × (Unit × Unit)) × ((List Entry) × Unit))))) :=
 Option.bind (g53 user0 a3 a4) (Sum.elim (fun r5 =>
 some (.inl (2, ((r5.2.1.1, (), ()), (r5.2.2.1.1, (), ()), ())))) (fun r6 =>
 Option.bind (g54 ar1) fun r7 =>
 cond (!r7)
 (some (.inl (2, ((r6.2.1.1, (), ()), (r6.2.2.1.1, (), ()), ()))))
 (Option.bind (g55 ar1.key r6.2.2.1.1) fun r8 =>
 cond r8.1.2.1
 (some (.inl (31, ((r6.2.1.1, (), ()), (r8.2.1.1, (), ()), ()))))
 (cond (decide (ar1.key ≤ r8.2.1.1))
 (some (.inl (51, ((r6.2.1.1, (), ()), (r8.2.1.1, (), ()), ()))))
 (Option.bind (g56 ar1) fun r9 =>
 Option.bind (g57 a2) fun r10 =>
 Option.bind (g58 r8.1.1 [Entry.mk 0 user0 r9 r10 0 false]) fun r11 =>
 cond ((decide ((List.length r11.2.1) = 1)) && true)
 (cond (decide (r6.2.1.1 < (List.length r11.2.2.1 : Int)))
 (cond (decide (0 < (List.length r11.2.2.1)))
 (Option.bind (r11.2.2.1[0]?) fun y12 =>
 Option.bind (g59 0 1 r11.2.2.1) fun r13 =>
 some (.inr (0, ((r6.2.1.1, (), ()), (y12.request.key, (), ()), r13.2.2.1, ()))))
 (none))
 (some (.inr (0, ((r6.2.1.1, (), ()), (r8.2.1.1, (), ()), r11.2.2.1, ())))))
 (none))))))
theorem e26 (L : Lp) (g53 : Int → Int → Int → Option ((Unit × ((Int × (Unit × Unit)) × ((Int × (Unit × Unit)) × Unit))) ⊕ (Unit × ((Int × (Unit × Unit)) × ((Int × (Unit × Unit)) × Unit))))) (g54 : Request → Option Bool) (g55 : Int → Int → Option ((Int × (Bool × Unit)) × ((Int × (Unit × Unit)) × Unit))) (g56 : Request → Option Request) (g57 : Reply → Option Reply) (g58 : Int → (List Entry) → Option (Unit × ((List Entry) × ((List Entry) × Unit)))) (g59 : Int → Int → (List Entry) → Option (Unit × (Unit × ((List Entry) × Unit)))) (x : s26.args.den) (h : denH s26.heap) : nrun [⟨53, s53, fun x h => g53 x.2.1 h.1.1 h.2.1.1⟩, ⟨54, s54, fun x h => g54 x.1⟩, ⟨55, s55, fun x h => g55 x.2.1 h.1.1⟩, ⟨56, s56, fun x h => g56 x.1⟩, ⟨57, s57, fun x h => g57 x.1⟩, ⟨58, s58, fun x h => g58 x.2.1 h.1⟩, ⟨59, s59, fun x h => g59 x.2.1 x.2.2.1 h.1⟩] L n26 s26 x h = F26 L g53 g54 g55 g56 g57 g58 g59 x.2.1 x.2.2.1 x.2.2.2.1 h.1.1 h.2.1.1 := by kernel_rfl
def f26 : Int → Request → Reply → Int → Int → Option ((Int × ((Int × (Unit × Unit)) × ((Int × (Unit × Unit)) × Unit))) ⊕ (Int × ((Int × (Unit × Unit)) × ((Int × (Unit × Unit)) × ((List Entry) × Unit))))) := F26 (@LN LOOPS) f53 f54 f55 f56 f57 f58 f59
@[reducible] def t26 : Ent := ⟨26, s26, fun x h => f26 x.2.1 x.2.2.1 x.2.2.2.1 h.1.1 h.2.1.1⟩
theorem k26 : chkNF Try.prog Try.f26 n26 = true := by kernel_rfl
theorem ok26 : NOk Try.prog t26 := NOk.body (T := [t53, t54, t55, t56, t57, t58, t59]) mixed (nall_cons ok53 (nall_cons ok54 (nall_cons ok55 (nall_cons ok56 (nall_cons ok57 (nall_cons ok58 (nall_cons ok59 nall_nil))))))) (oneEach_of (by kernel_rfl)) Try.func26 k26 (by kernel_rfl) (fun x h => e26 _ _ _ _ _ _ _ _ x h)
/- (*drayage/keys.Keys).of -/
def n53_1 : NFunc := ⟨26, .seq (.region 0 [
 ⟨(some 4), .move (.const (.nilp)), none, 0, none⟩] []) (.seq (.seq (.region 0 [
 ⟨(some 5), .move (.tmp 0), none, 0, none⟩,
 ⟨(some 6), .eqP false (.tmp 5) (.const (.nilp)), none, 0, none⟩,
 ⟨(some 7), .move (.tmp 6), none, 0, none⟩,
 ⟨(some 8), .move (.tmp 1), (some (7, false)), 0, none⟩,
 ⟨(some 9), .bin .lss (.tmp 8) (.const (.int .i64 (0))), (some (7, false)), 0, none⟩,
 ⟨(some 10), .pick (.tmp 7) (.const (.bool true)) (.tmp 9), none, 0, none⟩,
 ⟨(some 11), .move (.tmp 10), none, 0, none⟩,
 ⟨(some 12), .move (.tmp 1), (some (11, false)), 0, none⟩,
 ⟨(some 13), .move (.tmp 0), (some (11, false)), 0, none⟩,
 ⟨(some 14), .nilCheck (.tmp 13), (some (11, false)), 0, none⟩,
 ⟨(some 15), .fieldAddr 1 (.tmp 14), (some (11, false)), 0, none⟩,
 ⟨(some 16), .load false 1 (.tmp 15), (some (11, false)), 0, none⟩,
 ⟨(some 17), .len (.tmp 16), (some (11, false)), 0, none⟩,
 ⟨(some 18), .bin .geq (.tmp 12) (.tmp 17), (some (11, false)), 0, none⟩,
 ⟨(some 19), .pick (.tmp 11) (.const (.bool true)) (.tmp 18), none, 0, none⟩] []) (.cond (.tmp 19) (.seq (.region 0 [
 ⟨(some 4), .move (.const (.nilp)), none, 0, none⟩] []) (.ret)) (.skip))) (.seq (.region 0 [
 ⟨(some 20), .move (.tmp 0), none, 0, none⟩,
 ⟨(some 21), .nilCheck (.tmp 20), none, 0, none⟩,
 ⟨(some 22), .fieldAddr 1 (.tmp 21), none, 0, none⟩,
 ⟨(some 23), .load false 1 (.tmp 22), none, 0, none⟩,
 ⟨(some 24), .move (.tmp 1), none, 0, none⟩,
 ⟨(some 25), .indexSl 2 (.tmp 23) (.tmp 24), none, 0, none⟩,
 ⟨(some 4), .move (.tmp 25), none, 0, none⟩] [⟨25, none, some (24, 1)⟩]) (.ret))), [.tmp 4], false⟩
def s53_1 : Sig := ⟨(.cons (.ptr 0 0 0) (.cons (.v (.int .i64)) .nil)), [.cell false (.cons (.v (.int .i64)) (.cons (.slw 1 2) .nil)), .cell false (.cons (.v (.int .i64)) (.cons (.slw 2 26) .nil)), .typed .entry], (.nilp, [.cell false (.cons (.v (.int .i64)) (.cons (.slw 1 2) .nil)), .cell false (.cons (.v (.int .i64)) (.cons (.slw 2 26) .nil)), .typed .entry]), [((.ptr 1 0 0), [.cell false (.cons (.v (.int .i64)) (.cons (.slw 1 2) .nil)), .cell false (.cons (.v (.int .i64)) (.cons (.slw 2 26) .nil)), .typed .entry])]⟩
def F53_1 (L : Lp)  (user0 : Int) (a1 : Int) (a2 : Int) (a3 : (List Entry)) : Option ((Unit × ((Int × (Unit × Unit)) × ((Int × (Unit × Unit)) × ((List Entry) × Unit)))) ⊕ (Unit × ((Int × (Unit × Unit)) × ((Int × (Unit × Unit)) × ((List Entry) × Unit))))) :=
 cond (decide (user0 < 0))
 (some (.inl ((), ((a1, (), ()), (a2, (), ()), a3, ()))))
 (cond (decide (1 ≤ user0))
 (some (.inl ((), ((a1, (), ()), (a2, (), ()), a3, ()))))
 (cond (decide (user0 = 0))
 (some (.inr ((), ((a1, (), ()), (a2, (), ()), a3, ()))))
 (none)))
theorem e53_1 (L : Lp)  (x : s53_1.args.den) (h : denH s53_1.heap) : nrun [] L n53_1 s53_1 x h = F53_1 L  x.2.1 h.1.1 h.2.1.1 h.2.2.1 := by kernel_rfl
def f53_1 : Int → Int → Int → (List Entry) → Option ((Unit × ((Int × (Unit × Unit)) × ((Int × (Unit × Unit)) × ((List Entry) × Unit)))) ⊕ (Unit × ((Int × (Unit × Unit)) × ((Int × (Unit × Unit)) × ((List Entry) × Unit))))) := F53_1 (@LN LOOPS) 
@[reducible] def t53_1 : Ent := ⟨53, s53_1, fun x h => f53_1 x.2.1 h.1.1 h.2.1.1 h.2.2.1⟩
theorem k53_1 : chkNF Try.prog Try.f53 n53_1 = true := by kernel_rfl
theorem ok53_1 : NOk Try.prog t53_1 := NOk.body (T := []) mixed nall_nil (oneEach_of (by kernel_rfl)) Try.func53 k53_1 (by kernel_rfl) (fun x h => e53_1 _  x h)
/- cmp.isNaN[int] -/
def n96 : NFunc := ⟨6, .seq (.region 0 [
 ⟨(some 2), .move (.const (.bool false)), none, 0, none⟩] []) (.seq (.region 0 [
 ⟨(some 3), .move (.tmp 0), none, 0, none⟩,
 ⟨(some 4), .move (.tmp 0), none, 0, none⟩,
 ⟨(some 5), .bin .neq (.tmp 3) (.tmp 4), none, 0, none⟩,
 ⟨(some 2), .move (.tmp 5), none, 0, none⟩] []) (.ret)), [.tmp 2], true⟩
def s96 : Sig := ⟨(.cons (.v (.int .i64)) .nil), [], ((.v .bool), []), []⟩
def F96 (L : Lp)  (ax0 : Int) : Option Bool :=
 some (!decide (ax0 = ax0))
theorem e96 (L : Lp)  (x : s96.args.den) (h : denH s96.heap) : nrun [] L n96 s96 x h = F96 L  x.1 := by kernel_rfl
def f96 : Int → Option Bool := F96 (@LN LOOPS) 
@[reducible] def t96 : Ent := ⟨96, s96, fun x h => f96 x.1⟩
theorem k96 : chkNF Try.prog Try.f96 n96 = true := by kernel_rfl
theorem ok96 : NOk Try.prog t96 := NOk.body (T := []) mixed nall_nil (oneEach_of (by kernel_rfl)) Try.func96 k96 (by kernel_rfl) (fun x h => e96 _  x h)
/- cmp.Compare[int] -/
def n85 : NFunc := ⟨20, .seq (.region 0 [
 ⟨(some 4), .move (.const (.int .i64 (0))), none, 0, none⟩] []) (.seq (.region 4 [
 ⟨(some 7), .move (.tmp 0), none, 0, none⟩,
 ⟨(some 8), .call (.func 96) [(false, (.tmp 7))] false 4, none, 0, none⟩,
 ⟨(some 5), .move (.tmp 8), none, 4, none⟩] []) (.seq (.region 4 [
 ⟨(some 9), .move (.tmp 1), none, 0, none⟩,
 ⟨(some 10), .call (.func 96) [(false, (.tmp 9))] false 4, none, 0, none⟩,
 ⟨(some 6), .move (.tmp 10), none, 4, none⟩] []) (.seq (.seq (.region 0 [
 ⟨(some 11), .move (.tmp 5), none, 0, none⟩] []) (.cond (.tmp 11) (.seq (.seq (.region 0 [
 ⟨(some 12), .move (.tmp 6), none, 0, none⟩] []) (.cond (.tmp 12) (.seq (.region 0 [
 ⟨(some 4), .move (.const (.int .i64 (0))), none, 0, none⟩] []) (.ret)) (.skip))) (.seq (.region 0 [
 ⟨(some 4), .move (.const (.int .i64 (-1))), none, 0, none⟩] []) (.ret))) (.skip))) (.seq (.seq (.region 0 [
 ⟨(some 13), .move (.tmp 6), none, 0, none⟩] []) (.cond (.tmp 13) (.seq (.region 0 [
 ⟨(some 4), .move (.const (.int .i64 (1))), none, 0, none⟩] []) (.ret)) (.skip))) (.seq (.seq (.region 0 [
 ⟨(some 14), .move (.tmp 0), none, 0, none⟩,
 ⟨(some 15), .move (.tmp 1), none, 0, none⟩,
 ⟨(some 16), .bin .lss (.tmp 14) (.tmp 15), none, 0, none⟩] []) (.cond (.tmp 16) (.seq (.region 0 [
 ⟨(some 4), .move (.const (.int .i64 (-1))), none, 0, none⟩] []) (.ret)) (.skip))) (.seq (.seq (.region 0 [
 ⟨(some 17), .move (.tmp 0), none, 0, none⟩,
 ⟨(some 18), .move (.tmp 1), none, 0, none⟩,
 ⟨(some 19), .bin .gtr (.tmp 17) (.tmp 18), none, 0, none⟩] []) (.cond (.tmp 19) (.seq (.region 0 [
 ⟨(some 4), .move (.const (.int .i64 (1))), none, 0, none⟩] []) (.ret)) (.skip))) (.seq (.region 0 [
 ⟨(some 4), .move (.const (.int .i64 (0))), none, 0, none⟩] []) (.ret)))))))), [.tmp 4], true⟩
def s85 : Sig := ⟨(.cons (.v (.int .i64)) (.cons (.v (.int .i64)) .nil)), [], ((.v (.int .i64)), []), []⟩
def F85 (L : Lp) (g96 : Int → Option Bool) (ax0 : Int) (ay1 : Int) : Option Int :=
 Option.bind (g96 ax0) fun r2 =>
 Option.bind (g96 ay1) fun r3 =>
 cond r2
 (cond r3
 (some 0)
 (some (-1)))
 (cond r3
 (some 1)
 (cond (decide (ax0 < ay1))
 (some (-1))
 (cond (decide (ay1 < ax0))
 (some 1)
 (some 0))))
theorem e85 (L : Lp) (g96 : Int → Option Bool) (x : s85.args.den) (h : denH s85.heap) : nrun [⟨96, s96, fun x h => g96 x.1⟩] L n85 s85 x h = F85 L g96 x.1 x.2.1 := by kernel_rfl
def f85 : Int → Int → Option Int := F85 (@LN LOOPS) f96
@[reducible] def t85 : Ent := ⟨85, s85, fun x h => f85 x.1 x.2.1⟩
theorem k85 : chkNF Try.prog Try.f85 n85 = true := by kernel_rfl
theorem ok85 : NOk Try.prog t85 := NOk.body (T := [t96]) mixed (nall_cons ok96 nall_nil) (oneEach_of (by kernel_rfl)) Try.func85 k85 (by kernel_rfl) (fun x h => e85 _ _ x h)
/- (*drayage/keys.known).find$1 -/
def n84 : NFunc := ⟨10, .seq (.region 1 [
 ⟨(some 2), .box 26 (.tmp 0), none, 0, none⟩,
 ⟨(some 4), .move (.const (.int .i64 (0))), none, 1, none⟩] []) (.seq (.region 4 [
 ⟨(some 5), .fieldAddr 2 (.tmp 2), none, 0, none⟩,
 ⟨(some 6), .fieldAddr 1 (.tmp 5), none, 0, none⟩,
 ⟨(some 7), .load false 1 (.tmp 6), none, 0, none⟩,
 ⟨(some 8), .move (.tmp 1), none, 0, none⟩,
 ⟨(some 9), .call (.func 85) [(false, (.tmp 7)), (false, (.tmp 8))] false 4, none, 0, none⟩,
 ⟨(some 4), .move (.tmp 9), none, 4, none⟩] []) (.ret)), [.tmp 4], true⟩
def s84 : Sig := ⟨(.cons (.v .entry) (.cons (.v (.int .i64)) .nil)), [], ((.v (.int .i64)), []), []⟩
def F84 (L : Lp) (g85 : Int → Int → Option Int) (ae0 : Entry) (key1 : Int) : Option Int :=
 Option.bind (g85 ae0.request.key key1) fun r2 =>
 some r2
theorem e84 (L : Lp) (g85 : Int → Int → Option Int) (x : s84.args.den) (h : denH s84.heap) : nrun [⟨85, s85, fun x h => g85 x.1 x.2.1⟩] L n84 s84 x h = F84 L g85 x.1 x.2.1 := by kernel_rfl
def f84 : Entry → Int → Option Int := F84 (@LN LOOPS) f85
@[reducible] def t84 : Ent := ⟨84, s84, fun x h => f84 x.1 x.2.1⟩
theorem k84 : chkNF Try.prog Try.f84 n84 = true := by kernel_rfl
theorem ok84 : NOk Try.prog t84 := NOk.body (T := [t85]) mixed (nall_cons ok85 nall_nil) (oneEach_of (by kernel_rfl)) Try.func84 k84 (by kernel_rfl) (fun x h => e84 _ _ x h)
/- slices.BinarySearchFunc[[]drayage/api.Entry,drayage/api.Entry,int] -/
def n83_1 : NFunc := ⟨49, .seq (.region 0 [
 ⟨(some 6), .move (.const (.int .i64 (0))), none, 0, none⟩,
 ⟨(some 7), .move (.const (.bool false)), none, 0, none⟩] []) (.seq (.region 0 [
 ⟨(some 12), .move (.tmp 0), none, 0, none⟩,
 ⟨(some 13), .len (.tmp 12), none, 0, none⟩,
 ⟨(some 8), .move (.tmp 13), none, 0, none⟩] []) (.seq (.region 0 [
 ⟨(some 14), .move (.tmp 8), none, 0, none⟩,
 ⟨(some 9), .move (.const (.int .i64 (0))), none, 0, none⟩,
 ⟨(some 10), .move (.tmp 14), none, 0, none⟩] []) (.seq (.block 0 (.loop [0, 1, 2, 8, 9, 10] ⟨[(0, (.slw 0 26)), (9, (.v (.int .i64))), (10, (.v (.int .i64)))], [1, 2, 8], [.typed .entry]⟩ (.seq (.seq (.region 0 [
 ⟨(some 15), .move (.tmp 9), none, 0, none⟩,
 ⟨(some 16), .move (.tmp 10), none, 0, none⟩,
 ⟨(some 17), .bin .lss (.tmp 15) (.tmp 16), none, 0, none⟩] []) (.cond (.tmp 17) (.skip) (.exit 0))) (.block 1 (.seq (.region 0 [
 ⟨(some 18), .move (.tmp 9), none, 0, none⟩,
 ⟨(some 19), .move (.tmp 10), none, 0, none⟩,
 ⟨(some 20), .bin .add (.tmp 18) (.tmp 19), none, 0, none⟩,
 ⟨(some 21), .conv .u64 (.tmp 20), none, 0, none⟩,
 ⟨(some 22), .bin .shr (.tmp 21) (.const (.int .u64 (1))), none, 0, none⟩,
 ⟨(some 23), .conv .i64 (.tmp 22), none, 0, none⟩,
 ⟨(some 11), .move (.tmp 23), none, 0, none⟩] []) (.seq (.region 4 [
 ⟨(some 24), .move (.tmp 2), none, 0, none⟩,
 ⟨(some 25), .move (.tmp 0), none, 0, none⟩,
 ⟨(some 26), .move (.tmp 11), none, 0, none⟩,
 ⟨(some 27), .indexSl 26 (.tmp 25) (.tmp 26), none, 0, none⟩,
 ⟨(some 28), .load true 26 (.tmp 27), none, 0, none⟩,
 ⟨(some 29), .move (.tmp 1), none, 0, none⟩,
 ⟨(some 30), .call (.tmp 24) [(false, (.tmp 28)), (false, (.tmp 29))] false 4, none, 0, none⟩,
 ⟨(some 31), .bin .lss (.tmp 30) (.const (.int .i64 (0))), none, 4, none⟩] []) (.cond (.tmp 31) (.region 0 [
 ⟨(some 32), .move (.tmp 11), none, 0, none⟩,
 ⟨(some 33), .bin .add (.tmp 32) (.const (.int .i64 (1))), none, 0, none⟩,
 ⟨(some 9), .move (.tmp 33), none, 0, none⟩] []) (.region 0 [
 ⟨(some 34), .move (.tmp 11), none, 0, none⟩,
 ⟨(some 10), .move (.tmp 34), none, 0, none⟩] [])))))))) (.seq (.region 4 [
 ⟨(some 35), .move (.tmp 9), none, 0, none⟩,
 ⟨(some 36), .move (.tmp 9), none, 0, none⟩,
 ⟨(some 37), .move (.tmp 8), none, 0, none⟩,
 ⟨(some 38), .bin .lss (.tmp 36) (.tmp 37), none, 0, none⟩,
 ⟨(some 39), .move (.tmp 38), none, 0, none⟩,
 ⟨(some 40), .move (.tmp 2), (some (39, true)), 0, none⟩,
 ⟨(some 41), .move (.tmp 0), (some (39, true)), 0, none⟩,
 ⟨(some 42), .move (.tmp 9), (some (39, true)), 0, none⟩,
 ⟨(some 43), .indexSl 26 (.tmp 41) (.tmp 42), (some (39, true)), 0, none⟩,
 ⟨(some 44), .load true 26 (.tmp 43), (some (39, true)), 0, none⟩,
 ⟨(some 45), .move (.tmp 1), (some (39, true)), 0, none⟩,
 ⟨(some 46), .call (.tmp 40) [(false, (.tmp 44)), (false, (.tmp 45))] false 4, (some (39, true)), 0, none⟩,
 ⟨(some 47), .bin .eql (.tmp 46) (.const (.int .i64 (0))), (some (39, true)), 4, none⟩,
 ⟨(some 48), .pick (.tmp 39) (.tmp 47) (.const (.bool false)), none, 4, none⟩,
 ⟨(some 6), .move (.tmp 35), none, 4, none⟩,
 ⟨(some 7), .move (.tmp 48), none, 4, none⟩] []) (.ret))))), [.tmp 6, .tmp 7], false⟩
def s83_1 : Sig := ⟨(.cons (.slw 0 26) (.cons (.v (.int .i64)) (.cons (.fn 84 .nil) .nil))), [.typed .entry], ((.tup (.cons (.v (.int .i64)) (.cons (.v .bool) .nil))), [.typed .entry]), []⟩
def l83_1_0 (g84 : Entry → Int → Option Int) (target0 : Int) (a1 : (List Entry)) (nx3 : ((Unit × (Int × (Int × Unit))) × ((List Entry) × Unit)) → Option ((Int × (Bool × Unit)) × ((List Entry) × Unit))) (i4 : Int) (j5 : Int) (z6 : (List Entry)) : Option ((Int × (Bool × Unit)) × ((List Entry) × Unit)) :=
 cond (decide (i4 < j5))
 (let v7 := Int.fdiv (IntKind.wrap .u64 (IntKind.wrap .i64 (i4 + j5))) (2 ^ (min (Int.toNat 1) 64))
 cond (decide (0 ≤ (IntKind.wrap .i64 (v7))))
 (cond (decide ((Int.toNat (IntKind.wrap .i64 (v7))) < (List.length z6)))
 (Option.bind (z6[Int.toNat (IntKind.wrap .i64 (v7))]?) fun y8 =>
 Option.bind (g84 y8 target0) fun r9 =>
 cond (decide (r9 < 0))
 (nx3 (((), IntKind.wrap .i64 ((IntKind.wrap .i64 (v7)) + 1), j5, ()), (z6, ())))
 (nx3 (((), i4, IntKind.wrap .i64 (v7), ()), (z6, ()))))
 (none))
 (none))
 (cond (decide (i4 < (List.length a1 : Int)))
 (cond (decide (0 ≤ i4))
 (cond (decide ((Int.toNat i4) < (List.length z6)))
 (Option.bind (z6[Int.toNat i4]?) fun y10 =>
 Option.bind (g84 y10 target0) fun r11 =>
 some ((i4, decide (r11 = 0), ()), (z6, ())))
 (none))
 (none))
 (some ((i4, false, ()), (z6, ()))))
def F83_1 (L : Lp) (g84 : Entry → Int → Option Int) (target0 : Int) (a1 : (List Entry)) : Option ((Int × (Bool × Unit)) × ((List Entry) × Unit)) :=
 L (fun (s2 : ((Unit × (Int × (Int × Unit))) × ((List Entry) × Unit))) nx3 => l83_1_0 g84 target0 a1 nx3 s2.1.2.1 s2.1.2.2.1 s2.2.1) (((), 0, (List.length a1 : Int), ()), (a1, ()))
theorem e83_1 (L : Lp) (g84 : Entry → Int → Option Int) (x : s83_1.args.den) (h : denH s83_1.heap) : nrun [⟨84, s84, fun x h => g84 x.1 x.2.1⟩] L n83_1 s83_1 x h = F83_1 L g84 x.2.1 h.1 := by kernel_rfl
def f83_1 : Int → (List Entry) → Option ((Int × (Bool × Unit)) × ((List Entry) × Unit)) := F83_1 (@LN LOOPS) f84
@[reducible] def t83_1 : Ent := ⟨83, s83_1, fun x h => f83_1 x.2.1 h.1⟩
theorem k83_1 : chkNF Try.prog Try.f83 n83_1 = true := by kernel_rfl
theorem ok83_1 : NOk Try.prog t83_1 := NOk.body (T := [t84]) mixed (nall_cons ok84 nall_nil) (oneEach_of (by kernel_rfl)) Try.func83 k83_1 (by kernel_rfl) (fun x h => e83_1 _ _ x h)
/- (*drayage/keys.known).find -/
def n55_1 : NFunc := ⟨14, .seq (.region 0 [
 ⟨(some 4), .move (.const (.int .i64 (0))), none, 0, none⟩,
 ⟨(some 5), .move (.const (.bool false)), none, 0, none⟩] []) (.seq (.region 4 [
 ⟨(some 6), .move (.tmp 0), none, 0, none⟩,
 ⟨(some 7), .nilCheck (.tmp 6), none, 0, none⟩,
 ⟨(some 8), .fieldAddr 1 (.tmp 7), none, 0, none⟩,
 ⟨(some 9), .load false 1 (.tmp 8), none, 0, none⟩,
 ⟨(some 10), .move (.tmp 1), none, 0, none⟩,
 ⟨(some 11), .call (.func 83) [(true, (.tmp 9)), (false, (.tmp 10)), (false, (.func 84))] false 4, none, 0, none⟩,
 ⟨(some 12), .extract (.tmp 11) 0, none, 4, none⟩,
 ⟨(some 13), .extract (.tmp 11) 1, none, 4, none⟩,
 ⟨(some 4), .move (.tmp 12), none, 4, none⟩,
 ⟨(some 5), .move (.tmp 13), none, 4, none⟩] []) (.ret)), [.tmp 4, .tmp 5], true⟩
def s55_1 : Sig := ⟨(.cons (.ptr 0 0 0) (.cons (.v (.int .i64)) .nil)), [.cell false (.cons (.v (.int .i64)) (.cons (.slw 1 26) .nil)), .typed .entry], ((.tup (.cons (.v (.int .i64)) (.cons (.v .bool) .nil))), [.cell false (.cons (.v (.int .i64)) (.cons (.slw 1 26) .nil)), .typed .entry]), []⟩
def F55_1 (L : Lp) (g83_1 : Int → (List Entry) → Option ((Int × (Bool × Unit)) × ((List Entry) × Unit))) (key0 : Int) (a1 : Int) (a2 : (List Entry)) : Option ((Int × (Bool × Unit)) × ((Int × (Unit × Unit)) × ((List Entry) × Unit))) :=
 Option.bind (g83_1 key0 a2) fun r3 =>
 cond ((decide ((List.length r3.2.1) = (List.length a2))) && true)
 (some ((r3.1.1, r3.1.2.1, ()), ((a1, (), ()), r3.2.1, ())))
 (none)
theorem e55_1 (L : Lp) (g83_1 : Int → (List Entry) → Option ((Int × (Bool × Unit)) × ((List Entry) × Unit))) (x : s55_1.args.den) (h : denH s55_1.heap) : nrun [⟨83, s83_1, fun x h => g83_1 x.2.1 h.1⟩] L n55_1 s55_1 x h = F55_1 L g83_1 x.2.1 h.1.1 h.2.1 := by kernel_rfl
def f55_1 : Int → Int → (List Entry) → Option ((Int × (Bool × Unit)) × ((Int × (Unit × Unit)) × ((List Entry) × Unit))) := F55_1 (@LN LOOPS) f83_1
@[reducible] def t55_1 : Ent := ⟨55, s55_1, fun x h => f55_1 x.2.1 h.1.1 h.2.1⟩
theorem k55_1 : chkNF Try.prog Try.f55 n55_1 = true := by kernel_rfl
theorem ok55_1 : NOk Try.prog t55_1 := NOk.body (T := [t83_1]) mixed (nall_cons ok83_1 nall_nil) (oneEach_of (by kernel_rfl)) Try.func55 k55_1 (by kernel_rfl) (fun x h => e55_1 _ _ x h)
/- (*drayage/keys.Keys).Look -/
def n29 : NFunc := ⟨60, .seq (.region 2 [
 ⟨(some 5), .box 17 (.tmp 2), none, 0, none⟩,
 ⟨(some 6), .move (.const (.int .i64 (0))), none, 1, none⟩,
 ⟨(some 7), .alloc [.int .i64 (0), .int .i64 (0), .int .i64 (0), .int .i64 (0), .zsl], none, 1, none⟩] []) (.seq (.region 4 [
 ⟨(some 11), .move (.tmp 0), none, 0, none⟩,
 ⟨(some 12), .move (.tmp 1), none, 0, none⟩,
 ⟨(some 13), .call (.func 53) [(true, (.tmp 11)), (false, (.tmp 12))] false 4, none, 0, none⟩,
 ⟨(some 8), .move (.tmp 13), none, 4, none⟩] []) (.seq (.seq (.region 0 [
 ⟨(some 14), .move (.tmp 8), none, 0, none⟩,
 ⟨(some 15), .eqP false (.tmp 14) (.const (.nilp)), none, 0, none⟩] []) (.cond (.tmp 15) (.seq (.region 0 [
 ⟨(some 16), .build [.int .i64 (0), .int .i64 (0), .int .i64 (0), .int .i64 (0), .zsl] [], none, 0, none⟩,
 ⟨(some 6), .move (.const (.int .i64 (0))), none, 0, none⟩,
 ⟨none, .store 5 (.tmp 7) (.tmp 16), none, 0, none⟩] []) (.ret)) (.skip))) (.seq (.region 4 [
 ⟨(some 18), .move (.tmp 8), none, 0, none⟩,
 ⟨(some 19), .fieldAddr 1 (.tmp 5), none, 0, none⟩,
 ⟨(some 20), .load false 1 (.tmp 19), none, 0, none⟩,
 ⟨(some 21), .call (.func 55) [(true, (.tmp 18)), (false, (.tmp 20))] false 4, none, 0, none⟩,
 ⟨(some 17), .move (.tmp 21), none, 4, none⟩,
 ⟨(some 22), .extract (.tmp 17) 0, none, 4, none⟩,
 ⟨(some 23), .extract (.tmp 17) 1, none, 4, none⟩,
 ⟨(some 9), .move (.tmp 22), none, 4, none⟩,
 ⟨(some 10), .move (.tmp 23), none, 4, none⟩] []) (.seq (.block 0 (.seq (.meet [7, 9, 8, 5, 10, 24] [] ⟨[(5, (.ptr 3 0 0)), (7, (.ptr 4 0 0)), (8, (.ptr 1 0 0)), (24, (.v .bool))], [9, 10], [.cell false (.cons (.v (.int .i64)) (.cons (.slw 1 2) .nil)), .cell false (.cons (.v (.int .i64)) (.cons (.slw 2 26) .nil)), .typed .entry, .one false .request, .cell false (.cons (.v (.int .i64)) (.cons (.v (.int .i64)) (.cons (.v (.int .i64)) (.cons (.v (.int .i64)) (.cons .zsl .nil)))))]⟩ (.region 4 [
 ⟨(some 25), .move (.tmp 10), none, 0, (some ([], none))⟩,
 ⟨(some 26), .move (.tmp 25), none, 0, (some ([], none))⟩,
 ⟨(some 27), .move (.tmp 8), (some (26, true)), 0, (some ([], none))⟩,
 ⟨(some 28), .nilCheck (.tmp 27), (some (26, true)), 0, (some ([], none))⟩,
 ⟨(some 29), .fieldAddr 1 (.tmp 28), (some (26, true)), 0, (some ([], none))⟩,
 ⟨(some 30), .load false 1 (.tmp 29), (some (26, true)), 0, (some ([], none))⟩,
 ⟨(some 31), .move (.tmp 9), (some (26, true)), 0, (some ([], none))⟩,
 ⟨(some 32), .indexSl 26 (.tmp 30) (.tmp 31), (some (26, true)), 0, (some ([], none))⟩,
 ⟨(some 33), .fieldAddr 2 (.tmp 32), (some (26, true)), 0, (some ([], none))⟩,
 ⟨(some 34), .load true 17 (.tmp 33), (some (26, true)), 0, (some ([], none))⟩,
 ⟨(some 35), .load true 17 (.tmp 5), (some (26, true)), 0, (some ([], none))⟩,
 ⟨(some 36), .call (.func 61) [(false, (.tmp 34)), (false, (.tmp 35))] false 4, (some (26, true)), 0, (some ([], none))⟩,
 ⟨(some 37), .pick (.tmp 26) (.tmp 36) (.const (.bool false)), none, 4, (some ([0, 1, 2, 3], none))⟩,
 ⟨(some 24), .move (.tmp 37), none, 4, (some ([0, 1, 2, 3], none))⟩] [])) (.cond (.tmp 24) (.seq (.region 4 [
 ⟨(some 38), .move (.tmp 8), none, 0, none⟩,
 ⟨(some 39), .nilCheck (.tmp 38), none, 0, none⟩,
 ⟨(some 40), .fieldAddr 1 (.tmp 39), none, 0, none⟩,
 ⟨(some 41), .load false 1 (.tmp 40), none, 0, none⟩,
 ⟨(some 42), .move (.tmp 9), none, 0, none⟩,
 ⟨(some 43), .indexSl 26 (.tmp 41) (.tmp 42), none, 0, none⟩,
 ⟨(some 44), .fieldAddr 19 (.tmp 43), none, 0, none⟩,
 ⟨(some 45), .load true 5 (.tmp 44), none, 0, none⟩,
 ⟨(some 46), .call (.func 57) [(false, (.tmp 45))] false 4, none, 0, none⟩,
 ⟨(some 6), .move (.const (.int .i64 (2))), none, 4, none⟩,
 ⟨none, .store 5 (.tmp 7) (.tmp 46), none, 4, none⟩] []) (.ret)) (.seq (.region 0 [
 ⟨(some 48), .move (.tmp 10), none, 0, none⟩,
 ⟨(some 47), .move (.tmp 48), none, 0, none⟩] []) (.cond (.tmp 47) (.seq (.region 0 [
 ⟨(some 49), .build [.int .i64 (0), .int .i64 (0), .int .i64 (0), .int .i64 (0), .zsl] [], none, 0, none⟩,
 ⟨(some 6), .move (.const (.int .i64 (3))), none, 0, none⟩,
 ⟨none, .store 5 (.tmp 7) (.tmp 49), none, 0, none⟩] []) (.ret)) (.seq (.region 0 [
 ⟨(some 51), .fieldAddr 1 (.tmp 5), none, 0, (some ([], none))⟩,
 ⟨(some 52), .load false 1 (.tmp 51), none, 0, (some ([], none))⟩,
 ⟨(some 53), .move (.tmp 8), none, 0, (some ([], none))⟩,
 ⟨(some 54), .nilCheck (.tmp 53), none, 0, (some ([], none))⟩,
 ⟨(some 55), .fieldAddr 0 (.tmp 54), none, 0, (some ([], none))⟩,
 ⟨(some 56), .load false 1 (.tmp 55), none, 0, (some ([], none))⟩,
 ⟨(some 57), .bin .leq (.tmp 52) (.tmp 56), none, 0, (some ([], none))⟩,
 ⟨(some 50), .move (.tmp 57), none, 0, (some ([], none))⟩] []) (.cond (.tmp 50) (.seq (.region 0 [
 ⟨(some 58), .build [.int .i64 (0), .int .i64 (0), .int .i64 (0), .int .i64 (0), .zsl] [], none, 0, none⟩,
 ⟨(some 6), .move (.const (.int .i64 (4))), none, 0, none⟩,
 ⟨none, .store 5 (.tmp 7) (.tmp 58), none, 0, none⟩] []) (.ret)) (.skip)))))))) (.seq (.region 0 [
 ⟨(some 59), .build [.int .i64 (0), .int .i64 (0), .int .i64 (0), .int .i64 (0), .zsl] [], none, 0, none⟩,
 ⟨(some 6), .move (.const (.int .i64 (1))), none, 0, none⟩,
 ⟨none, .store 5 (.tmp 7) (.tmp 59), none, 0, none⟩] []) (.ret)))))), [.tmp 6, .cell true 5 7], true⟩
def s29 : Sig := ⟨(.cons (.ptr 0 0 0) (.cons (.v (.int .i64)) (.cons (.v .request) .nil))), [.cell false (.cons (.v (.int .i64)) (.cons (.slw 1 2) .nil)), .cell false (.cons (.v (.int .i64)) (.cons (.slw 2 26) .nil)), .typed .entry], ((.tup (.cons (.v (.int .i64)) (.cons (.v .reply) .nil))), [.cell false (.cons (.v (.int .i64)) (.cons (.slw 1 2) .nil)), .cell false (.cons (.v (.int .i64)) (.cons (.slw 2 26) .nil)), .typed .entry]), []⟩
def F29 (L : Lp) (g53_1 : Int → Int → Int → (List Entry) → Option ((Unit × ((Int × (Unit × Unit)) × ((Int × (Unit × Unit)) × ((List Entry) × Unit)))) ⊕ (Unit × ((Int × (Unit × Unit)) × ((Int × (Unit × Unit)) × ((List Entry) × Unit)))))) (g55_1 : Int → Int → (List Entry) → Option ((Int × (Bool × Unit)) × ((Int × (Unit × Unit)) × ((List Entry) × Unit)))) (g61 : Request → Request → Option Bool) (g57 : Reply → Option Reply) (user0 : Int) (ar1 : Request) (a2 : Int) (a3 : Int) (a4 : (List Entry)) : Option ((Int × (Reply × Unit)) × ((Int × (Unit × Unit)) × ((Int × (Unit × Unit)) × ((List Entry) × Unit)))) :=
 Option.bind (g53_1 user0 a2 a3 a4) (Sum.elim (fun r5 =>
 cond (true && (true && ((decide ((List.length r5.2.2.2.1) = (List.length a4))) && true)))
 (some ((0, Reply.mk 0 0 0 0 [], ()), ((r5.2.1.1, (), ()), (r5.2.2.1.1, (), ()), r5.2.2.2.1, ())))
 (none)) (fun r6 =>
 cond (true && (true && ((decide ((List.length r6.2.2.2.1) = (List.length a4))) && true)))
 (Option.bind (g55_1 ar1.key r6.2.2.1.1 r6.2.2.2.1) fun r7 =>
 cond (true && ((decide ((List.length r7.2.2.1) = (List.length r6.2.2.2.1))) && true))
 (Option.bind (α := ((Unit × (Unit × (Unit × (Bool × Unit)))) × ((Int × (Unit × Unit)) × ((Int × (Unit × Unit)) × ((List Entry) × (Request × ((Int × (Int × (Int × (Int × (Unit × Unit))))) × Unit)))))))
 (cond r7.1.2.1
 (cond (decide (0 ≤ r7.1.1))
 (cond (decide ((Int.toNat r7.1.1) < (List.length r7.2.2.1)))
 (Option.bind (r7.2.2.1[Int.toNat r7.1.1]?) fun y8 =>
 Option.bind (g61 y8.request ar1) fun r9 =>
 some (((), (), (), r9, ()), ((r6.2.1.1, (), ()), (r7.2.1.1, (), ()), r7.2.2.1, ar1, (0, 0, 0, 0, (), ()), ())))
 (none))
 (none))
 (some (((), (), (), false, ()), ((r6.2.1.1, (), ()), (r7.2.1.1, (), ()), r7.2.2.1, ar1, (0, 0, 0, 0, (), ()), ())))) fun x10 =>
 cond x10.1.2.2.2.1
 (cond (decide (0 ≤ r7.1.1))
 (cond (decide ((Int.toNat r7.1.1) < (List.length x10.2.2.2.1)))
 (Option.bind (x10.2.2.2.1[Int.toNat r7.1.1]?) fun y11 =>
 Option.bind (g57 y11.reply) fun r12 =>
 some ((2, r12, ()), ((x10.2.1.1, (), ()), (x10.2.2.1.1, (), ()), x10.2.2.2.1, ())))
 (none))
 (none))
 (cond r7.1.2.1
 (some ((3, Reply.mk 0 0 0 0 [], ()), ((x10.2.1.1, (), ()), (x10.2.2.1.1, (), ()), x10.2.2.2.1, ())))
 (cond (decide (x10.2.2.2.2.1.key ≤ x10.2.2.1.1))
 (some ((4, Reply.mk 0 0 0 0 [], ()), ((x10.2.1.1, (), ()), (x10.2.2.1.1, (), ()), x10.2.2.2.1, ())))
 (some ((1, Reply.mk 0 0 0 0 [], ()), ((x10.2.1.1, (), ()), (x10.2.2.1.1, (), ()), x10.2.2.2.1, ()))))))
 (none))
 (none)))
theorem e29 (L : Lp) (g53_1 : Int → Int → Int → (List Entry) → Option ((Unit × ((Int × (Unit × Unit)) × ((Int × (Unit × Unit)) × ((List Entry) × Unit)))) ⊕ (Unit × ((Int × (Unit × Unit)) × ((Int × (Unit × Unit)) × ((List Entry) × Unit)))))) (g55_1 : Int → Int → (List Entry) → Option ((Int × (Bool × Unit)) × ((Int × (Unit × Unit)) × ((List Entry) × Unit)))) (g61 : Request → Request → Option Bool) (g57 : Reply → Option Reply) (x : s29.args.den) (h : denH s29.heap) : nrun [⟨53, s53_1, fun x h => g53_1 x.2.1 h.1.1 h.2.1.1 h.2.2.1⟩, ⟨55, s55_1, fun x h => g55_1 x.2.1 h.1.1 h.2.1⟩, ⟨61, s61, fun x h => g61 x.1 x.2.1⟩, ⟨57, s57, fun x h => g57 x.1⟩] L n29 s29 x h = F29 L g53_1 g55_1 g61 g57 x.2.1 x.2.2.1 h.1.1 h.2.1.1 h.2.2.1 := by kernel_rfl
def f29 : Int → Request → Int → Int → (List Entry) → Option ((Int × (Reply × Unit)) × ((Int × (Unit × Unit)) × ((Int × (Unit × Unit)) × ((List Entry) × Unit)))) := F29 (@LN LOOPS) f53_1 f55_1 f61 f57
@[reducible] def t29 : Ent := ⟨29, s29, fun x h => f29 x.2.1 x.2.2.1 h.1.1 h.2.1.1 h.2.2.1⟩
theorem k29 : chkNF Try.prog Try.f29 n29 = true := by kernel_rfl
theorem ok29 : NOk Try.prog t29 := NOk.body (T := [t53_1, t55_1, t61, t57]) mixed (nall_cons ok53_1 (nall_cons ok55_1 (nall_cons ok61 (nall_cons ok57 nall_nil)))) (oneEach_of (by kernel_rfl)) Try.func29 k29 (by kernel_rfl) (fun x h => e29 _ _ _ _ _ x h)
/- slices.Insert[[]drayage/api.Entry,drayage/api.Entry] -/
def s58_1 : Sig := ⟨(.cons (.slw 0 26) (.cons (.v (.int .i64)) (.cons (.slw 1 26) .nil))), [.typed .entry, .typed .entry], ((.slw 2 26), [.dead, .typed .entry, .typed .entry]), []⟩
def f58_1 : Int → (List Entry) → (List Entry) → Option (Unit × (Unit × ((List Entry) × ((List Entry) × Unit)))) := insertG 240
@[reducible] def t58_1 : Ent := ⟨58, s58_1, fun x h => f58_1 x.2.1 h.1 h.2.1⟩
theorem ok58_1 : NOk Try.prog t58_1 := ext58
/- (*drayage/keys.Keys).Store -/
def n26_1 : NFunc := ⟨86, .seq (.region 2 [
 ⟨(some 6), .box 17 (.tmp 2), none, 0, none⟩,
 ⟨(some 7), .box 5 (.tmp 3), none, 1, none⟩,
 ⟨(some 8), .move (.const (.int .i64 (0))), none, 2, none⟩] []) (.seq (.seq (.region 0 [
 ⟨(some 13), .move (.tmp 0), none, 0, none⟩,
 ⟨(some 14), .eqP false (.tmp 13) (.const (.nilp)), none, 0, none⟩] []) (.cond (.tmp 14) (.seq (.region 0 [
 ⟨(some 8), .move (.const (.int .i64 (1))), none, 0, none⟩] []) (.ret)) (.skip))) (.seq (.region 4 [
 ⟨(some 15), .move (.tmp 0), none, 0, none⟩,
 ⟨(some 16), .move (.tmp 1), none, 0, none⟩,
 ⟨(some 17), .call (.func 53) [(true, (.tmp 15)), (false, (.tmp 16))] false 4, none, 0, none⟩,
 ⟨(some 9), .move (.tmp 17), none, 4, none⟩] []) (.seq (.seq (.region 4 [
 ⟨(some 18), .move (.tmp 9), none, 0, none⟩,
 ⟨(some 19), .eqP false (.tmp 18) (.const (.nilp)), none, 0, none⟩,
 ⟨(some 20), .move (.tmp 19), none, 0, none⟩,
 ⟨(some 21), .load true 17 (.tmp 6), (some (20, false)), 0, none⟩,
 ⟨(some 22), .call (.func 54) [(false, (.tmp 21))] false 4, (some (20, false)), 0, none⟩,
 ⟨(some 23), .un .not (.tmp 22), (some (20, false)), 4, none⟩,
 ⟨(some 24), .pick (.tmp 20) (.const (.bool true)) (.tmp 23), none, 4, none⟩] []) (.cond (.tmp 24) (.seq (.region 0 [
 ⟨(some 8), .move (.const (.int .i64 (2))), none, 0, none⟩] []) (.ret)) (.skip))) (.seq (.region 4 [
 ⟨(some 26), .move (.tmp 9), none, 0, none⟩,
 ⟨(some 27), .fieldAddr 1 (.tmp 6), none, 0, none⟩,
 ⟨(some 28), .load false 1 (.tmp 27), none, 0, none⟩,
 ⟨(some 29), .call (.func 55) [(true, (.tmp 26)), (false, (.tmp 28))] false 4, none, 0, none⟩,
 ⟨(some 25), .move (.tmp 29), none, 4, none⟩,
 ⟨(some 30), .extract (.tmp 25) 0, none, 4, none⟩,
 ⟨(some 31), .extract (.tmp 25) 1, none, 4, none⟩,
 ⟨(some 10), .move (.tmp 30), none, 4, none⟩,
 ⟨(some 11), .move (.tmp 31), none, 4, none⟩] []) (.seq (.seq (.region 0 [
 ⟨(some 32), .move (.tmp 11), none, 0, none⟩] []) (.cond (.tmp 32) (.seq (.region 0 [
 ⟨(some 8), .move (.const (.int .i64 (31))), none, 0, none⟩] []) (.ret)) (.skip))) (.seq (.seq (.region 0 [
 ⟨(some 33), .fieldAddr 1 (.tmp 6), none, 0, (some ([], none))⟩,
 ⟨(some 34), .load false 1 (.tmp 33), none, 0, (some ([], none))⟩,
 ⟨(some 35), .move (.tmp 9), none, 0, (some ([], none))⟩,
 ⟨(some 36), .nilCheck (.tmp 35), none, 0, (some ([], none))⟩,
 ⟨(some 37), .fieldAddr 0 (.tmp 36), none, 0, (some ([], none))⟩,
 ⟨(some 38), .load false 1 (.tmp 37), none, 0, (some ([], none))⟩,
 ⟨(some 39), .bin .leq (.tmp 34) (.tmp 38), none, 0, (some ([], none))⟩] []) (.cond (.tmp 39) (.seq (.region 0 [
 ⟨(some 8), .move (.const (.int .i64 (51))), none, 0, none⟩] []) (.ret)) (.skip))) (.seq (.region 9 [
 ⟨(some 40), .move (.tmp 1), none, 0, (some ([], none))⟩,
 ⟨(some 41), .load true 17 (.tmp 6), none, 0, (some ([], none))⟩,
 ⟨(some 42), .call (.func 56) [(false, (.tmp 41))] true 4, none, 0, (some ([], none))⟩,
 ⟨(some 43), .load true 5 (.tmp 7), none, 4, (some ([], none))⟩,
 ⟨(some 44), .call (.func 57) [(false, (.tmp 43))] true 4, none, 4, (some ([0, 1, 2, 3], none))⟩,
 ⟨(some 45), .build [.int .i64 (0), .int .i64 (0), .int .i64 (0), .int .i64 (0), .int .i64 (0), .int .i64 (0), .int .i64 (0), .int .i64 (0), .int .i64 (0), .int .i64 (0), .int .i64 (0), .int .i64 (0), .int .i64 (0), .int .i64 (0), .zsl, .int .i64 (0), .int .i64 (0), .int .i64 (0), .int .i64 (0), .int .i64 (0), .int .i64 (0), .int .i64 (0), .int .i64 (0), .zsl, .int .i64 (0), .bool false] [(1, 1, (.tmp 40)), (2, 17, (.tmp 42)), (19, 5, (.tmp 44))], none, 8, (some ([0, 1, 2, 3, 4, 5, 6, 7], none))⟩,
 ⟨(some 12), .alloc [.int .i64 (0), .int .i64 (0), .int .i64 (0), .int .i64 (0), .int .i64 (0), .int .i64 (0), .int .i64 (0), .int .i64 (0), .int .i64 (0), .int .i64 (0), .int .i64 (0), .int .i64 (0), .int .i64 (0), .int .i64 (0), .zsl, .int .i64 (0), .int .i64 (0), .int .i64 (0), .int .i64 (0), .int .i64 (0), .int .i64 (0), .int .i64 (0), .int .i64 (0), .zsl, .int .i64 (0), .bool false], none, 8, (some ([], none))⟩,
 ⟨none, .store 26 (.tmp 12) (.tmp 45), none, 9, (some ([0, 1, 2, 3, 4, 5, 6, 7, 8], none))⟩] []) (.seq (.region 5 [
 ⟨(some 46), .move (.tmp 9), none, 0, (some ([], none))⟩,
 ⟨(some 47), .move (.tmp 9), none, 0, (some ([], none))⟩,
 ⟨(some 48), .nilCheck (.tmp 47), none, 0, (some ([], none))⟩,
 ⟨(some 49), .fieldAddr 1 (.tmp 48), none, 0, (some ([], none))⟩,
 ⟨(some 50), .load false 1 (.tmp 49), none, 0, (some ([], none))⟩,
 ⟨(some 51), .move (.tmp 10), none, 0, (some ([], none))⟩,
 ⟨(some 52), .load true 26 (.tmp 12), none, 0, (some ([], none))⟩,
 ⟨(some 53), .buildSlice 26 1 true [.int .i64 (0), .int .i64 (0), .int .i64 (0), .int .i64 (0), .int .i64 (0), .int .i64 (0), .int .i64 (0), .int .i64 (0), .int .i64 (0), .int .i64 (0), .int .i64 (0), .int .i64 (0), .int .i64 (0), .int .i64 (0), .zsl, .int .i64 (0), .int .i64 (0), .int .i64 (0), .int .i64 (0), .int .i64 (0), .int .i64 (0), .int .i64 (0), .int .i64 (0), .zsl, .int .i64 (0), .bool false] [(0, (.tmp 52))], none, 0, (some ([], none))⟩,
 ⟨(some 54), .call (.func 58) [(true, (.tmp 50)), (false, (.tmp 51)), (true, (.tmp 53))] false 4, none, 1, (some ([0], none))⟩,
 ⟨(some 55), .nilCheck (.tmp 46), none, 5, (some ([0, 1, 2, 3, 4], none))⟩,
 ⟨(some 56), .fieldAddr 1 (.tmp 55), none, 5, (some ([0, 1, 2, 3, 4], none))⟩,
 ⟨none, .store 1 (.tmp 56) (.tmp 54), none, 5, (some ([0, 1, 2, 3, 4], none))⟩] []) (.seq (.seq (.region 0 [
 ⟨(some 57), .move (.tmp 9), none, 0, (some ([], none))⟩,
 ⟨(some 58), .nilCheck (.tmp 57), none, 0, (some ([], none))⟩,
 ⟨(some 59), .fieldAddr 1 (.tmp 58), none, 0, (some ([], none))⟩,
 ⟨(some 60), .load false 1 (.tmp 59), none, 0, (some ([], none))⟩,
 ⟨(some 61), .len (.tmp 60), none, 0, (some ([], none))⟩,
 ⟨(some 62), .move (.tmp 0), none, 0, (some ([], none))⟩,
 ⟨(some 63), .nilCheck (.tmp 62), none, 0, (some ([], none))⟩,
 ⟨(some 64), .fieldAddr 0 (.tmp 63), none, 0, (some ([], none))⟩,
 ⟨(some 65), .load false 1 (.tmp 64), none, 0, (some ([], none))⟩,
 ⟨(some 66), .bin .gtr (.tmp 61) (.tmp 65), none, 0, (some ([], none))⟩] []) (.cond (.tmp 66) (.seq (.region 0 [
 ⟨(some 67), .move (.tmp 9), none, 0, none⟩,
 ⟨(some 68), .move (.tmp 9), none, 0, none⟩,
 ⟨(some 69), .nilCheck (.tmp 68), none, 0, none⟩,
 ⟨(some 70), .fieldAddr 1 (.tmp 69), none, 0, none⟩,
 ⟨(some 71), .load false 1 (.tmp 70), none, 0, none⟩,
 ⟨(some 72), .indexSl 26 (.tmp 71) (.const (.int .i64 (0))), none, 0, none⟩,
 ⟨(some 73), .fieldAddr 2 (.tmp 72), none, 0, none⟩,
 ⟨(some 74), .fieldAddr 1 (.tmp 73), none, 0, none⟩,
 ⟨(some 75), .load false 1 (.tmp 74), none, 0, none⟩,
 ⟨(some 76), .nilCheck (.tmp 67), none, 0, none⟩,
 ⟨(some 77), .fieldAddr 0 (.tmp 76), none, 0, none⟩,
 ⟨none, .store 1 (.tmp 77) (.tmp 75), none, 0, none⟩] []) (.region 4 [
 ⟨(some 78), .move (.tmp 9), none, 0, none⟩,
 ⟨(some 79), .move (.tmp 9), none, 0, none⟩,
 ⟨(some 80), .nilCheck (.tmp 79), none, 0, none⟩,
 ⟨(some 81), .fieldAddr 1 (.tmp 80), none, 0, none⟩,
 ⟨(some 82), .load false 1 (.tmp 81), none, 0, none⟩,
 ⟨(some 83), .call (.func 59) [(true, (.tmp 82)), (false, (.const (.int .i64 (0)))), (false, (.const (.int .i64 (1))))] false 4, none, 0, none⟩,
 ⟨(some 84), .nilCheck (.tmp 78), none, 4, none⟩,
 ⟨(some 85), .fieldAddr 1 (.tmp 84), none, 4, none⟩,
 ⟨none, .store 1 (.tmp 85) (.tmp 83), none, 4, none⟩] [])) (.skip))) (.seq (.region 0 [
 ⟨(some 8), .move (.const (.int .i64 (0))), none, 0, none⟩] []) (.ret))))))))))), [.tmp 8], true⟩
def s26_1 : Sig := ⟨(.cons (.ptr 0 0 0) (.cons (.v (.int .i64)) (.cons (.v .request) (.cons (.v .reply) .nil)))), [.cell false (.cons (.v (.int .i64)) (.cons (.slw 1 2) .nil)), .cell false (.cons (.v (.int .i64)) (.cons (.slw 2 26) .nil)), .typed .entry], ((.v (.int .i64)), [.cell false (.cons (.v (.int .i64)) (.cons (.slw 1 2) .nil)), .cell false (.cons (.v (.int .i64)) (.cons (.slw 2 26) .nil)), .typed .entry]), [((.v (.int .i64)), [.cell false (.cons (.v (.int .i64)) (.cons (.slw 1 2) .nil)), .cell false (.cons (.v (.int .i64)) (.cons (.slw 3 26) .nil)), .dead, .typed .entry])]⟩
def F26_1 (L : Lp) (g53_1 : Int → Int → Int → (List Entry) → Option ((Unit × ((Int × (Unit × Unit)) × ((Int × (Unit × Unit)) × ((List Entry) × Unit)))) ⊕ (Unit × ((Int × (Unit × Unit)) × ((Int × (Unit × Unit)) × ((List Entry) × Unit)))))) (g54 : Request → Option Bool) (g55_1 : Int → Int → (List Entry) → Option ((Int × (Bool × Unit)) × ((Int × (Unit × Unit)) × ((List Entry) × Unit)))) (g56 : Request → Option Request) (g57 : Reply → Option Reply) (g58_1 : Int → (List Entry) → (List Entry) → Option (Unit × (Unit × ((List Entry) × ((List Entry) × Unit))))) (g59 : Int → Int → (List Entry) → Option (Unit × (Unit × ((List Entry) × Unit)))) (user0 : Int) (ar1 : Request) (a2 : Reply) (a3 : Int) (a4 : Int) (a5 : (List Entry)) : Option ((Int × ((Int × (Unit × Unit)) × ((Int × (Unit × Unit)) × ((List Entry) × Unit)))) ⊕ (Int × ((Int × (Unit × Unit)) × ((Int × (Unit × Unit)) × (Unit × ((List Entry) × Unit)))))) :=
 Option.bind (g53_1 user0 a3 a4 a5) (Sum.elim (fun r6 =>
 cond (true && (true && ((decide ((List.length r6.2.2.2.1) = (List.length a5))) && true)))
 (some (.inl (2, ((r6.2.1.1, (), ()), (r6.2.2.1.1, (), ()), r6.2.2.2.1, ()))))
 (none)) (fun r7 =>
 cond (true && (true && ((decide ((List.length r7.2.2.2.1) = (List.length a5))) && true)))
 (Option.bind (g54 ar1) fun r8 =>
 cond (!r8)
 (some (.inl (2, ((r7.2.1.1, (), ()), (r7.2.2.1.1, (), ()), r7.2.2.2.1, ()))))
 (Option.bind (g55_1 ar1.key r7.2.2.1.1 r7.2.2.2.1) fun r9 =>
 cond (true && ((decide ((List.length r9.2.2.1) = (List.length r7.2.2.2.1))) && true))
 (cond r9.1.2.1
 (some (.inl (31, ((r7.2.1.1, (), ()), (r9.2.1.1, (), ()), r9.2.2.1, ()))))
 (cond (decide (ar1.key ≤ r9.2.1.1))
 (some (.inl (51, ((r7.2.1.1, (), ()), (r9.2.1.1, (), ()), r9.2.2.1, ()))))
 (Option.bind (g56 ar1) fun r10 =>
 Option.bind (g57 a2) fun r11 =>
 Option.bind (g58_1 r9.1.1 r9.2.2.1 [Entry.mk 0 user0 r10 r11 0 false]) fun r12 =>
 cond (true && ((decide ((List.length r12.2.2.1) = 1)) && true))
 (cond (decide (r7.2.1.1 < (List.length r12.2.2.2.1 : Int)))
 (cond (decide (0 < (List.length r12.2.2.2.1)))
 (Option.bind (r12.2.2.2.1[0]?) fun y13 =>
 Option.bind (g59 0 1 r12.2.2.2.1) fun r14 =>
 some (.inr (0, ((r7.2.1.1, (), ()), (y13.request.key, (), ()), (), r14.2.2.1, ()))))
 (none))
 (some (.inr (0, ((r7.2.1.1, (), ()), (r9.2.1.1, (), ()), (), r12.2.2.2.1, ())))))
 (none))))
 (none)))
 (none)))
theorem e26_1 (L : Lp) (g53_1 : Int → Int → Int → (List Entry) → Option ((Unit × ((Int × (Unit × Unit)) × ((Int × (Unit × Unit)) × ((List Entry) × Unit)))) ⊕ (Unit × ((Int × (Unit × Unit)) × ((Int × (Unit × Unit)) × ((List Entry) × Unit)))))) (g54 : Request → Option Bool) (g55_1 : Int → Int → (List Entry) → Option ((Int × (Bool × Unit)) × ((Int × (Unit × Unit)) × ((List Entry) × Unit)))) (g56 : Request → Option Request) (g57 : Reply → Option Reply) (g58_1 : Int → (List Entry) → (List Entry) → Option (Unit × (Unit × ((List Entry) × ((List Entry) × Unit))))) (g59 : Int → Int → (List Entry) → Option (Unit × (Unit × ((List Entry) × Unit)))) (x : s26_1.args.den) (h : denH s26_1.heap) : nrun [⟨53, s53_1, fun x h => g53_1 x.2.1 h.1.1 h.2.1.1 h.2.2.1⟩, ⟨54, s54, fun x h => g54 x.1⟩, ⟨55, s55_1, fun x h => g55_1 x.2.1 h.1.1 h.2.1⟩, ⟨56, s56, fun x h => g56 x.1⟩, ⟨57, s57, fun x h => g57 x.1⟩, ⟨58, s58_1, fun x h => g58_1 x.2.1 h.1 h.2.1⟩, ⟨59, s59, fun x h => g59 x.2.1 x.2.2.1 h.1⟩] L n26_1 s26_1 x h = F26_1 L g53_1 g54 g55_1 g56 g57 g58_1 g59 x.2.1 x.2.2.1 x.2.2.2.1 h.1.1 h.2.1.1 h.2.2.1 := by kernel_rfl
def f26_1 : Int → Request → Reply → Int → Int → (List Entry) → Option ((Int × ((Int × (Unit × Unit)) × ((Int × (Unit × Unit)) × ((List Entry) × Unit)))) ⊕ (Int × ((Int × (Unit × Unit)) × ((Int × (Unit × Unit)) × (Unit × ((List Entry) × Unit)))))) := F26_1 (@LN LOOPS) f53_1 f54 f55_1 f56 f57 f58_1 f59
@[reducible] def t26_1 : Ent := ⟨26, s26_1, fun x h => f26_1 x.2.1 x.2.2.1 x.2.2.2.1 h.1.1 h.2.1.1 h.2.2.1⟩
theorem k26_1 : chkNF Try.prog Try.f26 n26_1 = true := by kernel_rfl
theorem ok26_1 : NOk Try.prog t26_1 := NOk.body (T := [t53_1, t54, t55_1, t56, t57, t58_1, t59]) mixed (nall_cons ok53_1 (nall_cons ok54 (nall_cons ok55_1 (nall_cons ok56 (nall_cons ok57 (nall_cons ok58_1 (nall_cons ok59 nall_nil))))))) (oneEach_of (by kernel_rfl)) Try.func26 k26_1 (by kernel_rfl) (fun x h => e26_1 _ _ _ _ _ _ _ _ x h)
/- drayage/drayagelaw37.awake -/
def n23 : NFunc := ⟨80, .seq (.region 0 [
 ⟨(some 0), .move (.const (.bool false)), none, 0, none⟩] []) (.seq (.meet [1, 2] [] ⟨[(1, (.ptr 0 0 0)), (2, (.v (.int .i64)))], [], [.cell false (.cons (.v (.int .i64)) (.cons (.slw 1 2) .nil)), .cell false (.cons (.v (.int .i64)) (.cons .zsl .nil))]⟩ (.region 4 [
 ⟨(some 14), .call (.func 25) [(false, (.const (.int .i64 (1)))), (false, (.const (.int .i64 (2))))] false 4, none, 0, none⟩,
 ⟨(some 13), .move (.tmp 14), none, 4, none⟩,
 ⟨(some 15), .extract (.tmp 13) 0, none, 4, none⟩,
 ⟨(some 16), .extract (.tmp 13) 1, none, 4, none⟩,
 ⟨(some 1), .move (.tmp 15), none, 4, none⟩,
 ⟨(some 2), .move (.tmp 16), none, 4, none⟩] [])) (.seq (.seq (.region 1 [
 ⟨(some 17), .buildSlice 1 3 true [.int .i64 (0)] [(0, (.const (.int .i64 (5)))), (1, (.const (.int .i64 (9)))), (2, (.const (.int .i64 (7))))], none, 0, none⟩,
 ⟨(some 18), .len (.tmp 17), none, 1, none⟩,
 ⟨(some 19), .move (.const (.int .i64 (0))), none, 1, none⟩] []) (.block 0 (.pre [1, 2, 17, 18, 19] [.matP 1 [(0, 1), (0, 1)] 26 true] (.loop [1, 2, 17, 18, 19] ⟨[(1, (.ptr 0 0 0)), (17, (.slw 1 1)), (19, (.v (.int .i64)))], [2, 18], [.cell false (.cons (.v (.int .i64)) (.cons (.slw 2 2) .nil)), .typed (.int .i64), .cell false (.cons (.v (.int .i64)) (.cons (.slw 3 26) .nil)), .typed .entry]⟩ (.seq (.region 0 [
 ⟨(some 20), .bin .lss (.tmp 19) (.tmp 18), none, 0, none⟩] []) (.seq (.cond (.tmp 20) (.skip) (.exit 0)) (.seq (.block 1 (.seq (.region 0 [
 ⟨(some 21), .indexSl 1 (.tmp 17) (.tmp 19), none, 0, none⟩,
 ⟨(some 22), .load false 1 (.tmp 21), none, 0, none⟩,
 ⟨(some 4), .move (.tmp 22), none, 0, none⟩] []) (.seq (.region 8 [
 ⟨(some 23), .move (.tmp 1), none, 0, none⟩,
 ⟨(some 24), .move (.tmp 4), none, 0, none⟩,
 ⟨(some 25), .call (.func 52) [(false, (.tmp 24))] false 4, none, 0, none⟩,
 ⟨(some 26), .move (.tmp 4), none, 4, none⟩,
 ⟨(some 27), .build [.int .i64 (0), .int .i64 (0), .int .i64 (0), .int .i64 (0), .zsl] [(0, 1, (.tmp 26))], none, 4, none⟩,
 ⟨(some 28), .call (.func 26) [(true, (.tmp 23)), (false, (.const (.int .i64 (0)))), (false, (.tmp 25)), (false, (.tmp 27))] false 4, none, 4, none⟩,
 ⟨(some 29), .bin .neq (.tmp 28) (.const (.int .i64 (0))), none, 8, none⟩] []) (.cond (.tmp 29) (.seq (.region 0 [
 ⟨(some 0), .move (.const (.bool false)), none, 0, none⟩] []) (.ret)) (.skip))))) (.region 0 [
 ⟨(some 30), .bin .add (.tmp 19) (.const (.int .i64 (1))), none, 0, none⟩,
 ⟨(some 19), .move (.tmp 30), none, 0, none⟩] [])))))))) (.seq (.region 9 [
 ⟨(some 32), .move (.tmp 1), none, 0, none⟩,
 ⟨(some 33), .call (.func 52) [(false, (.const (.int .i64 (5))))] false 4, none, 0, none⟩,
 ⟨(some 34), .call (.func 29) [(true, (.tmp 32)), (false, (.const (.int .i64 (0)))), (false, (.tmp 33))] false 4, none, 4, none⟩,
 ⟨(some 31), .move (.tmp 34), none, 8, none⟩,
 ⟨(some 35), .extract (.tmp 31) 0, none, 8, none⟩,
 ⟨(some 36), .extract (.tmp 31) 1, none, 8, none⟩,
 ⟨(some 6), .alloc [.int .i64 (0), .int .i64 (0), .int .i64 (0), .int .i64 (0), .zsl], none, 8, none⟩,
 ⟨(some 5), .move (.tmp 35), none, 9, none⟩,
 ⟨none, .store 5 (.tmp 6) (.tmp 36), none, 9, none⟩] []) (.seq (.region 9 [
 ⟨(some 38), .move (.tmp 1), none, 0, none⟩,
 ⟨(some 39), .call (.func 52) [(false, (.const (.int .i64 (4))))] false 4, none, 0, none⟩,
 ⟨(some 40), .call (.func 29) [(true, (.tmp 38)), (false, (.const (.int .i64 (0)))), (false, (.tmp 39))] false 4, none, 4, none⟩,
 ⟨(some 37), .move (.tmp 40), none, 8, none⟩,
 ⟨(some 41), .extract (.tmp 37) 0, none, 8, none⟩,
 ⟨(some 42), .extract (.tmp 37) 1, none, 8, none⟩,
 ⟨(some 8), .alloc [.int .i64 (0), .int .i64 (0), .int .i64 (0), .int .i64 (0), .zsl], none, 8, none⟩,
 ⟨(some 7), .move (.tmp 41), none, 9, none⟩,
 ⟨none, .store 5 (.tmp 8) (.tmp 42), none, 9, none⟩] []) (.seq (.region 9 [
 ⟨(some 44), .move (.tmp 1), none, 0, none⟩,
 ⟨(some 45), .call (.func 52) [(false, (.const (.int .i64 (8))))] false 4, none, 0, none⟩,
 ⟨(some 46), .call (.func 29) [(true, (.tmp 44)), (false, (.const (.int .i64 (0)))), (false, (.tmp 45))] false 4, none, 4, none⟩,
 ⟨(some 43), .move (.tmp 46), none, 8, none⟩,
 ⟨(some 47), .extract (.tmp 43) 0, none, 8, none⟩,
 ⟨(some 48), .extract (.tmp 43) 1, none, 8, none⟩,
 ⟨(some 10), .alloc [.int .i64 (0), .int .i64 (0), .int .i64 (0), .int .i64 (0), .zsl], none, 8, none⟩,
 ⟨(some 9), .move (.tmp 47), none, 9, none⟩,
 ⟨none, .store 5 (.tmp 10) (.tmp 48), none, 9, none⟩] []) (.seq (.region 9 [
 ⟨(some 50), .move (.tmp 1), none, 0, none⟩,
 ⟨(some 51), .call (.func 52) [(false, (.const (.int .i64 (7))))] false 4, none, 0, none⟩,
 ⟨(some 52), .call (.func 29) [(true, (.tmp 50)), (false, (.const (.int .i64 (0)))), (false, (.tmp 51))] false 4, none, 4, none⟩,
 ⟨(some 49), .move (.tmp 52), none, 8, none⟩,
 ⟨(some 53), .extract (.tmp 49) 0, none, 8, none⟩,
 ⟨(some 54), .extract (.tmp 49) 1, none, 8, none⟩,
 ⟨(some 12), .alloc [.int .i64 (0), .int .i64 (0), .int .i64 (0), .int .i64 (0), .zsl], none, 8, none⟩,
 ⟨(some 11), .move (.tmp 53), none, 9, none⟩,
 ⟨none, .store 5 (.tmp 12) (.tmp 54), none, 9, none⟩] []) (.seq (.region 0 [
 ⟨(some 55), .move (.tmp 2), none, 0, none⟩,
 ⟨(some 56), .bin .eql (.tmp 55) (.const (.int .i64 (0))), none, 0, none⟩,
 ⟨(some 57), .move (.tmp 56), none, 0, none⟩,
 ⟨(some 58), .move (.tmp 5), (some (57, true)), 0, none⟩,
 ⟨(some 59), .bin .eql (.tmp 58) (.const (.int .i64 (4))), (some (57, true)), 0, none⟩,
 ⟨(some 60), .pick (.tmp 57) (.tmp 59) (.const (.bool false)), none, 0, none⟩,
 ⟨(some 61), .move (.tmp 60), none, 0, none⟩,
 ⟨(some 62), .move (.tmp 7), (some (61, true)), 0, none⟩,
 ⟨(some 63), .bin .eql (.tmp 62) (.const (.int .i64 (4))), (some (61, true)), 0, none⟩,
 ⟨(some 64), .pick (.tmp 61) (.tmp 63) (.const (.bool false)), none, 0, none⟩,
 ⟨(some 65), .move (.tmp 64), none, 0, none⟩,
 ⟨(some 66), .move (.tmp 9), (some (65, true)), 0, none⟩,
 ⟨(some 67), .bin .eql (.tmp 66) (.const (.int .i64 (1))), (some (65, true)), 0, none⟩,
 ⟨(some 68), .pick (.tmp 65) (.tmp 67) (.const (.bool false)), none, 0, none⟩,
 ⟨(some 69), .move (.tmp 68), none, 0, none⟩,
 ⟨(some 70), .move (.tmp 11), (some (69, true)), 0, none⟩,
 ⟨(some 71), .bin .eql (.tmp 70) (.const (.int .i64 (2))), (some (69, true)), 0, none⟩,
 ⟨(some 72), .pick (.tmp 69) (.tmp 71) (.const (.bool false)), none, 0, none⟩,
 ⟨(some 73), .move (.tmp 72), none, 0, none⟩,
 ⟨(some 74), .fieldAddr 0 (.tmp 12), (some (73, true)), 0, none⟩,
 ⟨(some 75), .load false 1 (.tmp 74), (some (73, true)), 0, none⟩,
 ⟨(some 76), .bin .eql (.tmp 75) (.const (.int .i64 (7))), (some (73, true)), 0, none⟩,
 ⟨(some 77), .pick (.tmp 73) (.tmp 76) (.const (.bool false)), none, 0, none⟩,
 ⟨(some 78), .move (.tmp 77), none, 0, none⟩,
 ⟨(some 79), .pick (.tmp 78) (.const (.bool true)) (.const (.bool false)), none, 0, none⟩,
 ⟨(some 0), .move (.tmp 79), none, 0, none⟩] []) (.ret)))))))), [.tmp 0], true⟩
def s23 : Sig := ⟨.nil, [], ((.v .bool), []), []⟩
def l23_0 (g52 : Int → Option Request) (g26_1 : Int → Request → Reply → Int → Int → (List Entry) → Option ((Int × ((Int × (Unit × Unit)) × ((Int × (Unit × Unit)) × ((List Entry) × Unit)))) ⊕ (Int × ((Int × (Unit × Unit)) × ((Int × (Unit × Unit)) × (Unit × ((List Entry) × Unit))))))) (g29 : Int → Request → Int → Int → (List Entry) → Option ((Int × (Reply × Unit)) × ((Int × (Unit × Unit)) × ((Int × (Unit × Unit)) × ((List Entry) × Unit))))) (x4 : ((Unit × (Int × Unit)) × ((Int × (Unit × Unit)) × ((Int × (Unit × Unit)) × Unit)))) (nx6 : ((Unit × (Unit × (Int × Unit))) × ((Int × (Unit × Unit)) × ((List Int) × ((Int × (Unit × Unit)) × ((List Entry) × Unit))))) → Option Bool) (z7 : Int) (z8 : Int) (z9 : (List Int)) (z10 : Int) (z11 : (List Entry)) : Option Bool :=
 cond (decide (z7 < 3))
 (cond (decide (0 ≤ z7))
 (cond (decide ((Int.toNat z7) < (List.length z9)))
 (Option.bind (z9[Int.toNat z7]?) fun y12 =>
 Option.bind (g52 y12) fun r13 =>
 Option.bind (g26_1 0 r13 (Reply.mk y12 0 0 0 []) z8 z10 z11) (Sum.elim (fun r14 =>
 cond (true && (true && ((decide ((List.length r14.2.2.2.1) = (List.length z11))) && true)))
 (cond (!decide (r14.1 = 0))
 (some false)
 (nx6 (((), (), IntKind.wrap .i64 (z7 + 1), ()), ((r14.2.1.1, (), ()), z9, (r14.2.2.1.1, (), ()), r14.2.2.2.1, ()))))
 (none)) (fun r15 =>
 cond (!decide (r15.1 = 0))
 (some false)
 (nx6 (((), (), IntKind.wrap .i64 (z7 + 1), ()), ((r15.2.1.1, (), ()), z9, (r15.2.2.1.1, (), ()), r15.2.2.2.2.1, ()))))))
 (none))
 (none))
 (Option.bind (g52 5) fun r16 =>
 Option.bind (g29 0 r16 z8 z10 z11) fun r17 =>
 cond (true && (true && ((decide ((List.length r17.2.2.2.1) = (List.length z11))) && true)))
 (Option.bind (g52 4) fun r18 =>
 Option.bind (g29 0 r18 r17.2.1.1 r17.2.2.1.1 r17.2.2.2.1) fun r19 =>
 cond (true && (true && ((decide ((List.length r19.2.2.2.1) = (List.length r17.2.2.2.1))) && true)))
 (Option.bind (g52 8) fun r20 =>
 Option.bind (g29 0 r20 r19.2.1.1 r19.2.2.1.1 r19.2.2.2.1) fun r21 =>
 cond (true && (true && ((decide ((List.length r21.2.2.2.1) = (List.length r19.2.2.2.1))) && true)))
 (Option.bind (g52 7) fun r22 =>
 Option.bind (g29 0 r22 r21.2.1.1 r21.2.2.1.1 r21.2.2.2.1) fun r23 =>
 cond (true && (true && ((decide ((List.length r23.2.2.2.1) = (List.length r21.2.2.2.1))) && true)))
 (cond (decide (x4.1.2.1 = 0))
 (cond (decide (r17.1.1 = 4))
 (cond (decide (r19.1.1 = 4))
 (cond (decide (r21.1.1 = 1))
 (cond (decide (r23.1.1 = 2))
 (cond (decide (r23.1.2.1.key = 7))
 (some true)
 (some false))
 (some false))
 (some false))
 (some false))
 (some false))
 (some false))
 (none))
 (none))
 (none))
 (none))
def F23 (L : Lp) (g25 : Int → Int → Option ((Unit × (Int × Unit)) ⊕ (((Unit × (Int × Unit)) × ((Int × (Unit × Unit)) × (((Int × (Unit × Unit)) × ((Int × (Unit × Unit)) × Unit)) × Unit))) ⊕ (((Unit × (Int × Unit)) × ((Int × (Unit × Unit)) × ((Int × (Unit × Unit)) × Unit))) ⊕ ((Unit × (Int × Unit)) × ((Int × (Unit × Unit)) × (Unit × Unit))))))) (g52 : Int → Option Request) (g26_1 : Int → Request → Reply → Int → Int → (List Entry) → Option ((Int × ((Int × (Unit × Unit)) × ((Int × (Unit × Unit)) × ((List Entry) × Unit)))) ⊕ (Int × ((Int × (Unit × Unit)) × ((Int × (Unit × Unit)) × (Unit × ((List Entry) × Unit))))))) (g29 : Int → Request → Int → Int → (List Entry) → Option ((Int × (Reply × Unit)) × ((Int × (Unit × Unit)) × ((Int × (Unit × Unit)) × ((List Entry) × Unit)))))  : Option Bool :=
 Option.bind (α := ((Unit × (Int × Unit)) × ((Int × (Unit × Unit)) × ((Int × (Unit × Unit)) × Unit))))
 (Option.bind (g25 1 2) (Sum.elim (fun r0 =>
 none) (Sum.elim (fun r1 =>
 none) (Sum.elim (fun r2 =>
 some (((), r2.1.2.1, ()), ((r2.2.1.1, (), ()), (r2.2.2.1.1, (), ()), ()))) (fun r3 =>
 none))))) fun x4 =>
 L (fun (s5 : ((Unit × (Unit × (Int × Unit))) × ((Int × (Unit × Unit)) × ((List Int) × ((Int × (Unit × Unit)) × ((List Entry) × Unit)))))) nx6 => l23_0 g52 g26_1 g29 x4 nx6 s5.1.2.2.1 s5.2.1.1 s5.2.2.1 s5.2.2.2.1.1 s5.2.2.2.2.1) (((), (), 0, ()), ((x4.2.1.1, (), ()), [5, 9, 7], (x4.2.2.1.1, (), ()), [], ()))
theorem e23 (L : Lp) (g25 : Int → Int → Option ((Unit × (Int × Unit)) ⊕ (((Unit × (Int × Unit)) × ((Int × (Unit × Unit)) × (((Int × (Unit × Unit)) × ((Int × (Unit × Unit)) × Unit)) × Unit))) ⊕ (((Unit × (Int × Unit)) × ((Int × (Unit × Unit)) × ((Int × (Unit × Unit)) × Unit))) ⊕ ((Unit × (Int × Unit)) × ((Int × (Unit × Unit)) × (Unit × Unit))))))) (g52 : Int → Option Request) (g26_1 : Int → Request → Reply → Int → Int → (List Entry) → Option ((Int × ((Int × (Unit × Unit)) × ((Int × (Unit × Unit)) × ((List Entry) × Unit)))) ⊕ (Int × ((Int × (Unit × Unit)) × ((Int × (Unit × Unit)) × (Unit × ((List Entry) × Unit))))))) (g29 : Int → Request → Int → Int → (List Entry) → Option ((Int × (Reply × Unit)) × ((Int × (Unit × Unit)) × ((Int × (Unit × Unit)) × ((List Entry) × Unit))))) (x : s23.args.den) (h : denH s23.heap) : nrun [⟨25, s25, fun x h => g25 x.1 x.2.1⟩, ⟨52, s52, fun x h => g52 x.1⟩, ⟨26, s26_1, fun x h => g26_1 x.2.1 x.2.2.1 x.2.2.2.1 h.1.1 h.2.1.1 h.2.2.1⟩, ⟨29, s29, fun x h => g29 x.2.1 x.2.2.1 h.1.1 h.2.1.1 h.2.2.1⟩] L n23 s23 x h = F23 L g25 g52 g26_1 g29  := by kernel_rfl
def f23 : Option Bool := F23 (@LN LOOPS) f25 f52 f26_1 f29
@[reducible] def t23 : Ent := ⟨23, s23, fun x h => f23 ⟩
theorem k23 : chkNF Try.prog Try.f23 n23 = true := by kernel_rfl
theorem ok23 : NOk Try.prog t23 := NOk.body (T := [t25, t52, t26_1, t29]) mixed (nall_cons ok25 (nall_cons ok52 (nall_cons ok26_1 (nall_cons ok29 nall_nil)))) (oneEach_of (by kernel_rfl)) Try.func23 k23 (by kernel_rfl) (fun x h => e23 _ _ _ _ _ x h)
/- drayage/drayagelaw37.Few -/
def n24 : NFunc := ⟨27, .seq (.region 0 [
 ⟨(some 2), .move (.const (.bool false)), none, 0, none⟩] []) (.seq (.seq (.region 0 [
 ⟨(some 5), .move (.tmp 0), none, 0, none⟩,
 ⟨(some 6), .len (.tmp 5), none, 0, none⟩,
 ⟨(some 7), .bin .gtr (.tmp 6) (.const (.int .i64 (40))), none, 0, none⟩] []) (.cond (.tmp 7) (.seq (.region 0 [
 ⟨(some 2), .move (.const (.bool false)), none, 0, none⟩] []) (.ret)) (.skip))) (.seq (.seq (.region 0 [
 ⟨(some 8), .move (.tmp 0), none, 0, none⟩,
 ⟨(some 9), .len (.tmp 8), none, 0, none⟩,
 ⟨(some 10), .move (.const (.int .i64 (0))), none, 0, none⟩] []) (.block 0 (.loop [8, 9, 10] ⟨[(10, (.v (.int .i64)))], [8, 9], []⟩ (.seq (.region 0 [
 ⟨(some 11), .bin .lss (.tmp 10) (.tmp 9), none, 0, none⟩] []) (.seq (.cond (.tmp 11) (.skip) (.exit 0)) (.seq (.block 1 (.seq (.region 1 [
 ⟨(some 12), .indexSl 24 (.tmp 8) (.tmp 10), none, 0, none⟩,
 ⟨(some 13), .load true 24 (.tmp 12), none, 0, none⟩,
 ⟨(some 4), .alloc [.bool false, .int .i64 (0), .int .i64 (0), .int .i64 (0), .int .i64 (0), .int .i64 (0), .int .i64 (0), .int .i64 (0), .int .i64 (0), .int .i64 (0), .int .i64 (0), .int .i64 (0), .int .i64 (0), .int .i64 (0), .zsl, .int .i64 (0), .int .i64 (0), .int .i64 (0), .int .i64 (0), .int .i64 (0), .int .i64 (0), .int .i64 (0), .int .i64 (0), .zsl], none, 0, none⟩,
 ⟨none, .store 24 (.tmp 4) (.tmp 13), none, 1, none⟩] []) (.seq (.region 0 [
 ⟨(some 14), .fieldAddr 2 (.tmp 4), none, 0, none⟩,
 ⟨(some 15), .fieldAddr 12 (.tmp 14), none, 0, none⟩,
 ⟨(some 16), .load false 1 (.tmp 15), none, 0, none⟩,
 ⟨(some 17), .len (.tmp 16), none, 0, none⟩,
 ⟨(some 18), .bin .gtr (.tmp 17) (.const (.int .i64 (10))), none, 0, none⟩,
 ⟨(some 19), .move (.tmp 18), none, 0, none⟩,
 ⟨(some 20), .fieldAddr 19 (.tmp 4), (some (19, false)), 0, none⟩,
 ⟨(some 21), .fieldAddr 4 (.tmp 20), (some (19, false)), 0, none⟩,
 ⟨(some 22), .load false 1 (.tmp 21), (some (19, false)), 0, none⟩,
 ⟨(some 23), .len (.tmp 22), (some (19, false)), 0, none⟩,
 ⟨(some 24), .bin .gtr (.tmp 23) (.const (.int .i64 (100))), (some (19, false)), 0, none⟩,
 ⟨(some 25), .pick (.tmp 19) (.const (.bool true)) (.tmp 24), none, 0, none⟩] []) (.cond (.tmp 25) (.seq (.region 0 [
 ⟨(some 2), .move (.const (.bool false)), none, 0, none⟩] []) (.ret)) (.skip))))) (.region 0 [
 ⟨(some 26), .bin .add (.tmp 10) (.const (.int .i64 (1))), none, 0, none⟩,
 ⟨(some 10), .move (.tmp 26), none, 0, none⟩] []))))))) (.seq (.region 0 [
 ⟨(some 2), .move (.const (.bool true)), none, 0, none⟩] []) (.ret)))), [.tmp 2], true⟩
def s24 : Sig := ⟨(.cons (.v (.list (.pair .bool (.pair (.int .i64) (.pair .request .reply))))) .nil), [], ((.v .bool), []), []⟩
def l24_0 (al0 : (List (Bool × (Int × (Request × Reply))))) (nx2 : ((Int × Unit) × Unit) → Option Bool) (z3 : Int) : Option Bool :=
 cond (decide (z3 < (List.length al0 : Int)))
 (cond (decide (0 ≤ z3))
 (Option.bind (al0[Int.toNat z3]?) fun y4 =>
 cond (decide (10 < (List.length y4.2.2.1.after : Int)))
 (some false)
 (cond (decide (100 < (List.length y4.2.2.2.nums : Int)))
 (some false)
 (nx2 ((IntKind.wrap .i64 (z3 + 1), ()), ()))))
 (none))
 (some true)
def F24 (L : Lp)  (al0 : (List (Bool × (Int × (Request × Reply))))) : Option Bool :=
 cond (decide (40 < (List.length al0 : Int)))
 (some false)
 (L (fun (s1 : ((Int × Unit) × Unit)) nx2 => l24_0 al0 nx2 s1.1.1) ((0, ()), ()))
theorem e24 (L : Lp)  (x : s24.args.den) (h : denH s24.heap) : nrun [] L n24 s24 x h = F24 L  x.1 := by kernel_rfl
def f24 : (List (Bool × (Int × (Request × Reply)))) → Option Bool := F24 (@LN LOOPS) 
@[reducible] def t24 : Ent := ⟨24, s24, fun x h => f24 x.1⟩
theorem k24 : chkNF Try.prog Try.f24 n24 = true := by kernel_rfl
theorem ok24 : NOk Try.prog t24 := NOk.body (T := []) mixed nall_nil (oneEach_of (by kernel_rfl)) Try.func24 k24 (by kernel_rfl) (fun x h => e24 _  x h)
/- (*drayage/keys.Keys).of -/
def n53_2 : NFunc := ⟨26, .seq (.region 0 [
 ⟨(some 4), .move (.const (.nilp)), none, 0, none⟩] []) (.seq (.seq (.region 0 [
 ⟨(some 5), .move (.tmp 0), none, 0, none⟩,
 ⟨(some 6), .eqP false (.tmp 5) (.const (.nilp)), none, 0, none⟩,
 ⟨(some 7), .move (.tmp 6), none, 0, none⟩,
 ⟨(some 8), .move (.tmp 1), (some (7, false)), 0, none⟩,
 ⟨(some 9), .bin .lss (.tmp 8) (.const (.int .i64 (0))), (some (7, false)), 0, none⟩,
 ⟨(some 10), .pick (.tmp 7) (.const (.bool true)) (.tmp 9), none, 0, none⟩,
 ⟨(some 11), .move (.tmp 10), none, 0, none⟩,
 ⟨(some 12), .move (.tmp 1), (some (11, false)), 0, none⟩,
 ⟨(some 13), .move (.tmp 0), (some (11, false)), 0, none⟩,
 ⟨(some 14), .nilCheck (.tmp 13), (some (11, false)), 0, none⟩,
 ⟨(some 15), .fieldAddr 1 (.tmp 14), (some (11, false)), 0, none⟩,
 ⟨(some 16), .load false 1 (.tmp 15), (some (11, false)), 0, none⟩,
 ⟨(some 17), .len (.tmp 16), (some (11, false)), 0, none⟩,
 ⟨(some 18), .bin .geq (.tmp 12) (.tmp 17), (some (11, false)), 0, none⟩,
 ⟨(some 19), .pick (.tmp 11) (.const (.bool true)) (.tmp 18), none, 0, none⟩] []) (.cond (.tmp 19) (.seq (.region 0 [
 ⟨(some 4), .move (.const (.nilp)), none, 0, none⟩] []) (.ret)) (.skip))) (.seq (.region 0 [
 ⟨(some 20), .move (.tmp 0), none, 0, none⟩,
 ⟨(some 21), .nilCheck (.tmp 20), none, 0, none⟩,
 ⟨(some 22), .fieldAddr 1 (.tmp 21), none, 0, none⟩,
 ⟨(some 23), .load false 1 (.tmp 22), none, 0, none⟩,
 ⟨(some 24), .move (.tmp 1), none, 0, none⟩,
 ⟨(some 25), .indexSl 2 (.tmp 23) (.tmp 24), none, 0, none⟩,
 ⟨(some 4), .move (.tmp 25), none, 0, none⟩] [⟨25, none, some (24, 2)⟩]) (.ret))), [.tmp 4], false⟩
def s53_2 : Sig := ⟨(.cons (.ptr 0 0 0) (.cons (.v (.int .i64)) .nil)), [.cell false (.cons (.v (.int .i64)) (.cons (.slw 1 2) .nil)), .many 2 (.cons (.cons (.v (.int .i64)) (.cons .zsl .nil)) (.cons (.cons (.v (.int .i64)) (.cons .zsl .nil)) .nil))], (.nilp, [.cell false (.cons (.v (.int .i64)) (.cons (.slw 1 2) .nil)), .many 2 (.cons (.cons (.v (.int .i64)) (.cons .zsl .nil)) (.cons (.cons (.v (.int .i64)) (.cons .zsl .nil)) .nil))]), [((.ptr 1 1 0), [.cell false (.cons (.v (.int .i64)) (.cons (.slw 1 2) .nil)), .many 2 (.cons (.cons (.v (.int .i64)) (.cons .zsl .nil)) (.cons (.cons (.v (.int .i64)) (.cons .zsl .nil)) .nil))]), ((.ptr 1 0 0), [.cell false (.cons (.v (.int .i64)) (.cons (.slw 1 2) .nil)), .many 2 (.cons (.cons (.v (.int .i64)) (.cons .zsl .nil)) (.cons (.cons (.v (.int .i64)) (.cons .zsl .nil)) .nil))])]⟩
@[reducible] def y53_2 : Type := ((Unit × ((Int × (Unit × Unit)) × (((Int × (Unit × Unit)) × ((Int × (Unit × Unit)) × Unit)) × Unit))) ⊕ ((Unit × ((Int × (Unit × Unit)) × (((Int × (Unit × Unit)) × ((Int × (Unit × Unit)) × Unit)) × Unit))) ⊕ (Unit × ((Int × (Unit × Unit)) × (((Int × (Unit × Unit)) × ((Int × (Unit × Unit)) × Unit)) × Unit)))))
def F53_2 (L : Lp)  (user0 : Int) (a1 : Int) (a2 : Int) (a3 : Int) : Option y53_2 :=
 cond (decide (user0 < 0))
 (some (.inl ((), ((a1, (), ()), ((a2, (), ()), ((a3, (), ()), ())), ()))))
 (cond (decide (2 ≤ user0))
 (some (.inl ((), ((a1, (), ()), ((a2, (), ()), ((a3, (), ()), ())), ()))))
 (cond (decide (user0 = 1))
 (some (.inr (.inl ((), ((a1, (), ()), ((a2, (), ()), ((a3, (), ()), ())), ())))))
 (cond (decide (user0 = 0))
 (some (.inr (.inr ((), ((a1, (), ()), ((a2, (), ()), ((a3, (), ()), ())), ())))))
 (none))))
theorem e53_2 (L : Lp)  (x : s53_2.args.den) (h : denH s53_2.heap) : nrun [] L n53_2 s53_2 x h = F53_2 L  x.2.1 h.1.1 h.2.1.1.1 h.2.1.2.1.1 := by kernel_rfl
def f53_2 : Int → Int → Int → Int → Option y53_2 := F53_2 (@LN LOOPS) 
@[reducible] def t53_2 : Ent := ⟨53, s53_2, fun x h => f53_2 x.2.1 h.1.1 h.2.1.1.1 h.2.1.2.1.1⟩
theorem k53_2 : chkNF Try.prog Try.f53 n53_2 = true := by kernel_rfl
theorem ok53_2 : NOk Try.prog t53_2 := NOk.body (T := []) mixed nall_nil (oneEach_of (by kernel_rfl)) Try.func53 k53_2 (by kernel_rfl) (fun x h => e53_2 _  x h)
/- (*drayage/keys.known).find -/
def n55_2 : NFunc := ⟨14, .seq (.region 0 [
 ⟨(some 4), .move (.const (.int .i64 (0))), none, 0, none⟩,
 ⟨(some 5), .move (.const (.bool false)), none, 0, none⟩] []) (.seq (.region 4 [
 ⟨(some 6), .move (.tmp 0), none, 0, none⟩,
 ⟨(some 7), .nilCheck (.tmp 6), none, 0, none⟩,
 ⟨(some 8), .fieldAddr 1 (.tmp 7), none, 0, none⟩,
 ⟨(some 9), .load false 1 (.tmp 8), none, 0, none⟩,
 ⟨(some 10), .move (.tmp 1), none, 0, none⟩,
 ⟨(some 11), .call (.func 83) [(true, (.tmp 9)), (false, (.tmp 10)), (false, (.func 84))] false 4, none, 0, none⟩,
 ⟨(some 12), .extract (.tmp 11) 0, none, 4, none⟩,
 ⟨(some 13), .extract (.tmp 11) 1, none, 4, none⟩,
 ⟨(some 4), .move (.tmp 12), none, 4, none⟩,
 ⟨(some 5), .move (.tmp 13), none, 4, none⟩] []) (.ret)), [.tmp 4, .tmp 5], true⟩
def s55_2 : Sig := ⟨(.cons (.ptr 0 1 0) (.cons (.v (.int .i64)) .nil)), [.many 2 (.cons (.cons (.v (.int .i64)) (.cons .zsl .nil)) (.cons (.cons (.v (.int .i64)) (.cons .zsl .nil)) .nil))], ((.tup (.cons (.v (.int .i64)) (.cons (.v .bool) .nil))), [.many 2 (.cons (.cons (.v (.int .i64)) (.cons .zsl .nil)) (.cons (.cons (.v (.int .i64)) (.cons .zsl .nil)) .nil))]), []⟩
def F55_2 (L : Lp) (g83 : Int → Option (Int × (Bool × Unit))) (key0 : Int) (a1 : Int) (a2 : Int) : Option ((Int × (Bool × Unit)) × (((Int × (Unit × Unit)) × ((Int × (Unit × Unit)) × Unit)) × Unit)) :=
 Option.bind (g83 key0) fun r3 =>
 some ((r3.1, r3.2.1, ()), (((a1, (), ()), ((a2, (), ()), ())), ()))
theorem e55_2 (L : Lp) (g83 : Int → Option (Int × (Bool × Unit))) (x : s55_2.args.den) (h : denH s55_2.heap) : nrun [⟨83, s83, fun x h => g83 x.2.1⟩] L n55_2 s55_2 x h = F55_2 L g83 x.2.1 h.1.1.1 h.1.2.1.1 := by kernel_rfl
def f55_2 : Int → Int → Int → Option ((Int × (Bool × Unit)) × (((Int × (Unit × Unit)) × ((Int × (Unit × Unit)) × Unit)) × Unit)) := F55_2 (@LN LOOPS) f83
@[reducible] def t55_2 : Ent := ⟨55, s55_2, fun x h => f55_2 x.2.1 h.1.1.1 h.1.2.1.1⟩
theorem k55_2 : chkNF Try.prog Try.f55 n55_2 = true := by kernel_rfl
theorem ok55_2 : NOk Try.prog t55_2 := NOk.body (T := [t83]) mixed (nall_cons ok83 nall_nil) (oneEach_of (by kernel_rfl)) Try.func55 k55_2 (by kernel_rfl) (fun x h => e55_2 _ _ x h)
/- (*drayage/keys.known).find -/
def n55_3 : NFunc := ⟨14, .seq (.region 0 [
 ⟨(some 4), .move (.const (.int .i64 (0))), none, 0, none⟩,
 ⟨(some 5), .move (.const (.bool false)), none, 0, none⟩] []) (.seq (.region 4 [
 ⟨(some 6), .move (.tmp 0), none, 0, none⟩,
 ⟨(some 7), .nilCheck (.tmp 6), none, 0, none⟩,
 ⟨(some 8), .fieldAddr 1 (.tmp 7), none, 0, none⟩,
 ⟨(some 9), .load false 1 (.tmp 8), none, 0, none⟩,
 ⟨(some 10), .move (.tmp 1), none, 0, none⟩,
 ⟨(some 11), .call (.func 83) [(true, (.tmp 9)), (false, (.tmp 10)), (false, (.func 84))] false 4, none, 0, none⟩,
 ⟨(some 12), .extract (.tmp 11) 0, none, 4, none⟩,
 ⟨(some 13), .extract (.tmp 11) 1, none, 4, none⟩,
 ⟨(some 4), .move (.tmp 12), none, 4, none⟩,
 ⟨(some 5), .move (.tmp 13), none, 4, none⟩] []) (.ret)), [.tmp 4, .tmp 5], true⟩
def s55_3 : Sig := ⟨(.cons (.ptr 0 0 0) (.cons (.v (.int .i64)) .nil)), [.many 2 (.cons (.cons (.v (.int .i64)) (.cons .zsl .nil)) (.cons (.cons (.v (.int .i64)) (.cons .zsl .nil)) .nil))], ((.tup (.cons (.v (.int .i64)) (.cons (.v .bool) .nil))), [.many 2 (.cons (.cons (.v (.int .i64)) (.cons .zsl .nil)) (.cons (.cons (.v (.int .i64)) (.cons .zsl .nil)) .nil))]), []⟩
def F55_3 (L : Lp) (g83 : Int → Option (Int × (Bool × Unit))) (key0 : Int) (a1 : Int) (a2 : Int) : Option ((Int × (Bool × Unit)) × (((Int × (Unit × Unit)) × ((Int × (Unit × Unit)) × Unit)) × Unit)) :=
 Option.bind (g83 key0) fun r3 =>
 some ((r3.1, r3.2.1, ()), (((a1, (), ()), ((a2, (), ()), ())), ()))
theorem e55_3 (L : Lp) (g83 : Int → Option (Int × (Bool × Unit))) (x : s55_3.args.den) (h : denH s55_3.heap) : nrun [⟨83, s83, fun x h => g83 x.2.1⟩] L n55_3 s55_3 x h = F55_3 L g83 x.2.1 h.1.1.1 h.1.2.1.1 := by kernel_rfl
def f55_3 : Int → Int → Int → Option ((Int × (Bool × Unit)) × (((Int × (Unit × Unit)) × ((Int × (Unit × Unit)) × Unit)) × Unit)) := F55_3 (@LN LOOPS) f83
@[reducible] def t55_3 : Ent := ⟨55, s55_3, fun x h => f55_3 x.2.1 h.1.1.1 h.1.2.1.1⟩
theorem k55_3 : chkNF Try.prog Try.f55 n55_3 = true := by kernel_rfl
theorem ok55_3 : NOk Try.prog t55_3 := NOk.body (T := [t83]) mixed (nall_cons ok83 nall_nil) (oneEach_of (by kernel_rfl)) Try.func55 k55_3 (by kernel_rfl) (fun x h => e55_3 _ _ x h)
/- (*drayage/keys.Keys).Store -/
def n26_2 : NFunc := ⟨86, .seq (.region 2 [
 ⟨(some 6), .box 17 (.tmp 2), none, 0, none⟩,
 ⟨(some 7), .box 5 (.tmp 3), none, 1, none⟩,
 ⟨(some 8), .move (.const (.int .i64 (0))), none, 2, none⟩] []) (.seq (.seq (.region 0 [
 ⟨(some 13), .move (.tmp 0), none, 0, none⟩,
 ⟨(some 14), .eqP false (.tmp 13) (.const (.nilp)), none, 0, none⟩] []) (.cond (.tmp 14) (.seq (.region 0 [
 ⟨(some 8), .move (.const (.int .i64 (1))), none, 0, none⟩] []) (.ret)) (.skip))) (.seq (.region 4 [
 ⟨(some 15), .move (.tmp 0), none, 0, none⟩,
 ⟨(some 16), .move (.tmp 1), none, 0, none⟩,
 ⟨(some 17), .call (.func 53) [(true, (.tmp 15)), (false, (.tmp 16))] false 4, none, 0, none⟩,
 ⟨(some 9), .move (.tmp 17), none, 4, none⟩] []) (.seq (.seq (.region 4 [
 ⟨(some 18), .move (.tmp 9), none, 0, none⟩,
 ⟨(some 19), .eqP false (.tmp 18) (.const (.nilp)), none, 0, none⟩,
 ⟨(some 20), .move (.tmp 19), none, 0, none⟩,
 ⟨(some 21), .load true 17 (.tmp 6), (some (20, false)), 0, none⟩,
 ⟨(some 22), .call (.func 54) [(false, (.tmp 21))] false 4, (some (20, false)), 0, none⟩,
 ⟨(some 23), .un .not (.tmp 22), (some (20, false)), 4, none⟩,
 ⟨(some 24), .pick (.tmp 20) (.const (.bool true)) (.tmp 23), none, 4, none⟩] []) (.cond (.tmp 24) (.seq (.region 0 [
 ⟨(some 8), .move (.const (.int .i64 (2))), none, 0, none⟩] []) (.ret)) (.skip))) (.seq (.region 4 [
 ⟨(some 26), .move (.tmp 9), none, 0, none⟩,
 ⟨(some 27), .fieldAddr 1 (.tmp 6), none, 0, none⟩,
 ⟨(some 28), .load false 1 (.tmp 27), none, 0, none⟩,
 ⟨(some 29), .call (.func 55) [(true, (.tmp 26)), (false, (.tmp 28))] false 4, none, 0, none⟩,
 ⟨(some 25), .move (.tmp 29), none, 4, none⟩,
 ⟨(some 30), .extract (.tmp 25) 0, none, 4, none⟩,
 ⟨(some 31), .extract (.tmp 25) 1, none, 4, none⟩,
 ⟨(some 10), .move (.tmp 30), none, 4, none⟩,
 ⟨(some 11), .move (.tmp 31), none, 4, none⟩] []) (.seq (.seq (.region 0 [
 ⟨(some 32), .move (.tmp 11), none, 0, none⟩] []) (.cond (.tmp 32) (.seq (.region 0 [
 ⟨(some 8), .move (.const (.int .i64 (31))), none, 0, none⟩] []) (.ret)) (.skip))) (.seq (.seq (.region 0 [
 ⟨(some 33), .fieldAddr 1 (.tmp 6), none, 0, (some ([], none))⟩,
 ⟨(some 34), .load false 1 (.tmp 33), none, 0, (some ([], none))⟩,
 ⟨(some 35), .move (.tmp 9), none, 0, (some ([], none))⟩,
 ⟨(some 36), .nilCheck (.tmp 35), none, 0, (some ([], none))⟩,
 ⟨(some 37), .fieldAddr 0 (.tmp 36), none, 0, (some ([], none))⟩,
 ⟨(some 38), .load false 1 (.tmp 37), none, 0, (some ([], none))⟩,
 ⟨(some 39), .bin .leq (.tmp 34) (.tmp 38), none, 0, (some ([], none))⟩] []) (.cond (.tmp 39) (.seq (.region 0 [
 ⟨(some 8), .move (.const (.int .i64 (51))), none, 0, none⟩] []) (.ret)) (.skip))) (.seq (.region 9 [
 ⟨(some 40), .move (.tmp 1), none, 0, (some ([], none))⟩,
 ⟨(some 41), .load true 17 (.tmp 6), none, 0, (some ([], none))⟩,
 ⟨(some 42), .call (.func 56) [(false, (.tmp 41))] true 4, none, 0, (some ([], none))⟩,
 ⟨(some 43), .load true 5 (.tmp 7), none, 4, (some ([], none))⟩,
 ⟨(some 44), .call (.func 57) [(false, (.tmp 43))] true 4, none, 4, (some ([0, 1, 2, 3], none))⟩,
 ⟨(some 45), .build [.int .i64 (0), .int .i64 (0), .int .i64 (0), .int .i64 (0), .int .i64 (0), .int .i64 (0), .int .i64 (0), .int .i64 (0), .int .i64 (0), .int .i64 (0), .int .i64 (0), .int .i64 (0), .int .i64 (0), .int .i64 (0), .zsl, .int .i64 (0), .int .i64 (0), .int .i64 (0), .int .i64 (0), .int .i64 (0), .int .i64 (0), .int .i64 (0), .int .i64 (0), .zsl, .int .i64 (0), .bool false] [(1, 1, (.tmp 40)), (2, 17, (.tmp 42)), (19, 5, (.tmp 44))], none, 8, (some ([0, 1, 2, 3, 4, 5, 6, 7], none))⟩,
 ⟨(some 12), .alloc [.int .i64 (0), .int .i64 (0), .int .i64 (0), .int .i64 (0), .int .i64 (0), .int .i64 (0), .int .i64 (0), .int .i64 (0), .int .i64 (0), .int .i64 (0), .int .i64 (0), .int .i64 (0), .int .i64 (0), .int .i64 (0), .zsl, .int .i64 (0), .int .i64 (0), .int .i64 (0), .int .i64 (0), .int .i64 (0), .int .i64 (0), .int .i64 (0), .int .i64 (0), .zsl, .int .i64 (0), .bool false], none, 8, (some ([], none))⟩,
 ⟨none, .store 26 (.tmp 12) (.tmp 45), none, 9, (some ([0, 1, 2, 3, 4, 5, 6, 7, 8], none))⟩] []) (.seq (.region 5 [
 ⟨(some 46), .move (.tmp 9), none, 0, (some ([], none))⟩,
 ⟨(some 47), .move (.tmp 9), none, 0, (some ([], none))⟩,
 ⟨(some 48), .nilCheck (.tmp 47), none, 0, (some ([], none))⟩,
 ⟨(some 49), .fieldAddr 1 (.tmp 48), none, 0, (some ([], none))⟩,
 ⟨(some 50), .load false 1 (.tmp 49), none, 0, (some ([], none))⟩,
 ⟨(some 51), .move (.tmp 10), none, 0, (some ([], none))⟩,
 ⟨(some 52), .load true 26 (.tmp 12), none, 0, (some ([], none))⟩,
 ⟨(some 53), .buildSlice 26 1 true [.int .i64 (0), .int .i64 (0), .int .i64 (0), .int .i64 (0), .int .i64 (0), .int .i64 (0), .int .i64 (0), .int .i64 (0), .int .i64 (0), .int .i64 (0), .int .i64 (0), .int .i64 (0), .int .i64 (0), .int .i64 (0), .zsl, .int .i64 (0), .int .i64 (0), .int .i64 (0), .int .i64 (0), .int .i64 (0), .int .i64 (0), .int .i64 (0), .int .i64 (0), .zsl, .int .i64 (0), .bool false] [(0, (.tmp 52))], none, 0, (some ([], none))⟩,
 ⟨(some 54), .call (.func 58) [(true, (.tmp 50)), (false, (.tmp 51)), (true, (.tmp 53))] false 4, none, 1, (some ([0], none))⟩,
 ⟨(some 55), .nilCheck (.tmp 46), none, 5, (some ([0, 1, 2, 3, 4], none))⟩,
 ⟨(some 56), .fieldAddr 1 (.tmp 55), none, 5, (some ([0, 1, 2, 3, 4], none))⟩,
 ⟨none, .store 1 (.tmp 56) (.tmp 54), none, 5, (some ([0, 1, 2, 3, 4], none))⟩] []) (.seq (.seq (.region 0 [
 ⟨(some 57), .move (.tmp 9), none, 0, (some ([], none))⟩,
 ⟨(some 58), .nilCheck (.tmp 57), none, 0, (some ([], none))⟩,
 ⟨(some 59), .fieldAddr 1 (.tmp 58), none, 0, (some ([], none))⟩,
 ⟨(some 60), .load false 1 (.tmp 59), none, 0, (some ([], none))⟩,
 ⟨(some 61), .len (.tmp 60), none, 0, (some ([], none))⟩,
 ⟨(some 62), .move (.tmp 0), none, 0, (some ([], none))⟩,
 ⟨(some 63), .nilCheck (.tmp 62), none, 0, (some ([], none))⟩,
 ⟨(some 64), .fieldAddr 0 (.tmp 63), none, 0, (some ([], none))⟩,
 ⟨(some 65), .load false 1 (.tmp 64), none, 0, (some ([], none))⟩,
 ⟨(some 66), .bin .gtr (.tmp 61) (.tmp 65), none, 0, (some ([], none))⟩] []) (.cond (.tmp 66) (.seq (.region 0 [
 ⟨(some 67), .move (.tmp 9), none, 0, none⟩,
 ⟨(some 68), .move (.tmp 9), none, 0, none⟩,
 ⟨(some 69), .nilCheck (.tmp 68), none, 0, none⟩,
 ⟨(some 70), .fieldAddr 1 (.tmp 69), none, 0, none⟩,
 ⟨(some 71), .load false 1 (.tmp 70), none, 0, none⟩,
 ⟨(some 72), .indexSl 26 (.tmp 71) (.const (.int .i64 (0))), none, 0, none⟩,
 ⟨(some 73), .fieldAddr 2 (.tmp 72), none, 0, none⟩,
 ⟨(some 74), .fieldAddr 1 (.tmp 73), none, 0, none⟩,
 ⟨(some 75), .load false 1 (.tmp 74), none, 0, none⟩,
 ⟨(some 76), .nilCheck (.tmp 67), none, 0, none⟩,
 ⟨(some 77), .fieldAddr 0 (.tmp 76), none, 0, none⟩,
 ⟨none, .store 1 (.tmp 77) (.tmp 75), none, 0, none⟩] []) (.region 4 [
 ⟨(some 78), .move (.tmp 9), none, 0, none⟩,
 ⟨(some 79), .move (.tmp 9), none, 0, none⟩,
 ⟨(some 80), .nilCheck (.tmp 79), none, 0, none⟩,
 ⟨(some 81), .fieldAddr 1 (.tmp 80), none, 0, none⟩,
 ⟨(some 82), .load false 1 (.tmp 81), none, 0, none⟩,
 ⟨(some 83), .call (.func 59) [(true, (.tmp 82)), (false, (.const (.int .i64 (0)))), (false, (.const (.int .i64 (1))))] false 4, none, 0, none⟩,
 ⟨(some 84), .nilCheck (.tmp 78), none, 4, none⟩,
 ⟨(some 85), .fieldAddr 1 (.tmp 84), none, 4, none⟩,
 ⟨none, .store 1 (.tmp 85) (.tmp 83), none, 4, none⟩] [])) (.skip))) (.seq (.region 0 [
 ⟨(some 8), .move (.const (.int .i64 (0))), none, 0, none⟩] []) (.ret))))))))))), [.tmp 8], true⟩
def s26_2 : Sig := ⟨(.cons (.ptr 0 0 0) (.cons (.v (.int .i64)) (.cons (.v .request) (.cons (.v .reply) .nil)))), [.cell false (.cons (.v (.int .i64)) (.cons (.slw 1 2) .nil)), .many 2 (.cons (.cons (.v (.int .i64)) (.cons .zsl .nil)) (.cons (.cons (.v (.int .i64)) (.cons .zsl .nil)) .nil))], ((.v (.int .i64)), [.cell false (.cons (.v (.int .i64)) (.cons (.slw 1 2) .nil)), .many 2 (.cons (.cons (.v (.int .i64)) (.cons .zsl .nil)) (.cons (.cons (.v (.int .i64)) (.cons .zsl .nil)) .nil))]), [((.v (.int .i64)), [.cell false (.cons (.v (.int .i64)) (.cons (.slw 1 2) .nil)), .many 2 (.cons (.cons (.v (.int .i64)) (.cons .zsl .nil)) (.cons (.cons (.v (.int .i64)) (.cons (.slw 2 26) .nil)) .nil)), .typed .entry]), ((.v (.int .i64)), [.cell false (.cons (.v (.int .i64)) (.cons (.slw 1 2) .nil)), .many 2 (.cons (.cons (.v (.int .i64)) (.cons (.slw 2 26) .nil)) (.cons (.cons (.v (.int .i64)) (.cons .zsl .nil)) .nil)), .typed .entry])]⟩
@[reducible] def y26_2 : Type := ((Int × ((Int × (Unit × Unit)) × (((Int × (Unit × Unit)) × ((Int × (Unit × Unit)) × Unit)) × Unit))) ⊕ ((Int × ((Int × (Unit × Unit)) × (((Int × (Unit × Unit)) × ((Int × (Unit × Unit)) × Unit)) × ((List Entry) × Unit)))) ⊕ (Int × ((Int × (Unit × Unit)) × (((Int × (Unit × Unit)) × ((Int × (Unit × Unit)) × Unit)) × ((List Entry) × Unit))))))
def F26_2 (L : Lp) (g53_2 : Int → Int → Int → Int → Option y53_2) (g54 : Request → Option Bool) (g55_2 : Int → Int → Int → Option ((Int × (Bool × Unit)) × (((Int × (Unit × Unit)) × ((Int × (Unit × Unit)) × Unit)) × Unit))) (g56 : Request → Option Request) (g57 : Reply → Option Reply) (g58 : Int → (List Entry) → Option (Unit × ((List Entry) × ((List Entry) × Unit)))) (g59 : Int → Int → (List Entry) → Option (Unit × (Unit × ((List Entry) × Unit)))) (g55_3 : Int → Int → Int → Option ((Int × (Bool × Unit)) × (((Int × (Unit × Unit)) × ((Int × (Unit × Unit)) × Unit)) × Unit))) (user0 : Int) (ar1 : Request) (a2 : Reply) (a3 : Int) (a4 : Int) (a5 : Int) : Option y26_2 :=
 Option.bind (g53_2 user0 a3 a4 a5) (Sum.elim (fun r6 =>
 some (.inl (2, ((r6.2.1.1, (), ()), ((r6.2.2.1.1.1, (), ()), ((r6.2.2.1.2.1.1, (), ()), ())), ())))) (Sum.elim (fun r7 =>
 Option.bind (g54 ar1) fun r8 =>
 cond (!r8)
 (some (.inl (2, ((r7.2.1.1, (), ()), ((r7.2.2.1.1.1, (), ()), ((r7.2.2.1.2.1.1, (), ()), ())), ()))))
 (Option.bind (g55_2 ar1.key r7.2.2.1.1.1 r7.2.2.1.2.1.1) fun r9 =>
 cond r9.1.2.1
 (some (.inl (31, ((r7.2.1.1, (), ()), ((r9.2.1.1.1, (), ()), ((r9.2.1.2.1.1, (), ()), ())), ()))))
 (cond (decide (ar1.key ≤ r9.2.1.2.1.1))
 (some (.inl (51, ((r7.2.1.1, (), ()), ((r9.2.1.1.1, (), ()), ((r9.2.1.2.1.1, (), ()), ())), ()))))
 (Option.bind (g56 ar1) fun r10 =>
 Option.bind (g57 a2) fun r11 =>
 Option.bind (g58 r9.1.1 [Entry.mk 0 user0 r10 r11 0 false]) fun r12 =>
 cond ((decide ((List.length r12.2.1) = 1)) && true)
 (cond (decide (r7.2.1.1 < (List.length r12.2.2.1 : Int)))
 (cond (decide (0 < (List.length r12.2.2.1)))
 (Option.bind (r12.2.2.1[0]?) fun y13 =>
 Option.bind (g59 0 1 r12.2.2.1) fun r14 =>
 some (.inr (.inl (0, ((r7.2.1.1, (), ()), ((r9.2.1.1.1, (), ()), ((y13.request.key, (), ()), ())), r14.2.2.1, ())))))
 (none))
 (some (.inr (.inl (0, ((r7.2.1.1, (), ()), ((r9.2.1.1.1, (), ()), ((r9.2.1.2.1.1, (), ()), ())), r12.2.2.1, ()))))))
 (none))))) (fun r15 =>
 Option.bind (g54 ar1) fun r16 =>
 cond (!r16)
 (some (.inl (2, ((r15.2.1.1, (), ()), ((r15.2.2.1.1.1, (), ()), ((r15.2.2.1.2.1.1, (), ()), ())), ()))))
 (Option.bind (g55_3 ar1.key r15.2.2.1.1.1 r15.2.2.1.2.1.1) fun r17 =>
 cond r17.1.2.1
 (some (.inl (31, ((r15.2.1.1, (), ()), ((r17.2.1.1.1, (), ()), ((r17.2.1.2.1.1, (), ()), ())), ()))))
 (cond (decide (ar1.key ≤ r17.2.1.1.1))
 (some (.inl (51, ((r15.2.1.1, (), ()), ((r17.2.1.1.1, (), ()), ((r17.2.1.2.1.1, (), ()), ())), ()))))
 (Option.bind (g56 ar1) fun r18 =>
 Option.bind (g57 a2) fun r19 =>
 Option.bind (g58 r17.1.1 [Entry.mk 0 user0 r18 r19 0 false]) fun r20 =>
 cond ((decide ((List.length r20.2.1) = 1)) && true)
 (cond (decide (r15.2.1.1 < (List.length r20.2.2.1 : Int)))
 (cond (decide (0 < (List.length r20.2.2.1)))
 (Option.bind (r20.2.2.1[0]?) fun y21 =>
 Option.bind (g59 0 1 r20.2.2.1) fun r22 =>
 some (.inr (.inr (0, ((r15.2.1.1, (), ()), ((y21.request.key, (), ()), ((r17.2.1.2.1.1, (), ()), ())), r22.2.2.1, ())))))
 (none))
 (some (.inr (.inr (0, ((r15.2.1.1, (), ()), ((r17.2.1.1.1, (), ()), ((r17.2.1.2.1.1, (), ()), ())), r20.2.2.1, ()))))))
 (none)))))))
theorem e26_2 (L : Lp) (g53_2 : Int → Int → Int → Int → Option y53_2) (g54 : Request → Option Bool) (g55_2 : Int → Int → Int → Option ((Int × (Bool × Unit)) × (((Int × (Unit × Unit)) × ((Int × (Unit × Unit)) × Unit)) × Unit))) (g56 : Request → Option Request) (g57 : Reply → Option Reply) (g58 : Int → (List Entry) → Option (Unit × ((List Entry) × ((List Entry) × Unit)))) (g59 : Int → Int → (List Entry) → Option (Unit × (Unit × ((List Entry) × Unit)))) (g55_3 : Int → Int → Int → Option ((Int × (Bool × Unit)) × (((Int × (Unit × Unit)) × ((Int × (Unit × Unit)) × Unit)) × Unit))) (x : s26_2.args.den) (h : denH s26_2.heap) : nrun [⟨53, s53_2, fun x h => g53_2 x.2.1 h.1.1 h.2.1.1.1 h.2.1.2.1.1⟩, ⟨54, s54, fun x h => g54 x.1⟩, ⟨55, s55_2, fun x h => g55_2 x.2.1 h.1.1.1 h.1.2.1.1⟩, ⟨56, s56, fun x h => g56 x.1⟩, ⟨57, s57, fun x h => g57 x.1⟩, ⟨58, s58, fun x h => g58 x.2.1 h.1⟩, ⟨59, s59, fun x h => g59 x.2.1 x.2.2.1 h.1⟩, ⟨55, s55_3, fun x h => g55_3 x.2.1 h.1.1.1 h.1.2.1.1⟩] L n26_2 s26_2 x h = F26_2 L g53_2 g54 g55_2 g56 g57 g58 g59 g55_3 x.2.1 x.2.2.1 x.2.2.2.1 h.1.1 h.2.1.1.1 h.2.1.2.1.1 := by kernel_rfl
def f26_2 : Int → Request → Reply → Int → Int → Int → Option y26_2 := F26_2 (@LN LOOPS) f53_2 f54 f55_2 f56 f57 f58 f59 f55_3
@[reducible] def t26_2 : Ent := ⟨26, s26_2, fun x h => f26_2 x.2.1 x.2.2.1 x.2.2.2.1 h.1.1 h.2.1.1.1 h.2.1.2.1.1⟩
theorem k26_2 : chkNF Try.prog Try.f26 n26_2 = true := by kernel_rfl
theorem ok26_2 : NOk Try.prog t26_2 := NOk.body (T := [t53_2, t54, t55_2, t56, t57, t58, t59, t55_3]) mixed (nall_cons ok53_2 (nall_cons ok54 (nall_cons ok55_2 (nall_cons ok56 (nall_cons ok57 (nall_cons ok58 (nall_cons ok59 (nall_cons ok55_3 nall_nil)))))))) (oneEach_of (by kernel_rfl)) Try.func26 k26_2 (by kernel_rfl) (fun x h => e26_2 _ _ _ _ _ _ _ _ _ x h)
/- (*drayage/keys.Keys).of -/
def n53_3 : NFunc := ⟨26, .seq (.region 0 [
 ⟨(some 4), .move (.const (.nilp)), none, 0, none⟩] []) (.seq (.seq (.region 0 [
 ⟨(some 5), .move (.tmp 0), none, 0, none⟩,
 ⟨(some 6), .eqP false (.tmp 5) (.const (.nilp)), none, 0, none⟩,
 ⟨(some 7), .move (.tmp 6), none, 0, none⟩,
 ⟨(some 8), .move (.tmp 1), (some (7, false)), 0, none⟩,
 ⟨(some 9), .bin .lss (.tmp 8) (.const (.int .i64 (0))), (some (7, false)), 0, none⟩,
 ⟨(some 10), .pick (.tmp 7) (.const (.bool true)) (.tmp 9), none, 0, none⟩,
 ⟨(some 11), .move (.tmp 10), none, 0, none⟩,
 ⟨(some 12), .move (.tmp 1), (some (11, false)), 0, none⟩,
 ⟨(some 13), .move (.tmp 0), (some (11, false)), 0, none⟩,
 ⟨(some 14), .nilCheck (.tmp 13), (some (11, false)), 0, none⟩,
 ⟨(some 15), .fieldAddr 1 (.tmp 14), (some (11, false)), 0, none⟩,
 ⟨(some 16), .load false 1 (.tmp 15), (some (11, false)), 0, none⟩,
 ⟨(some 17), .len (.tmp 16), (some (11, false)), 0, none⟩,
 ⟨(some 18), .bin .geq (.tmp 12) (.tmp 17), (some (11, false)), 0, none⟩,
 ⟨(some 19), .pick (.tmp 11) (.const (.bool true)) (.tmp 18), none, 0, none⟩] []) (.cond (.tmp 19) (.seq (.region 0 [
 ⟨(some 4), .move (.const (.nilp)), none, 0, none⟩] []) (.ret)) (.skip))) (.seq (.region 0 [
 ⟨(some 20), .move (.tmp 0), none, 0, none⟩,
 ⟨(some 21), .nilCheck (.tmp 20), none, 0, none⟩,
 ⟨(some 22), .fieldAddr 1 (.tmp 21), none, 0, none⟩,
 ⟨(some 23), .load false 1 (.tmp 22), none, 0, none⟩,
 ⟨(some 24), .move (.tmp 1), none, 0, none⟩,
 ⟨(some 25), .indexSl 2 (.tmp 23) (.tmp 24), none, 0, none⟩,
 ⟨(some 4), .move (.tmp 25), none, 0, none⟩] [⟨25, none, some (24, 2)⟩]) (.ret))), [.tmp 4], false⟩
def s53_3 : Sig := ⟨(.cons (.ptr 0 0 0) (.cons (.v (.int .i64)) .nil)), [.cell false (.cons (.v (.int .i64)) (.cons (.slw 1 2) .nil)), .many 2 (.cons (.cons (.v (.int .i64)) (.cons (.slw 2 26) .nil)) (.cons (.cons (.v (.int .i64)) (.cons (.slw 3 26) .nil)) .nil)), .typed .entry, .typed .entry], (.nilp, [.cell false (.cons (.v (.int .i64)) (.cons (.slw 1 2) .nil)), .many 2 (.cons (.cons (.v (.int .i64)) (.cons (.slw 2 26) .nil)) (.cons (.cons (.v (.int .i64)) (.cons (.slw 3 26) .nil)) .nil)), .typed .entry, .typed .entry]), [((.ptr 1 1 0), [.cell false (.cons (.v (.int .i64)) (.cons (.slw 1 2) .nil)), .many 2 (.cons (.cons (.v (.int .i64)) (.cons (.slw 2 26) .nil)) (.cons (.cons (.v (.int .i64)) (.cons (.slw 3 26) .nil)) .nil)), .typed .entry, .typed .entry]), ((.ptr 1 0 0), [.cell false (.cons (.v (.int .i64)) (.cons (.slw 1 2) .nil)), .many 2 (.cons (.cons (.v (.int .i64)) (.cons (.slw 2 26) .nil)) (.cons (.cons (.v (.int .i64)) (.cons (.slw 3 26) .nil)) .nil)), .typed .entry, .typed .entry])]⟩
@[reducible] def y53_3 : Type := ((Unit × ((Int × (Unit × Unit)) × (((Int × (Unit × Unit)) × ((Int × (Unit × Unit)) × Unit)) × ((List Entry) × ((List Entry) × Unit))))) ⊕ ((Unit × ((Int × (Unit × Unit)) × (((Int × (Unit × Unit)) × ((Int × (Unit × Unit)) × Unit)) × ((List Entry) × ((List Entry) × Unit))))) ⊕ (Unit × ((Int × (Unit × Unit)) × (((Int × (Unit × Unit)) × ((Int × (Unit × Unit)) × Unit)) × ((List Entry) × ((List Entry) × Unit)))))))
def F53_3 (L : Lp)  (user0 : Int) (a1 : Int) (a2 : Int) (a3 : Int) (a4 : (List Entry)) (a5 : (List Entry)) : Option y53_3 :=
 cond (decide (user0 < 0))
 (some (.inl ((), ((a1, (), ()), ((a2, (), ()), ((a3, (), ()), ())), a4, a5, ()))))
 (cond (decide (2 ≤ user0))
 (some (.inl ((), ((a1, (), ()), ((a2, (), ()), ((a3, (), ()), ())), a4, a5, ()))))
 (cond (decide (user0 = 1))
 (some (.inr (.inl ((), ((a1, (), ()), ((a2, (), ()), ((a3, (), ()), ())), a4, a5, ())))))
 (cond (decide (user0 = 0))
 (some (.inr (.inr ((), ((a1, (), ()), ((a2, (), ()), ((a3, (), ()), ())), a4, a5, ())))))
 (none))))
theorem e53_3 (L : Lp)  (x : s53_3.args.den) (h : denH s53_3.heap) : nrun [] L n53_3 s53_3 x h = F53_3 L  x.2.1 h.1.1 h.2.1.1.1 h.2.1.2.1.1 h.2.2.1 h.2.2.2.1 := by kernel_rfl
def f53_3 : Int → Int → Int → Int → (List Entry) → (List Entry) → Option y53_3 := F53_3 (@LN LOOPS) 
@[reducible] def t53_3 : Ent := ⟨53, s53_3, fun x h => f53_3 x.2.1 h.1.1 h.2.1.1.1 h.2.1.2.1.1 h.2.2.1 h.2.2.2.1⟩
theorem k53_3 : chkNF Try.prog Try.f53 n53_3 = true := by kernel_rfl
theorem ok53_3 : NOk Try.prog t53_3 := NOk.body (T := []) mixed nall_nil (oneEach_of (by kernel_rfl)) Try.func53 k53_3 (by kernel_rfl) (fun x h => e53_3 _  x h)
/- (*drayage/keys.Keys).Watermark -/
def n27 : NFunc := ⟨15, .seq (.region 0 [
 ⟨(some 4), .move (.const (.int .i64 (0))), none, 0, none⟩] []) (.seq (.region 4 [
 ⟨(some 6), .move (.tmp 0), none, 0, none⟩,
 ⟨(some 7), .move (.tmp 1), none, 0, none⟩,
 ⟨(some 8), .call (.func 53) [(true, (.tmp 6)), (false, (.tmp 7))] false 4, none, 0, none⟩,
 ⟨(some 5), .move (.tmp 8), none, 4, none⟩] []) (.seq (.seq (.region 0 [
 ⟨(some 9), .move (.tmp 5), none, 0, none⟩,
 ⟨(some 10), .eqP false (.tmp 9) (.const (.nilp)), none, 0, none⟩] []) (.cond (.tmp 10) (.seq (.region 0 [
 ⟨(some 4), .move (.const (.int .i64 (0))), none, 0, none⟩] []) (.ret)) (.skip))) (.seq (.region 0 [
 ⟨(some 11), .move (.tmp 5), none, 0, none⟩,
 ⟨(some 12), .nilCheck (.tmp 11), none, 0, none⟩,
 ⟨(some 13), .fieldAddr 0 (.tmp 12), none, 0, none⟩,
 ⟨(some 14), .load false 1 (.tmp 13), none, 0, none⟩,
 ⟨(some 4), .move (.tmp 14), none, 0, none⟩] []) (.ret)))), [.tmp 4], true⟩
def s27 : Sig := ⟨(.cons (.ptr 0 0 0) (.cons (.v (.int .i64)) .nil)), [.cell false (.cons (.v (.int .i64)) (.cons (.slw 1 2) .nil)), .many 2 (.cons (.cons (.v (.int .i64)) (.cons (.slw 2 26) .nil)) (.cons (.cons (.v (.int .i64)) (.cons (.slw 3 26) .nil)) .nil)), .typed .entry, .typed .entry], ((.v (.int .i64)), [.cell false (.cons (.v (.int .i64)) (.cons (.slw 1 2) .nil)), .many 2 (.cons (.cons (.v (.int .i64)) (.cons (.slw 2 26) .nil)) (.cons (.cons (.v (.int .i64)) (.cons (.slw 3 26) .nil)) .nil)), .typed .entry, .typed .entry]), []⟩
def F27 (L : Lp) (g53_3 : Int → Int → Int → Int → (List Entry) → (List Entry) → Option y53_3) (user0 : Int) (a1 : Int) (a2 : Int) (a3 : Int) (a4 : (List Entry)) (a5 : (List Entry)) : Option (Int × ((Int × (Unit × Unit)) × (((Int × (Unit × Unit)) × ((Int × (Unit × Unit)) × Unit)) × ((List Entry) × ((List Entry) × Unit))))) :=
 Option.bind (g53_3 user0 a1 a2 a3 a4 a5) (Sum.elim (fun r6 =>
 cond (true && (true && ((decide ((List.length r6.2.2.2.1) = (List.length a4))) && ((decide ((List.length r6.2.2.2.2.1) = (List.length a5))) && true))))
 (some (0, ((r6.2.1.1, (), ()), ((r6.2.2.1.1.1, (), ()), ((r6.2.2.1.2.1.1, (), ()), ())), r6.2.2.2.1, r6.2.2.2.2.1, ())))
 (none)) (Sum.elim (fun r7 =>
 cond (true && (true && ((decide ((List.length r7.2.2.2.1) = (List.length a4))) && ((decide ((List.length r7.2.2.2.2.1) = (List.length a5))) && true))))
 (some (r7.2.2.1.2.1.1, ((r7.2.1.1, (), ()), ((r7.2.2.1.1.1, (), ()), ((r7.2.2.1.2.1.1, (), ()), ())), r7.2.2.2.1, r7.2.2.2.2.1, ())))
 (none)) (fun r8 =>
 cond (true && (true && ((decide ((List.length r8.2.2.2.1) = (List.length a4))) && ((decide ((List.length r8.2.2.2.2.1) = (List.length a5))) && true))))
 (some (r8.2.2.1.1.1, ((r8.2.1.1, (), ()), ((r8.2.2.1.1.1, (), ()), ((r8.2.2.1.2.1.1, (), ()), ())), r8.2.2.2.1, r8.2.2.2.2.1, ())))
 (none))))
theorem e27 (L : Lp) (g53_3 : Int → Int → Int → Int → (List Entry) → (List Entry) → Option y53_3) (x : s27.args.den) (h : denH s27.heap) : nrun [⟨53, s53_3, fun x h => g53_3 x.2.1 h.1.1 h.2.1.1.1 h.2.1.2.1.1 h.2.2.1 h.2.2.2.1⟩] L n27 s27 x h = F27 L g53_3 x.2.1 h.1.1 h.2.1.1.1 h.2.1.2.1.1 h.2.2.1 h.2.2.2.1 := by kernel_rfl
def f27 : Int → Int → Int → Int → (List Entry) → (List Entry) → Option (Int × ((Int × (Unit × Unit)) × (((Int × (Unit × Unit)) × ((Int × (Unit × Unit)) × Unit)) × ((List Entry) × ((List Entry) × Unit))))) := F27 (@LN LOOPS) f53_3
@[reducible] def t27 : Ent := ⟨27, s27, fun x h => f27 x.2.1 h.1.1 h.2.1.1.1 h.2.1.2.1.1 h.2.2.1 h.2.2.2.1⟩
theorem k27 : chkNF Try.prog Try.f27 n27 = true := by kernel_rfl
theorem ok27 : NOk Try.prog t27 := NOk.body (T := [t53_3]) mixed (nall_cons ok53_3 nall_nil) (oneEach_of (by kernel_rfl)) Try.func27 k27 (by kernel_rfl) (fun x h => e27 _ _ x h)
/- drayage/keys.copyEntries -/
def n60 : NFunc := ⟨29, .seq (.region 0 [
 ⟨(some 2), .move (.const (.zsl)), none, 0, none⟩] []) (.seq (.region 1 [
 ⟨(some 6), .move (.tmp 0), none, 0, none⟩,
 ⟨(some 7), .len (.tmp 6), none, 0, none⟩,
 ⟨(some 8), .makeSlice 26 240 true [.int .i64 (0), .int .i64 (0), .int .i64 (0), .int .i64 (0), .int .i64 (0), .int .i64 (0), .int .i64 (0), .int .i64 (0), .int .i64 (0), .int .i64 (0), .int .i64 (0), .int .i64 (0), .int .i64 (0), .int .i64 (0), .zsl, .int .i64 (0), .int .i64 (0), .int .i64 (0), .int .i64 (0), .int .i64 (0), .int .i64 (0), .int .i64 (0), .int .i64 (0), .zsl, .int .i64 (0), .bool false] (.const (.int .i64 (0))) (.tmp 7), none, 0, none⟩,
 ⟨(some 3), .move (.tmp 8), none, 1, none⟩] [⟨8, some .entry, none⟩]) (.seq (.seq (.region 0 [
 ⟨(some 9), .move (.tmp 0), none, 0, none⟩,
 ⟨(some 10), .len (.tmp 9), none, 0, none⟩,
 ⟨(some 11), .move (.const (.int .i64 (0))), none, 0, none⟩] []) (.block 0 (.loop [3, 9, 10, 11] ⟨[(3, (.slw 1 26)), (9, (.slw 0 26)), (11, (.v (.int .i64)))], [10], [.typed .entry, .typed .entry]⟩ (.seq (.region 0 [
 ⟨(some 12), .bin .lss (.tmp 11) (.tmp 10), none, 0, none⟩] []) (.seq (.cond (.tmp 12) (.skip) (.exit 0)) (.seq (.block 1 (.seq (.region 1 [
 ⟨(some 13), .indexSl 26 (.tmp 9) (.tmp 11), none, 0, none⟩,
 ⟨(some 14), .load true 26 (.tmp 13), none, 0, none⟩,
 ⟨(some 5), .alloc [.int .i64 (0), .int .i64 (0), .int .i64 (0), .int .i64 (0), .int .i64 (0), .int .i64 (0), .int .i64 (0), .int .i64 (0), .int .i64 (0), .int .i64 (0), .int .i64 (0), .int .i64 (0), .int .i64 (0), .int .i64 (0), .zsl, .int .i64 (0), .int .i64 (0), .int .i64 (0), .int .i64 (0), .int .i64 (0), .int .i64 (0), .int .i64 (0), .int .i64 (0), .zsl, .int .i64 (0), .bool false], none, 0, none⟩,
 ⟨none, .store 26 (.tmp 5) (.tmp 14), none, 1, none⟩] []) (.seq (.region 8 [
 ⟨(some 15), .fieldAddr 2 (.tmp 5), none, 0, (some ([], none))⟩,
 ⟨(some 16), .load true 17 (.tmp 15), none, 0, (some ([], none))⟩,
 ⟨(some 17), .call (.func 56) [(false, (.tmp 16))] true 4, none, 0, (some ([], none))⟩,
 ⟨(some 18), .fieldAddr 19 (.tmp 5), none, 4, (some ([], none))⟩,
 ⟨(some 19), .load true 5 (.tmp 18), none, 4, (some ([], none))⟩,
 ⟨(some 20), .call (.func 57) [(false, (.tmp 19))] false 4, none, 4, (some ([0, 1, 2, 3], none))⟩,
 ⟨(some 21), .fieldAddr 2 (.tmp 5), none, 8, (some ([0, 1, 2, 3, 4, 5, 6, 7], none))⟩,
 ⟨none, .store 17 (.tmp 21) (.tmp 17), none, 8, (some ([0, 1, 2, 3, 4, 5, 6, 7], none))⟩,
 ⟨(some 22), .fieldAddr 19 (.tmp 5), none, 8, (some ([0, 1, 2, 3, 4, 5, 6, 7], none))⟩,
 ⟨none, .store 5 (.tmp 22) (.tmp 20), none, 8, (some ([0, 1, 2, 3, 4, 5, 6, 7], none))⟩] []) (.region 2 [
 ⟨(some 23), .move (.tmp 3), none, 0, none⟩,
 ⟨(some 24), .load true 26 (.tmp 5), none, 0, none⟩,
 ⟨(some 25), .buildSlice 26 1 true [.int .i64 (0), .int .i64 (0), .int .i64 (0), .int .i64 (0), .int .i64 (0), .int .i64 (0), .int .i64 (0), .int .i64 (0), .int .i64 (0), .int .i64 (0), .int .i64 (0), .int .i64 (0), .int .i64 (0), .int .i64 (0), .zsl, .int .i64 (0), .int .i64 (0), .int .i64 (0), .int .i64 (0), .int .i64 (0), .int .i64 (0), .int .i64 (0), .int .i64 (0), .zsl, .int .i64 (0), .bool false] [(0, (.tmp 24))], none, 0, none⟩,
 ⟨(some 26), .append 26 240 true (.tmp 23) (.tmp 25), none, 1, none⟩,
 ⟨(some 3), .move (.tmp 26), none, 2, none⟩] [])))) (.region 0 [
 ⟨(some 27), .bin .add (.tmp 11) (.const (.int .i64 (1))), none, 0, none⟩,
 ⟨(some 11), .move (.tmp 27), none, 0, none⟩] []))))))) (.seq (.region 0 [
 ⟨(some 28), .move (.tmp 3), none, 0, none⟩,
 ⟨(some 2), .move (.tmp 28), none, 0, none⟩] []) (.ret)))), [.tmp 2], true⟩
def s60 : Sig := ⟨(.cons (.slw 0 26) .nil), [.typed .entry], ((.v (.list .entry)), [.typed .entry]), []⟩
def l60_0 (g56 : Request → Option Request) (g57 : Reply → Option Reply) (a0 : (List Entry)) (nx2 : ((Unit × (Unit × (Int × Unit))) × ((List Entry) × ((List Entry) × Unit))) → Option ((List Entry) × ((List Entry) × Unit))) (z3 : Int) (z4 : (List Entry)) (z5 : (List Entry)) : Option ((List Entry) × ((List Entry) × Unit)) :=
 cond (decide (z3 < (List.length a0 : Int)))
 (cond (decide (0 ≤ z3))
 (cond (decide ((Int.toNat z3) < (List.length z4)))
 (Option.bind (z4[Int.toNat z3]?) fun y6 =>
 Option.bind (g56 y6.request) fun r7 =>
 Option.bind (g57 y6.reply) fun r8 =>
 cond (smallB ((List.length z5) + 1) 240)
 (nx2 (((), (), IntKind.wrap .i64 (z3 + 1), ()), (z4, z5 ++ [Entry.mk y6.kind y6.user r7 r8 y6.job y6.ok], ())))
 (none))
 (none))
 (none))
 (some (z5, (z4, ())))
def F60 (L : Lp) (g56 : Request → Option Request) (g57 : Reply → Option Reply) (a0 : (List Entry)) : Option ((List Entry) × ((List Entry) × Unit)) :=
 cond (decide (0 ≤ (List.length a0 : Int)))
 (cond ((decide (0 ≤ (Int.toNat (List.length a0 : Int)))) && ((decide ((Int.toNat (List.length a0 : Int)) * 240 ≤ 1099511627776)) && (decide ((Int.toNat (List.length a0 : Int)) ≤ 4294967296))))
 (L (fun (s1 : ((Unit × (Unit × (Int × Unit))) × ((List Entry) × ((List Entry) × Unit)))) nx2 => l60_0 g56 g57 a0 nx2 s1.1.2.2.1 s1.2.1 s1.2.2.1) (((), (), 0, ()), (a0, (List.replicate 0 (Entry.mk 0 0 (Request.mk 0 0 0 0 0 0 (Res.mk 0 0 0 0) 0 0 [] 0 0 0 0) (Reply.mk 0 0 0 0 []) 0 false) : List Entry), ())))
 (none))
 (none)
theorem e60 (L : Lp) (g56 : Request → Option Request) (g57 : Reply → Option Reply) (x : s60.args.den) (h : denH s60.heap) : nrun [⟨56, s56, fun x h => g56 x.1⟩, ⟨57, s57, fun x h => g57 x.1⟩] L n60 s60 x h = F60 L g56 g57 h.1 := by kernel_rfl
def f60 : (List Entry) → Option ((List Entry) × ((List Entry) × Unit)) := F60 (@LN LOOPS) f56 f57
@[reducible] def t60 : Ent := ⟨60, s60, fun x h => f60 h.1⟩
theorem k60 : chkNF Try.prog Try.f60 n60 = true := by kernel_rfl
theorem ok60 : NOk Try.prog t60 := NOk.body (T := [t56, t57]) mixed (nall_cons ok56 (nall_cons ok57 nall_nil)) (oneEach_of (by kernel_rfl)) Try.func60 k60 (by kernel_rfl) (fun x h => e60 _ _ _ x h)
/- (*drayage/keys.Keys).Entries -/
def n28 : NFunc := ⟨16, .seq (.region 0 [
 ⟨(some 4), .move (.const (.zsl)), none, 0, none⟩] []) (.seq (.region 4 [
 ⟨(some 6), .move (.tmp 0), none, 0, none⟩,
 ⟨(some 7), .move (.tmp 1), none, 0, none⟩,
 ⟨(some 8), .call (.func 53) [(true, (.tmp 6)), (false, (.tmp 7))] false 4, none, 0, none⟩,
 ⟨(some 5), .move (.tmp 8), none, 4, none⟩] []) (.seq (.seq (.region 0 [
 ⟨(some 9), .move (.tmp 5), none, 0, none⟩,
 ⟨(some 10), .eqP false (.tmp 9) (.const (.nilp)), none, 0, none⟩] []) (.cond (.tmp 10) (.seq (.region 0 [
 ⟨(some 4), .move (.const (.zsl)), none, 0, none⟩] []) (.ret)) (.skip))) (.seq (.region 4 [
 ⟨(some 11), .move (.tmp 5), none, 0, none⟩,
 ⟨(some 12), .nilCheck (.tmp 11), none, 0, none⟩,
 ⟨(some 13), .fieldAddr 1 (.tmp 12), none, 0, none⟩,
 ⟨(some 14), .load false 1 (.tmp 13), none, 0, none⟩,
 ⟨(some 15), .call (.func 60) [(true, (.tmp 14))] false 4, none, 0, none⟩,
 ⟨(some 4), .move (.tmp 15), none, 4, none⟩] []) (.ret)))), [.tmp 4], true⟩
def s28 : Sig := ⟨(.cons (.ptr 0 0 0) (.cons (.v (.int .i64)) .nil)), [.cell false (.cons (.v (.int .i64)) (.cons (.slw 1 2) .nil)), .many 2 (.cons (.cons (.v (.int .i64)) (.cons (.slw 2 26) .nil)) (.cons (.cons (.v (.int .i64)) (.cons (.slw 3 26) .nil)) .nil)), .typed .entry, .typed .entry], ((.v (.list .entry)), [.cell false (.cons (.v (.int .i64)) (.cons (.slw 1 2) .nil)), .many 2 (.cons (.cons (.v (.int .i64)) (.cons (.slw 2 26) .nil)) (.cons (.cons (.v (.int .i64)) (.cons (.slw 3 26) .nil)) .nil)), .typed .entry, .typed .entry]), []⟩
def F28 (L : Lp) (g53_3 : Int → Int → Int → Int → (List Entry) → (List Entry) → Option y53_3) (g60 : (List Entry) → Option ((List Entry) × ((List Entry) × Unit))) (user0 : Int) (a1 : Int) (a2 : Int) (a3 : Int) (a4 : (List Entry)) (a5 : (List Entry)) : Option ((List Entry) × ((Int × (Unit × Unit)) × (((Int × (Unit × Unit)) × ((Int × (Unit × Unit)) × Unit)) × ((List Entry) × ((List Entry) × Unit))))) :=
 Option.bind (g53_3 user0 a1 a2 a3 a4 a5) (Sum.elim (fun r6 =>
 cond (true && (true && ((decide ((List.length r6.2.2.2.1) = (List.length a4))) && ((decide ((List.length r6.2.2.2.2.1) = (List.length a5))) && true))))
 (some ([], ((r6.2.1.1, (), ()), ((r6.2.2.1.1.1, (), ()), ((r6.2.2.1.2.1.1, (), ()), ())), r6.2.2.2.1, r6.2.2.2.2.1, ())))
 (none)) (Sum.elim (fun r7 =>
 cond (true && (true && ((decide ((List.length r7.2.2.2.1) = (List.length a4))) && ((decide ((List.length r7.2.2.2.2.1) = (List.length a5))) && true))))
 (Option.bind (g60 r7.2.2.2.2.1) fun r8 =>
 cond ((decide ((List.length r8.2.1) = (List.length r7.2.2.2.2.1))) && true)
 (some (r8.1, ((r7.2.1.1, (), ()), ((r7.2.2.1.1.1, (), ()), ((r7.2.2.1.2.1.1, (), ()), ())), r7.2.2.2.1, r8.2.1, ())))
 (none))
 (none)) (fun r9 =>
 cond (true && (true && ((decide ((List.length r9.2.2.2.1) = (List.length a4))) && ((decide ((List.length r9.2.2.2.2.1) = (List.length a5))) && true))))
 (Option.bind (g60 r9.2.2.2.1) fun r10 =>
 cond ((decide ((List.length r10.2.1) = (List.length r9.2.2.2.1))) && true)
 (some (r10.1, ((r9.2.1.1, (), ()), ((r9.2.2.1.1.1, (), ()), ((r9.2.2.1.2.1.1, (), ()), ())), r10.2.1, r9.2.2.2.2.1, ())))
 (none))
 (none))))
theorem e28 (L : Lp) (g53_3 : Int → Int → Int → Int → (List Entry) → (List Entry) → Option y53_3) (g60 : (List Entry) → Option ((List Entry) × ((List Entry) × Unit))) (x : s28.args.den) (h : denH s28.heap) : nrun [⟨53, s53_3, fun x h => g53_3 x.2.1 h.1.1 h.2.1.1.1 h.2.1.2.1.1 h.2.2.1 h.2.2.2.1⟩, ⟨60, s60, fun x h => g60 h.1⟩] L n28 s28 x h = F28 L g53_3 g60 x.2.1 h.1.1 h.2.1.1.1 h.2.1.2.1.1 h.2.2.1 h.2.2.2.1 := by kernel_rfl
def f28 : Int → Int → Int → Int → (List Entry) → (List Entry) → Option ((List Entry) × ((Int × (Unit × Unit)) × (((Int × (Unit × Unit)) × ((Int × (Unit × Unit)) × Unit)) × ((List Entry) × ((List Entry) × Unit))))) := F28 (@LN LOOPS) f53_3 f60
@[reducible] def t28 : Ent := ⟨28, s28, fun x h => f28 x.2.1 h.1.1 h.2.1.1.1 h.2.1.2.1.1 h.2.2.1 h.2.2.2.1⟩
theorem k28 : chkNF Try.prog Try.f28 n28 = true := by kernel_rfl
theorem ok28 : NOk Try.prog t28 := NOk.body (T := [t53_3, t60]) mixed (nall_cons ok53_3 (nall_cons ok60 nall_nil)) (oneEach_of (by kernel_rfl)) Try.func28 k28 (by kernel_rfl) (fun x h => e28 _ _ _ x h)
/- (*drayage/keys.known).find -/
def n55_4 : NFunc := ⟨14, .seq (.region 0 [
 ⟨(some 4), .move (.const (.int .i64 (0))), none, 0, none⟩,
 ⟨(some 5), .move (.const (.bool false)), none, 0, none⟩] []) (.seq (.region 4 [
 ⟨(some 6), .move (.tmp 0), none, 0, none⟩,
 ⟨(some 7), .nilCheck (.tmp 6), none, 0, none⟩,
 ⟨(some 8), .fieldAddr 1 (.tmp 7), none, 0, none⟩,
 ⟨(some 9), .load false 1 (.tmp 8), none, 0, none⟩,
 ⟨(some 10), .move (.tmp 1), none, 0, none⟩,
 ⟨(some 11), .call (.func 83) [(true, (.tmp 9)), (false, (.tmp 10)), (false, (.func 84))] false 4, none, 0, none⟩,
 ⟨(some 12), .extract (.tmp 11) 0, none, 4, none⟩,
 ⟨(some 13), .extract (.tmp 11) 1, none, 4, none⟩,
 ⟨(some 4), .move (.tmp 12), none, 4, none⟩,
 ⟨(some 5), .move (.tmp 13), none, 4, none⟩] []) (.ret)), [.tmp 4, .tmp 5], true⟩
def s55_4 : Sig := ⟨(.cons (.ptr 0 1 0) (.cons (.v (.int .i64)) .nil)), [.many 2 (.cons (.cons (.v (.int .i64)) (.cons (.slw 1 26) .nil)) (.cons (.cons (.v (.int .i64)) (.cons (.slw 2 26) .nil)) .nil)), .typed .entry, .typed .entry], ((.tup (.cons (.v (.int .i64)) (.cons (.v .bool) .nil))), [.many 2 (.cons (.cons (.v (.int .i64)) (.cons (.slw 1 26) .nil)) (.cons (.cons (.v (.int .i64)) (.cons (.slw 2 26) .nil)) .nil)), .typed .entry, .typed .entry]), []⟩
def F55_4 (L : Lp) (g83_1 : Int → (List Entry) → Option ((Int × (Bool × Unit)) × ((List Entry) × Unit))) (key0 : Int) (a1 : Int) (a2 : Int) (a3 : (List Entry)) (a4 : (List Entry)) : Option ((Int × (Bool × Unit)) × (((Int × (Unit × Unit)) × ((Int × (Unit × Unit)) × Unit)) × ((List Entry) × ((List Entry) × Unit)))) :=
 Option.bind (g83_1 key0 a4) fun r5 =>
 cond ((decide ((List.length r5.2.1) = (List.length a4))) && true)
 (some ((r5.1.1, r5.1.2.1, ()), (((a1, (), ()), ((a2, (), ()), ())), a3, r5.2.1, ())))
 (none)
theorem e55_4 (L : Lp) (g83_1 : Int → (List Entry) → Option ((Int × (Bool × Unit)) × ((List Entry) × Unit))) (x : s55_4.args.den) (h : denH s55_4.heap) : nrun [⟨83, s83_1, fun x h => g83_1 x.2.1 h.1⟩] L n55_4 s55_4 x h = F55_4 L g83_1 x.2.1 h.1.1.1 h.1.2.1.1 h.2.1 h.2.2.1 := by kernel_rfl
def f55_4 : Int → Int → Int → (List Entry) → (List Entry) → Option ((Int × (Bool × Unit)) × (((Int × (Unit × Unit)) × ((Int × (Unit × Unit)) × Unit)) × ((List Entry) × ((List Entry) × Unit)))) := F55_4 (@LN LOOPS) f83_1
@[reducible] def t55_4 : Ent := ⟨55, s55_4, fun x h => f55_4 x.2.1 h.1.1.1 h.1.2.1.1 h.2.1 h.2.2.1⟩
theorem k55_4 : chkNF Try.prog Try.f55 n55_4 = true := by kernel_rfl
theorem ok55_4 : NOk Try.prog t55_4 := NOk.body (T := [t83_1]) mixed (nall_cons ok83_1 nall_nil) (oneEach_of (by kernel_rfl)) Try.func55 k55_4 (by kernel_rfl) (fun x h => e55_4 _ _ x h)
/- (*drayage/keys.known).find -/
def n55_5 : NFunc := ⟨14, .seq (.region 0 [
 ⟨(some 4), .move (.const (.int .i64 (0))), none, 0, none⟩,
 ⟨(some 5), .move (.const (.bool false)), none, 0, none⟩] []) (.seq (.region 4 [
 ⟨(some 6), .move (.tmp 0), none, 0, none⟩,
 ⟨(some 7), .nilCheck (.tmp 6), none, 0, none⟩,
 ⟨(some 8), .fieldAddr 1 (.tmp 7), none, 0, none⟩,
 ⟨(some 9), .load false 1 (.tmp 8), none, 0, none⟩,
 ⟨(some 10), .move (.tmp 1), none, 0, none⟩,
 ⟨(some 11), .call (.func 83) [(true, (.tmp 9)), (false, (.tmp 10)), (false, (.func 84))] false 4, none, 0, none⟩,
 ⟨(some 12), .extract (.tmp 11) 0, none, 4, none⟩,
 ⟨(some 13), .extract (.tmp 11) 1, none, 4, none⟩,
 ⟨(some 4), .move (.tmp 12), none, 4, none⟩,
 ⟨(some 5), .move (.tmp 13), none, 4, none⟩] []) (.ret)), [.tmp 4, .tmp 5], true⟩
def s55_5 : Sig := ⟨(.cons (.ptr 0 0 0) (.cons (.v (.int .i64)) .nil)), [.many 2 (.cons (.cons (.v (.int .i64)) (.cons (.slw 1 26) .nil)) (.cons (.cons (.v (.int .i64)) (.cons (.slw 2 26) .nil)) .nil)), .typed .entry, .typed .entry], ((.tup (.cons (.v (.int .i64)) (.cons (.v .bool) .nil))), [.many 2 (.cons (.cons (.v (.int .i64)) (.cons (.slw 1 26) .nil)) (.cons (.cons (.v (.int .i64)) (.cons (.slw 2 26) .nil)) .nil)), .typed .entry, .typed .entry]), []⟩
def F55_5 (L : Lp) (g83_1 : Int → (List Entry) → Option ((Int × (Bool × Unit)) × ((List Entry) × Unit))) (key0 : Int) (a1 : Int) (a2 : Int) (a3 : (List Entry)) (a4 : (List Entry)) : Option ((Int × (Bool × Unit)) × (((Int × (Unit × Unit)) × ((Int × (Unit × Unit)) × Unit)) × ((List Entry) × ((List Entry) × Unit)))) :=
 Option.bind (g83_1 key0 a3) fun r5 =>
 cond ((decide ((List.length r5.2.1) = (List.length a3))) && true)
 (some ((r5.1.1, r5.1.2.1, ()), (((a1, (), ()), ((a2, (), ()), ())), r5.2.1, a4, ())))
 (none)
theorem e55_5 (L : Lp) (g83_1 : Int → (List Entry) → Option ((Int × (Bool × Unit)) × ((List Entry) × Unit))) (x : s55_5.args.den) (h : denH s55_5.heap) : nrun [⟨83, s83_1, fun x h => g83_1 x.2.1 h.1⟩] L n55_5 s55_5 x h = F55_5 L g83_1 x.2.1 h.1.1.1 h.1.2.1.1 h.2.1 h.2.2.1 := by kernel_rfl
def f55_5 : Int → Int → Int → (List Entry) → (List Entry) → Option ((Int × (Bool × Unit)) × (((Int × (Unit × Unit)) × ((Int × (Unit × Unit)) × Unit)) × ((List Entry) × ((List Entry) × Unit)))) := F55_5 (@LN LOOPS) f83_1
@[reducible] def t55_5 : Ent := ⟨55, s55_5, fun x h => f55_5 x.2.1 h.1.1.1 h.1.2.1.1 h.2.1 h.2.2.1⟩
theorem k55_5 : chkNF Try.prog Try.f55 n55_5 = true := by kernel_rfl
theorem ok55_5 : NOk Try.prog t55_5 := NOk.body (T := [t83_1]) mixed (nall_cons ok83_1 nall_nil) (oneEach_of (by kernel_rfl)) Try.func55 k55_5 (by kernel_rfl) (fun x h => e55_5 _ _ x h)
/- (*drayage/keys.Keys).Look -/
def n29_1 : NFunc := ⟨60, .seq (.region 2 [
 ⟨(some 5), .box 17 (.tmp 2), none, 0, none⟩,
 ⟨(some 6), .move (.const (.int .i64 (0))), none, 1, none⟩,
 ⟨(some 7), .alloc [.int .i64 (0), .int .i64 (0), .int .i64 (0), .int .i64 (0), .zsl], none, 1, none⟩] []) (.seq (.region 4 [
 ⟨(some 11), .move (.tmp 0), none, 0, none⟩,
 ⟨(some 12), .move (.tmp 1), none, 0, none⟩,
 ⟨(some 13), .call (.func 53) [(true, (.tmp 11)), (false, (.tmp 12))] false 4, none, 0, none⟩,
 ⟨(some 8), .move (.tmp 13), none, 4, none⟩] []) (.seq (.seq (.region 0 [
 ⟨(some 14), .move (.tmp 8), none, 0, none⟩,
 ⟨(some 15), .eqP false (.tmp 14) (.const (.nilp)), none, 0, none⟩] []) (.cond (.tmp 15) (.seq (.region 0 [
 ⟨(some 16), .build [.int .i64 (0), .int .i64 (0), .int .i64 (0), .int .i64 (0), .zsl] [], none, 0, none⟩,
 ⟨(some 6), .move (.const (.int .i64 (0))), none, 0, none⟩,
 ⟨none, .store 5 (.tmp 7) (.tmp 16), none, 0, none⟩] []) (.ret)) (.skip))) (.seq (.region 4 [
 ⟨(some 18), .move (.tmp 8), none, 0, none⟩,
 ⟨(some 19), .fieldAddr 1 (.tmp 5), none, 0, none⟩,
 ⟨(some 20), .load false 1 (.tmp 19), none, 0, none⟩,
 ⟨(some 21), .call (.func 55) [(true, (.tmp 18)), (false, (.tmp 20))] false 4, none, 0, none⟩,
 ⟨(some 17), .move (.tmp 21), none, 4, none⟩,
 ⟨(some 22), .extract (.tmp 17) 0, none, 4, none⟩,
 ⟨(some 23), .extract (.tmp 17) 1, none, 4, none⟩,
 ⟨(some 9), .move (.tmp 22), none, 4, none⟩,
 ⟨(some 10), .move (.tmp 23), none, 4, none⟩] []) (.seq (.block 0 (.seq (.region 4 [
 ⟨(some 25), .move (.tmp 10), none, 0, (some ([], none))⟩,
 ⟨(some 26), .move (.tmp 25), none, 0, (some ([], none))⟩,
 ⟨(some 27), .move (.tmp 8), (some (26, true)), 0, (some ([], none))⟩,
 ⟨(some 28), .nilCheck (.tmp 27), (some (26, true)), 0, (some ([], none))⟩,
 ⟨(some 29), .fieldAddr 1 (.tmp 28), (some (26, true)), 0, (some ([], none))⟩,
 ⟨(some 30), .load false 1 (.tmp 29), (some (26, true)), 0, (some ([], none))⟩,
 ⟨(some 31), .move (.tmp 9), (some (26, true)), 0, (some ([], none))⟩,
 ⟨(some 32), .indexSl 26 (.tmp 30) (.tmp 31), (some (26, true)), 0, (some ([], none))⟩,
 ⟨(some 33), .fieldAddr 2 (.tmp 32), (some (26, true)), 0, (some ([], none))⟩,
 ⟨(some 34), .load true 17 (.tmp 33), (some (26, true)), 0, (some ([], none))⟩,
 ⟨(some 35), .load true 17 (.tmp 5), (some (26, true)), 0, (some ([], none))⟩,
 ⟨(some 36), .call (.func 61) [(false, (.tmp 34)), (false, (.tmp 35))] false 4, (some (26, true)), 0, (some ([], none))⟩,
 ⟨(some 37), .pick (.tmp 26) (.tmp 36) (.const (.bool false)), none, 4, (some ([0, 1, 2, 3], none))⟩,
 ⟨(some 24), .move (.tmp 37), none, 4, (some ([0, 1, 2, 3], none))⟩] []) (.cond (.tmp 24) (.seq (.region 4 [
 ⟨(some 38), .move (.tmp 8), none, 0, none⟩,
 ⟨(some 39), .nilCheck (.tmp 38), none, 0, none⟩,
 ⟨(some 40), .fieldAddr 1 (.tmp 39), none, 0, none⟩,
 ⟨(some 41), .load false 1 (.tmp 40), none, 0, none⟩,
 ⟨(some 42), .move (.tmp 9), none, 0, none⟩,
 ⟨(some 43), .indexSl 26 (.tmp 41) (.tmp 42), none, 0, none⟩,
 ⟨(some 44), .fieldAddr 19 (.tmp 43), none, 0, none⟩,
 ⟨(some 45), .load true 5 (.tmp 44), none, 0, none⟩,
 ⟨(some 46), .call (.func 57) [(false, (.tmp 45))] false 4, none, 0, none⟩,
 ⟨(some 6), .move (.const (.int .i64 (2))), none, 4, none⟩,
 ⟨none, .store 5 (.tmp 7) (.tmp 46), none, 4, none⟩] []) (.ret)) (.seq (.region 0 [
 ⟨(some 48), .move (.tmp 10), none, 0, none⟩,
 ⟨(some 47), .move (.tmp 48), none, 0, none⟩] []) (.cond (.tmp 47) (.seq (.region 0 [
 ⟨(some 49), .build [.int .i64 (0), .int .i64 (0), .int .i64 (0), .int .i64 (0), .zsl] [], none, 0, none⟩,
 ⟨(some 6), .move (.const (.int .i64 (3))), none, 0, none⟩,
 ⟨none, .store 5 (.tmp 7) (.tmp 49), none, 0, none⟩] []) (.ret)) (.seq (.region 0 [
 ⟨(some 51), .fieldAddr 1 (.tmp 5), none, 0, (some ([], none))⟩,
 ⟨(some 52), .load false 1 (.tmp 51), none, 0, (some ([], none))⟩,
 ⟨(some 53), .move (.tmp 8), none, 0, (some ([], none))⟩,
 ⟨(some 54), .nilCheck (.tmp 53), none, 0, (some ([], none))⟩,
 ⟨(some 55), .fieldAddr 0 (.tmp 54), none, 0, (some ([], none))⟩,
 ⟨(some 56), .load false 1 (.tmp 55), none, 0, (some ([], none))⟩,
 ⟨(some 57), .bin .leq (.tmp 52) (.tmp 56), none, 0, (some ([], none))⟩,
 ⟨(some 50), .move (.tmp 57), none, 0, (some ([], none))⟩] []) (.cond (.tmp 50) (.seq (.region 0 [
 ⟨(some 58), .build [.int .i64 (0), .int .i64 (0), .int .i64 (0), .int .i64 (0), .zsl] [], none, 0, none⟩,
 ⟨(some 6), .move (.const (.int .i64 (4))), none, 0, none⟩,
 ⟨none, .store 5 (.tmp 7) (.tmp 58), none, 0, none⟩] []) (.ret)) (.skip)))))))) (.seq (.region 0 [
 ⟨(some 59), .build [.int .i64 (0), .int .i64 (0), .int .i64 (0), .int .i64 (0), .zsl] [], none, 0, none⟩,
 ⟨(some 6), .move (.const (.int .i64 (1))), none, 0, none⟩,
 ⟨none, .store 5 (.tmp 7) (.tmp 59), none, 0, none⟩] []) (.ret)))))), [.tmp 6, .cell true 5 7], true⟩
def s29_1 : Sig := ⟨(.cons (.ptr 0 0 0) (.cons (.v (.int .i64)) (.cons (.v .request) .nil))), [.cell false (.cons (.v (.int .i64)) (.cons (.slw 1 2) .nil)), .many 2 (.cons (.cons (.v (.int .i64)) (.cons (.slw 2 26) .nil)) (.cons (.cons (.v (.int .i64)) (.cons (.slw 3 26) .nil)) .nil)), .typed .entry, .typed .entry], ((.tup (.cons (.v (.int .i64)) (.cons (.v .reply) .nil))), [.cell false (.cons (.v (.int .i64)) (.cons (.slw 1 2) .nil)), .many 2 (.cons (.cons (.v (.int .i64)) (.cons (.slw 2 26) .nil)) (.cons (.cons (.v (.int .i64)) (.cons (.slw 3 26) .nil)) .nil)), .typed .entry, .typed .entry]), []⟩
def F29_1 (L : Lp) (g53_3 : Int → Int → Int → Int → (List Entry) → (List Entry) → Option y53_3) (g55_4 : Int → Int → Int → (List Entry) → (List Entry) → Option ((Int × (Bool × Unit)) × (((Int × (Unit × Unit)) × ((Int × (Unit × Unit)) × Unit)) × ((List Entry) × ((List Entry) × Unit))))) (g61 : Request → Request → Option Bool) (g57 : Reply → Option Reply) (g55_5 : Int → Int → Int → (List Entry) → (List Entry) → Option ((Int × (Bool × Unit)) × (((Int × (Unit × Unit)) × ((Int × (Unit × Unit)) × Unit)) × ((List Entry) × ((List Entry) × Unit))))) (user0 : Int) (ar1 : Request) (a2 : Int) (a3 : Int) (a4 : Int) (a5 : (List Entry)) (a6 : (List Entry)) : Option ((Int × (Reply × Unit)) × ((Int × (Unit × Unit)) × (((Int × (Unit × Unit)) × ((Int × (Unit × Unit)) × Unit)) × ((List Entry) × ((List Entry) × Unit))))) :=
 Option.bind (g53_3 user0 a2 a3 a4 a5 a6) (Sum.elim (fun r7 =>
 cond (true && (true && ((decide ((List.length r7.2.2.2.1) = (List.length a5))) && ((decide ((List.length r7.2.2.2.2.1) = (List.length a6))) && true))))
 (some ((0, Reply.mk 0 0 0 0 [], ()), ((r7.2.1.1, (), ()), ((r7.2.2.1.1.1, (), ()), ((r7.2.2.1.2.1.1, (), ()), ())), r7.2.2.2.1, r7.2.2.2.2.1, ())))
 (none)) (Sum.elim (fun r8 =>
 cond (true && (true && ((decide ((List.length r8.2.2.2.1) = (List.length a5))) && ((decide ((List.length r8.2.2.2.2.1) = (List.length a6))) && true))))
 (Option.bind (g55_4 ar1.key r8.2.2.1.1.1 r8.2.2.1.2.1.1 r8.2.2.2.1 r8.2.2.2.2.1) fun r9 =>
 cond (true && ((decide ((List.length r9.2.2.1) = (List.length r8.2.2.2.1))) && ((decide ((List.length r9.2.2.2.1) = (List.length r8.2.2.2.2.1))) && true)))
 (cond r9.1.2.1
 (cond (decide (0 ≤ r9.1.1))
 (cond (decide ((Int.toNat r9.1.1) < (List.length r9.2.2.2.1)))
 (Option.bind (r9.2.2.2.1[Int.toNat r9.1.1]?) fun y10 =>
 Option.bind (g61 y10.request ar1) fun r11 =>
 cond r11
 (cond (decide (0 ≤ r9.1.1))
 (cond (decide ((Int.toNat r9.1.1) < (List.length r9.2.2.2.1)))
 (Option.bind (r9.2.2.2.1[Int.toNat r9.1.1]?) fun y12 =>
 Option.bind (g57 y12.reply) fun r13 =>
 some ((2, r13, ()), ((r8.2.1.1, (), ()), ((r9.2.1.1.1, (), ()), ((r9.2.1.2.1.1, (), ()), ())), r9.2.2.1, r9.2.2.2.1, ())))
 (none))
 (none))
 (cond r9.1.2.1
 (some ((3, Reply.mk 0 0 0 0 [], ()), ((r8.2.1.1, (), ()), ((r9.2.1.1.1, (), ()), ((r9.2.1.2.1.1, (), ()), ())), r9.2.2.1, r9.2.2.2.1, ())))
 (cond (decide (ar1.key ≤ r9.2.1.2.1.1))
 (some ((4, Reply.mk 0 0 0 0 [], ()), ((r8.2.1.1, (), ()), ((r9.2.1.1.1, (), ()), ((r9.2.1.2.1.1, (), ()), ())), r9.2.2.1, r9.2.2.2.1, ())))
 (some ((1, Reply.mk 0 0 0 0 [], ()), ((r8.2.1.1, (), ()), ((r9.2.1.1.1, (), ()), ((r9.2.1.2.1.1, (), ()), ())), r9.2.2.1, r9.2.2.2.1, ()))))))
 (none))
 (none))
 (cond r9.1.2.1
 (some ((3, Reply.mk 0 0 0 0 [], ()), ((r8.2.1.1, (), ()), ((r9.2.1.1.1, (), ()), ((r9.2.1.2.1.1, (), ()), ())), r9.2.2.1, r9.2.2.2.1, ())))
 (cond (decide (ar1.key ≤ r9.2.1.2.1.1))
 (some ((4, Reply.mk 0 0 0 0 [], ()), ((r8.2.1.1, (), ()), ((r9.2.1.1.1, (), ()), ((r9.2.1.2.1.1, (), ()), ())), r9.2.2.1, r9.2.2.2.1, ())))
 (some ((1, Reply.mk 0 0 0 0 [], ()), ((r8.2.1.1, (), ()), ((r9.2.1.1.1, (), ()), ((r9.2.1.2.1.1, (), ()), ())), r9.2.2.1, r9.2.2.2.1, ()))))))
 (none))
 (none)) (fun r14 =>
 cond (true && (true && ((decide ((List.length r14.2.2.2.1) = (List.length a5))) && ((decide ((List.length r14.2.2.2.2.1) = (List.length a6))) && true))))
 (Option.bind (g55_5 ar1.key r14.2.2.1.1.1 r14.2.2.1.2.1.1 r14.2.2.2.1 r14.2.2.2.2.1) fun r15 =>
 cond (true && ((decide ((List.length r15.2.2.1) = (List.length r14.2.2.2.1))) && ((decide ((List.length r15.2.2.2.1) = (List.length r14.2.2.2.2.1))) && true)))
 (cond r15.1.2.1
 (cond (decide (0 ≤ r15.1.1))
 (cond (decide ((Int.toNat r15.1.1) < (List.length r15.2.2.1)))
 (Option.bind (r15.2.2.1[Int.toNat r15.1.1]?) fun y16 =>
 Option.bind (g61 y16.request ar1) fun r17 =>
 cond r17
 (cond (decide (0 ≤ r15.1.1))
 (cond (decide ((Int.toNat r15.1.1) < (List.length r15.2.2.1)))
 (Option.bind (r15.2.2.1[Int.toNat r15.1.1]?) fun y18 =>
 Option.bind (g57 y18.reply) fun r19 =>
 some ((2, r19, ()), ((r14.2.1.1, (), ()), ((r15.2.1.1.1, (), ()), ((r15.2.1.2.1.1, (), ()), ())), r15.2.2.1, r15.2.2.2.1, ())))
 (none))
 (none))
 (cond r15.1.2.1
 (some ((3, Reply.mk 0 0 0 0 [], ()), ((r14.2.1.1, (), ()), ((r15.2.1.1.1, (), ()), ((r15.2.1.2.1.1, (), ()), ())), r15.2.2.1, r15.2.2.2.1, ())))
 (cond (decide (ar1.key ≤ r15.2.1.1.1))
 (some ((4, Reply.mk 0 0 0 0 [], ()), ((r14.2.1.1, (), ()), ((r15.2.1.1.1, (), ()), ((r15.2.1.2.1.1, (), ()), ())), r15.2.2.1, r15.2.2.2.1, ())))
 (some ((1, Reply.mk 0 0 0 0 [], ()), ((r14.2.1.1, (), ()), ((r15.2.1.1.1, (), ()), ((r15.2.1.2.1.1, (), ()), ())), r15.2.2.1, r15.2.2.2.1, ()))))))
 (none))
 (none))
 (cond r15.1.2.1
 (some ((3, Reply.mk 0 0 0 0 [], ()), ((r14.2.1.1, (), ()), ((r15.2.1.1.1, (), ()), ((r15.2.1.2.1.1, (), ()), ())), r15.2.2.1, r15.2.2.2.1, ())))
 (cond (decide (ar1.key ≤ r15.2.1.1.1))
 (some ((4, Reply.mk 0 0 0 0 [], ()), ((r14.2.1.1, (), ()), ((r15.2.1.1.1, (), ()), ((r15.2.1.2.1.1, (), ()), ())), r15.2.2.1, r15.2.2.2.1, ())))
 (some ((1, Reply.mk 0 0 0 0 [], ()), ((r14.2.1.1, (), ()), ((r15.2.1.1.1, (), ()), ((r15.2.1.2.1.1, (), ()), ())), r15.2.2.1, r15.2.2.2.1, ()))))))
 (none))
 (none))))
theorem e29_1 (L : Lp) (g53_3 : Int → Int → Int → Int → (List Entry) → (List Entry) → Option y53_3) (g55_4 : Int → Int → Int → (List Entry) → (List Entry) → Option ((Int × (Bool × Unit)) × (((Int × (Unit × Unit)) × ((Int × (Unit × Unit)) × Unit)) × ((List Entry) × ((List Entry) × Unit))))) (g61 : Request → Request → Option Bool) (g57 : Reply → Option Reply) (g55_5 : Int → Int → Int → (List Entry) → (List Entry) → Option ((Int × (Bool × Unit)) × (((Int × (Unit × Unit)) × ((Int × (Unit × Unit)) × Unit)) × ((List Entry) × ((List Entry) × Unit))))) (x : s29_1.args.den) (h : denH s29_1.heap) : nrun [⟨53, s53_3, fun x h => g53_3 x.2.1 h.1.1 h.2.1.1.1 h.2.1.2.1.1 h.2.2.1 h.2.2.2.1⟩, ⟨55, s55_4, fun x h => g55_4 x.2.1 h.1.1.1 h.1.2.1.1 h.2.1 h.2.2.1⟩, ⟨61, s61, fun x h => g61 x.1 x.2.1⟩, ⟨57, s57, fun x h => g57 x.1⟩, ⟨55, s55_5, fun x h => g55_5 x.2.1 h.1.1.1 h.1.2.1.1 h.2.1 h.2.2.1⟩] L n29_1 s29_1 x h = F29_1 L g53_3 g55_4 g61 g57 g55_5 x.2.1 x.2.2.1 h.1.1 h.2.1.1.1 h.2.1.2.1.1 h.2.2.1 h.2.2.2.1 := by kernel_rfl
def f29_1 : Int → Request → Int → Int → Int → (List Entry) → (List Entry) → Option ((Int × (Reply × Unit)) × ((Int × (Unit × Unit)) × (((Int × (Unit × Unit)) × ((Int × (Unit × Unit)) × Unit)) × ((List Entry) × ((List Entry) × Unit))))) := F29_1 (@LN LOOPS) f53_3 f55_4 f61 f57 f55_5
@[reducible] def t29_1 : Ent := ⟨29, s29_1, fun x h => f29_1 x.2.1 x.2.2.1 h.1.1 h.2.1.1.1 h.2.1.2.1.1 h.2.2.1 h.2.2.2.1⟩
theorem k29_1 : chkNF Try.prog Try.f29 n29_1 = true := by kernel_rfl
theorem ok29_1 : NOk Try.prog t29_1 := NOk.body (T := [t53_3, t55_4, t61, t57, t55_5]) mixed (nall_cons ok53_3 (nall_cons ok55_4 (nall_cons ok61 (nall_cons ok57 (nall_cons ok55_5 nall_nil))))) (oneEach_of (by kernel_rfl)) Try.func29 k29_1 (by kernel_rfl) (fun x h => e29_1 _ _ _ _ _ _ x h)
/- drayage/drayageref01.Ints -/
def n62 : NFunc := ⟨26, .seq (.region 0 [
 ⟨(some 4), .move (.const (.bool false)), none, 0, none⟩] []) (.seq (.seq (.region 0 [
 ⟨(some 6), .move (.tmp 0), none, 0, none⟩,
 ⟨(some 7), .len (.tmp 6), none, 0, none⟩,
 ⟨(some 8), .move (.tmp 1), none, 0, none⟩,
 ⟨(some 9), .len (.tmp 8), none, 0, none⟩,
 ⟨(some 10), .bin .neq (.tmp 7) (.tmp 9), none, 0, none⟩] []) (.cond (.tmp 10) (.seq (.region 0 [
 ⟨(some 4), .move (.const (.bool false)), none, 0, none⟩] []) (.ret)) (.skip))) (.seq (.seq (.region 0 [
 ⟨(some 5), .move (.const (.int .i64 (0))), none, 0, none⟩] []) (.block 0 (.loop [0, 1, 5] ⟨[(5, (.v (.int .i64)))], [0, 1], []⟩ (.seq (.seq (.region 0 [
 ⟨(some 11), .move (.tmp 5), none, 0, none⟩,
 ⟨(some 12), .move (.tmp 0), none, 0, none⟩,
 ⟨(some 13), .len (.tmp 12), none, 0, none⟩,
 ⟨(some 14), .bin .lss (.tmp 11) (.tmp 13), none, 0, none⟩] []) (.cond (.tmp 14) (.skip) (.exit 0))) (.seq (.block 1 (.seq (.region 0 [
 ⟨(some 17), .move (.tmp 0), none, 0, (some ([], none))⟩,
 ⟨(some 18), .move (.tmp 5), none, 0, (some ([], none))⟩,
 ⟨(some 19), .indexSl 1 (.tmp 17) (.tmp 18), none, 0, (some ([], none))⟩,
 ⟨(some 20), .load false 1 (.tmp 19), none, 0, (some ([], none))⟩,
 ⟨(some 21), .move (.tmp 1), none, 0, (some ([], none))⟩,
 ⟨(some 22), .move (.tmp 5), none, 0, (some ([], none))⟩,
 ⟨(some 23), .indexSl 1 (.tmp 21) (.tmp 22), none, 0, (some ([], none))⟩,
 ⟨(some 24), .load false 1 (.tmp 23), none, 0, (some ([], none))⟩,
 ⟨(some 25), .bin .neq (.tmp 20) (.tmp 24), none, 0, (some ([], none))⟩] []) (.cond (.tmp 25) (.seq (.region 0 [
 ⟨(some 4), .move (.const (.bool false)), none, 0, none⟩] []) (.ret)) (.skip)))) (.region 0 [
 ⟨(some 15), .move (.tmp 5), none, 0, none⟩,
 ⟨(some 16), .bin .add (.tmp 15) (.const (.int .i64 (1))), none, 0, none⟩,
 ⟨(some 5), .move (.tmp 16), none, 0, none⟩] [])))))) (.seq (.region 0 [
 ⟨(some 4), .move (.const (.bool true)), none, 0, none⟩] []) (.ret)))), [.tmp 4], true⟩
def s62 : Sig := ⟨(.cons (.v (.list (.int .i64))) (.cons (.v (.list (.int .i64))) .nil)), [], ((.v .bool), []), []⟩
def l62_0 (a0 : (List Int)) (b1 : (List Int)) (nx3 : ((Int × Unit) × Unit) → Option Bool) (i4 : Int) : Option Bool :=
 cond (decide (i4 < (List.length a0 : Int)))
 (cond (decide (0 ≤ i4))
 (Option.bind (a0[Int.toNat i4]?) fun y5 =>
 cond (decide (0 ≤ i4))
 (Option.bind (b1[Int.toNat i4]?) fun y6 =>
 cond (!decide (y5 = y6))
 (some false)
 (nx3 ((IntKind.wrap .i64 (i4 + 1), ()), ())))
 (none))
 (none))
 (some true)
def F62 (L : Lp)  (a0 : (List Int)) (b1 : (List Int)) : Option Bool :=
 cond (!decide ((List.length a0 : Int) = (List.length b1 : Int)))
 (some false)
 (L (fun (s2 : ((Int × Unit) × Unit)) nx3 => l62_0 a0 b1 nx3 s2.1.1) ((0, ()), ()))
theorem e62 (L : Lp)  (x : s62.args.den) (h : denH s62.heap) : nrun [] L n62 s62 x h = F62 L  x.1 x.2.1 := by kernel_rfl
def f62 : (List Int) → (List Int) → Option Bool := F62 (@LN LOOPS) 
@[reducible] def t62 : Ent := ⟨62, s62, fun x h => f62 x.1 x.2.1⟩
theorem k62 : chkNF Try.prog Try.f62 n62 = true := by kernel_rfl
theorem ok62 : NOk Try.prog t62 := NOk.body (T := []) mixed nall_nil (oneEach_of (by kernel_rfl)) Try.func62 k62 (by kernel_rfl) (fun x h => e62 _  x h)
/- drayage/drayageref09.Same -/
def n30 : NFunc := ⟨38, .seq (.region 2 [
 ⟨(some 2), .box 5 (.tmp 0), none, 0, none⟩,
 ⟨(some 3), .box 5 (.tmp 1), none, 1, none⟩,
 ⟨(some 4), .move (.const (.bool false)), none, 2, none⟩] []) (.seq (.region 4 [
 ⟨(some 5), .fieldAddr 0 (.tmp 2), none, 0, none⟩,
 ⟨(some 6), .load false 1 (.tmp 5), none, 0, none⟩,
 ⟨(some 7), .fieldAddr 0 (.tmp 3), none, 0, none⟩,
 ⟨(some 8), .load false 1 (.tmp 7), none, 0, none⟩,
 ⟨(some 9), .bin .eql (.tmp 6) (.tmp 8), none, 0, none⟩,
 ⟨(some 10), .move (.tmp 9), none, 0, none⟩,
 ⟨(some 11), .fieldAddr 1 (.tmp 2), (some (10, true)), 0, none⟩,
 ⟨(some 12), .load false 1 (.tmp 11), (some (10, true)), 0, none⟩,
 ⟨(some 13), .fieldAddr 1 (.tmp 3), (some (10, true)), 0, none⟩,
 ⟨(some 14), .load false 1 (.tmp 13), (some (10, true)), 0, none⟩,
 ⟨(some 15), .bin .eql (.tmp 12) (.tmp 14), (some (10, true)), 0, none⟩,
 ⟨(some 16), .pick (.tmp 10) (.tmp 15) (.const (.bool false)), none, 0, none⟩,
 ⟨(some 17), .move (.tmp 16), none, 0, none⟩,
 ⟨(some 18), .fieldAddr 2 (.tmp 2), (some (17, true)), 0, none⟩,
 ⟨(some 19), .load false 1 (.tmp 18), (some (17, true)), 0, none⟩,
 ⟨(some 20), .fieldAddr 2 (.tmp 3), (some (17, true)), 0, none⟩,
 ⟨(some 21), .load false 1 (.tmp 20), (some (17, true)), 0, none⟩,
 ⟨(some 22), .bin .eql (.tmp 19) (.tmp 21), (some (17, true)), 0, none⟩,
 ⟨(some 23), .pick (.tmp 17) (.tmp 22) (.const (.bool false)), none, 0, none⟩,
 ⟨(some 24), .move (.tmp 23), none, 0, none⟩,
 ⟨(some 25), .fieldAddr 3 (.tmp 2), (some (24, true)), 0, none⟩,
 ⟨(some 26), .load false 1 (.tmp 25), (some (24, true)), 0, none⟩,
 ⟨(some 27), .fieldAddr 3 (.tmp 3), (some (24, true)), 0, none⟩,
 ⟨(some 28), .load false 1 (.tmp 27), (some (24, true)), 0, none⟩,
 ⟨(some 29), .bin .eql (.tmp 26) (.tmp 28), (some (24, true)), 0, none⟩,
 ⟨(some 30), .pick (.tmp 24) (.tmp 29) (.const (.bool false)), none, 0, none⟩,
 ⟨(some 31), .move (.tmp 30), none, 0, none⟩,
 ⟨(some 32), .fieldAddr 4 (.tmp 2), (some (31, true)), 0, none⟩,
 ⟨(some 33), .load false 1 (.tmp 32), (some (31, true)), 0, none⟩,
 ⟨(some 34), .fieldAddr 4 (.tmp 3), (some (31, true)), 0, none⟩,
 ⟨(some 35), .load false 1 (.tmp 34), (some (31, true)), 0, none⟩,
 ⟨(some 36), .call (.func 62) [(false, (.tmp 33)), (false, (.tmp 35))] false 4, (some (31, true)), 0, none⟩,
 ⟨(some 37), .pick (.tmp 31) (.tmp 36) (.const (.bool false)), none, 4, none⟩,
 ⟨(some 4), .move (.tmp 37), none, 4, none⟩] []) (.ret)), [.tmp 4], true⟩
def s30 : Sig := ⟨(.cons (.v .reply) (.cons (.v .reply) .nil)), [], ((.v .bool), []), []⟩
def F30 (L : Lp) (g62 : (List Int) → (List Int) → Option Bool) (a0 : Reply) (b1 : Reply) : Option Bool :=
 cond (decide (a0.key = b1.key))
 (cond (decide (a0.err = b1.err))
 (cond (decide (a0.job = b1.job))
 (cond (decide (a0.version = b1.version))
 (Option.bind (g62 a0.nums b1.nums) fun r2 =>
 some r2)
 (some false))
 (some false))
 (some false))
 (some false)
theorem e30 (L : Lp) (g62 : (List Int) → (List Int) → Option Bool) (x : s30.args.den) (h : denH s30.heap) : nrun [⟨62, s62, fun x h => g62 x.1 x.2.1⟩] L n30 s30 x h = F30 L g62 x.1 x.2.1 := by kernel_rfl
def f30 : Reply → Reply → Option Bool := F30 (@LN LOOPS) f62
@[reducible] def t30 : Ent := ⟨30, s30, fun x h => f30 x.1 x.2.1⟩
theorem k30 : chkNF Try.prog Try.f30 n30 = true := by kernel_rfl
theorem ok30 : NOk Try.prog t30 := NOk.body (T := [t62]) mixed (nall_cons ok62 nall_nil) (oneEach_of (by kernel_rfl)) Try.func30 k30 (by kernel_rfl) (fun x h => e30 _ _ x h)
/- drayage/drayageref08.all -/
def n63 : NFunc := ⟨36, .seq (.region 1 [
 ⟨(some 1), .box 17 (.tmp 0), none, 0, none⟩,
 ⟨(some 2), .move (.const (.zsl)), none, 1, none⟩] []) (.seq (.region 1 [
 ⟨(some 3), .fieldAddr 2 (.tmp 1), none, 0, none⟩,
 ⟨(some 4), .load false 1 (.tmp 3), none, 0, none⟩,
 ⟨(some 5), .fieldAddr 3 (.tmp 1), none, 0, none⟩,
 ⟨(some 6), .load false 1 (.tmp 5), none, 0, none⟩,
 ⟨(some 7), .fieldAddr 4 (.tmp 1), none, 0, none⟩,
 ⟨(some 8), .load false 1 (.tmp 7), none, 0, none⟩,
 ⟨(some 9), .fieldAddr 5 (.tmp 1), none, 0, none⟩,
 ⟨(some 10), .load false 1 (.tmp 9), none, 0, none⟩,
 ⟨(some 11), .fieldAddr 6 (.tmp 1), none, 0, none⟩,
 ⟨(some 12), .fieldAddr 0 (.tmp 11), none, 0, none⟩,
 ⟨(some 13), .load false 1 (.tmp 12), none, 0, none⟩,
 ⟨(some 14), .fieldAddr 6 (.tmp 1), none, 0, none⟩,
 ⟨(some 15), .fieldAddr 1 (.tmp 14), none, 0, none⟩,
 ⟨(some 16), .load false 1 (.tmp 15), none, 0, none⟩,
 ⟨(some 17), .fieldAddr 6 (.tmp 1), none, 0, none⟩,
 ⟨(some 18), .fieldAddr 2 (.tmp 17), none, 0, none⟩,
 ⟨(some 19), .load false 1 (.tmp 18), none, 0, none⟩,
 ⟨(some 20), .fieldAddr 6 (.tmp 1), none, 0, none⟩,
 ⟨(some 21), .fieldAddr 3 (.tmp 20), none, 0, none⟩,
 ⟨(some 22), .load false 1 (.tmp 21), none, 0, none⟩,
 ⟨(some 23), .fieldAddr 10 (.tmp 1), none, 0, none⟩,
 ⟨(some 24), .load false 1 (.tmp 23), none, 0, none⟩,
 ⟨(some 25), .fieldAddr 11 (.tmp 1), none, 0, none⟩,
 ⟨(some 26), .load false 1 (.tmp 25), none, 0, none⟩,
 ⟨(some 27), .fieldAddr 13 (.tmp 1), none, 0, none⟩,
 ⟨(some 28), .load false 1 (.tmp 27), none, 0, none⟩,
 ⟨(some 29), .fieldAddr 14 (.tmp 1), none, 0, none⟩,
 ⟨(some 30), .load false 1 (.tmp 29), none, 0, none⟩,
 ⟨(some 31), .fieldAddr 15 (.tmp 1), none, 0, none⟩,
 ⟨(some 32), .load false 1 (.tmp 31), none, 0, none⟩,
 ⟨(some 33), .fieldAddr 16 (.tmp 1), none, 0, none⟩,
 ⟨(some 34), .load false 1 (.tmp 33), none, 0, none⟩,
 ⟨(some 35), .buildSlice 1 15 true [.int .i64 (0)] [(0, (.const (.int .i64 (0)))), (1, (.tmp 4)), (2, (.tmp 6)), (3, (.tmp 8)), (4, (.tmp 10)), (5, (.tmp 13)), (6, (.tmp 16)), (7, (.tmp 19)), (8, (.tmp 22)), (9, (.tmp 24)), (10, (.tmp 26)), (11, (.tmp 28)), (12, (.tmp 30)), (13, (.tmp 32)), (14, (.tmp 34))], none, 0, none⟩,
 ⟨(some 2), .move (.tmp 35), none, 1, none⟩] []) (.ret)), [.tmp 2], true⟩
def s63 : Sig := ⟨(.cons (.v .request) .nil), [], ((.v (.list (.int .i64))), []), []⟩
def F63 (L : Lp)  (ar0 : Request) : Option (List Int) :=
 some [0, ar0.job, ar0.version, ar0.queue, ar0.many, ar0.need.cpu, ar0.need.mem, ar0.need.gpu, ar0.need.lic, ar0.wall, ar0.tasks, ar0.node, ar0.fro, ar0.to, ar0.id]
theorem e63 (L : Lp)  (x : s63.args.den) (h : denH s63.heap) : nrun [] L n63 s63 x h = F63 L  x.1 := by kernel_rfl
def f63 : Request → Option (List Int) := F63 (@LN LOOPS) 
@[reducible] def t63 : Ent := ⟨63, s63, fun x h => f63 x.1⟩
theorem k63 : chkNF Try.prog Try.f63 n63 = true := by kernel_rfl
theorem ok63 : NOk Try.prog t63 := NOk.body (T := []) mixed nall_nil (oneEach_of (by kernel_rfl)) Try.func63 k63 (by kernel_rfl) (fun x h => e63 _  x h)
/- drayage/drayageref08.fields -/
def n64 : NFunc := ⟨31, .seq (.region 0 [
 ⟨(some 2), .move (.const (.zsl)), none, 0, none⟩] []) (.seq (.seq (.region 0 [
 ⟨(some 3), .move (.tmp 0), none, 0, none⟩] []) (.block 0 (.seq (.region 0 [
 ⟨(some 5), .bin .eql (.tmp 3) (.const (.int .i64 (1))), none, 0, none⟩,
 ⟨(some 4), .move (.tmp 5), none, 0, none⟩] []) (.cond (.tmp 4) (.seq (.region 1 [
 ⟨(some 6), .buildSlice 1 8 true [.int .i64 (0)] [(0, (.const (.int .i64 (3)))), (1, (.const (.int .i64 (4)))), (2, (.const (.int .i64 (5)))), (3, (.const (.int .i64 (6)))), (4, (.const (.int .i64 (7)))), (5, (.const (.int .i64 (8)))), (6, (.const (.int .i64 (9)))), (7, (.const (.int .i64 (10))))], none, 0, none⟩,
 ⟨(some 2), .move (.tmp 6), none, 1, none⟩] []) (.ret)) (.seq (.region 0 [
 ⟨(some 8), .bin .eql (.tmp 3) (.const (.int .i64 (2))), none, 0, none⟩,
 ⟨(some 7), .move (.tmp 8), none, 0, none⟩] []) (.cond (.tmp 7) (.seq (.region 1 [
 ⟨(some 9), .buildSlice 1 8 true [.int .i64 (0)] [(0, (.const (.int .i64 (1)))), (1, (.const (.int .i64 (2)))), (2, (.const (.int .i64 (4)))), (3, (.const (.int .i64 (5)))), (4, (.const (.int .i64 (6)))), (5, (.const (.int .i64 (7)))), (6, (.const (.int .i64 (8)))), (7, (.const (.int .i64 (9))))], none, 0, none⟩,
 ⟨(some 2), .move (.tmp 9), none, 1, none⟩] []) (.ret)) (.seq (.meet [3, 10] [] ⟨[(10, (.v .bool))], [3], []⟩ (.seq (.region 0 [
 ⟨(some 11), .bin .eql (.tmp 3) (.const (.int .i64 (3))), none, 0, none⟩,
 ⟨(some 10), .move (.tmp 11), none, 0, none⟩] []) (.cond (.tmp 10) (.skip) (.seq (.region 0 [
 ⟨(some 12), .bin .eql (.tmp 3) (.const (.int .i64 (4))), none, 0, none⟩,
 ⟨(some 10), .move (.tmp 12), none, 0, none⟩] []) (.cond (.tmp 10) (.skip) (.seq (.region 0 [
 ⟨(some 13), .bin .eql (.tmp 3) (.const (.int .i64 (5))), none, 0, none⟩,
 ⟨(some 10), .move (.tmp 13), none, 0, none⟩] []) (.cond (.tmp 10) (.skip) (.region 0 [
 ⟨(some 14), .bin .eql (.tmp 3) (.const (.int .i64 (6))), none, 0, none⟩,
 ⟨(some 10), .move (.tmp 14), none, 0, none⟩] [])))))))) (.cond (.tmp 10) (.seq (.region 1 [
 ⟨(some 15), .buildSlice 1 2 true [.int .i64 (0)] [(0, (.const (.int .i64 (1)))), (1, (.const (.int .i64 (2))))], none, 0, none⟩,
 ⟨(some 2), .move (.tmp 15), none, 1, none⟩] []) (.ret)) (.seq (.region 0 [
 ⟨(some 17), .bin .eql (.tmp 3) (.const (.int .i64 (7))), none, 0, none⟩,
 ⟨(some 16), .move (.tmp 17), none, 0, none⟩] []) (.cond (.tmp 16) (.seq (.region 1 [
 ⟨(some 18), .buildSlice 1 3 true [.int .i64 (0)] [(0, (.const (.int .i64 (1)))), (1, (.const (.int .i64 (2)))), (2, (.const (.int .i64 (3))))], none, 0, none⟩,
 ⟨(some 2), .move (.tmp 18), none, 1, none⟩] []) (.ret)) (.seq (.region 0 [
 ⟨(some 20), .bin .eql (.tmp 3) (.const (.int .i64 (8))), none, 0, none⟩,
 ⟨(some 19), .move (.tmp 20), none, 0, none⟩] []) (.cond (.tmp 19) (.seq (.region 1 [
 ⟨(some 21), .buildSlice 1 1 true [.int .i64 (0)] [(0, (.const (.int .i64 (1))))], none, 0, none⟩,
 ⟨(some 2), .move (.tmp 21), none, 1, none⟩] []) (.ret)) (.seq (.region 0 [
 ⟨(some 23), .bin .eql (.tmp 3) (.const (.int .i64 (9))), none, 0, none⟩,
 ⟨(some 22), .move (.tmp 23), none, 0, none⟩] []) (.cond (.tmp 22) (.seq (.region 1 [
 ⟨(some 24), .buildSlice 1 1 true [.int .i64 (0)] [(0, (.const (.int .i64 (3))))], none, 0, none⟩,
 ⟨(some 2), .move (.tmp 24), none, 1, none⟩] []) (.ret)) (.seq (.region 0 [
 ⟨(some 26), .bin .eql (.tmp 3) (.const (.int .i64 (11))), none, 0, none⟩,
 ⟨(some 25), .move (.tmp 26), none, 0, none⟩] []) (.cond (.tmp 25) (.seq (.region 1 [
 ⟨(some 27), .buildSlice 1 3 true [.int .i64 (0)] [(0, (.const (.int .i64 (11)))), (1, (.const (.int .i64 (12)))), (2, (.const (.int .i64 (13))))], none, 0, none⟩,
 ⟨(some 2), .move (.tmp 27), none, 1, none⟩] []) (.ret)) (.seq (.region 0 [
 ⟨(some 29), .bin .eql (.tmp 3) (.const (.int .i64 (12))), none, 0, none⟩,
 ⟨(some 28), .move (.tmp 29), none, 0, none⟩] []) (.cond (.tmp 28) (.seq (.region 1 [
 ⟨(some 30), .buildSlice 1 1 true [.int .i64 (0)] [(0, (.const (.int .i64 (14))))], none, 0, none⟩,
 ⟨(some 2), .move (.tmp 30), none, 1, none⟩] []) (.ret)) (.skip))))))))))))))))))) (.seq (.region 0 [
 ⟨(some 2), .move (.const (.zsl)), none, 0, none⟩] []) (.ret))), [.tmp 2], true⟩
def s64 : Sig := ⟨(.cons (.v (.int .i64)) .nil), [], ((.v (.list (.int .i64))), []), []⟩
def F64 (L : Lp)  (kind0 : Int) : Option (List Int) :=
 cond (decide (kind0 = 1))
 (some [3, 4, 5, 6, 7, 8, 9, 10])
 (cond (decide (kind0 = 2))
 (some [1, 2, 4, 5, 6, 7, 8, 9])
 (Option.bind (α := ((Bool × Unit) × Unit))
 (cond (decide (kind0 = 3))
 (some ((true, ()), ()))
 (cond (decide (kind0 = 4))
 (some ((true, ()), ()))
 (cond (decide (kind0 = 5))
 (some ((true, ()), ()))
 (some ((decide (kind0 = 6), ()), ()))))) fun x1 =>
 cond x1.1.1
 (some [1, 2])
 (cond (decide (kind0 = 7))
 (some [1, 2, 3])
 (cond (decide (kind0 = 8))
 (some [1])
 (cond (decide (kind0 = 9))
 (some [3])
 (cond (decide (kind0 = 11))
 (some [11, 12, 13])
 (cond (decide (kind0 = 12))
 (some [14])
 (some []))))))))
theorem e64 (L : Lp)  (x : s64.args.den) (h : denH s64.heap) : nrun [] L n64 s64 x h = F64 L  x.1 := by kernel_rfl
def f64 : Int → Option (List Int) := F64 (@LN LOOPS) 
@[reducible] def t64 : Ent := ⟨64, s64, fun x h => f64 x.1⟩
theorem k64 : chkNF Try.prog Try.f64 n64 = true := by kernel_rfl
theorem ok64 : NOk Try.prog t64 := NOk.body (T := []) mixed nall_nil (oneEach_of (by kernel_rfl)) Try.func64 k64 (by kernel_rfl) (fun x h => e64 _  x h)
/- drayage/drayageref05.Right -/
def n65 : NFunc := ⟨9, .seq (.region 0 [
 ⟨(some 2), .move (.const (.bool false)), none, 0, none⟩] []) (.seq (.region 0 [
 ⟨(some 3), .move (.tmp 0), none, 0, none⟩,
 ⟨(some 4), .bin .geq (.tmp 3) (.const (.int .i64 (0))), none, 0, none⟩,
 ⟨(some 5), .move (.tmp 4), none, 0, none⟩,
 ⟨(some 6), .move (.tmp 0), (some (5, true)), 0, none⟩,
 ⟨(some 7), .bin .leq (.tmp 6) (.const (.int .i64 (281474976710656))), (some (5, true)), 0, none⟩,
 ⟨(some 8), .pick (.tmp 5) (.tmp 7) (.const (.bool false)), none, 0, none⟩,
 ⟨(some 2), .move (.tmp 8), none, 0, none⟩] []) (.ret)), [.tmp 2], true⟩
def s65 : Sig := ⟨(.cons (.v (.int .i64)) .nil), [], ((.v .bool), []), []⟩
def F65 (L : Lp)  (an0 : Int) : Option Bool :=
 cond (decide (0 ≤ an0))
 (some (decide (an0 ≤ 281474976710656)))
 (some false)
theorem e65 (L : Lp)  (x : s65.args.den) (h : denH s65.heap) : nrun [] L n65 s65 x h = F65 L  x.1 := by kernel_rfl
def f65 : Int → Option Bool := F65 (@LN LOOPS) 
@[reducible] def t65 : Ent := ⟨65, s65, fun x h => f65 x.1⟩
theorem k65 : chkNF Try.prog Try.f65 n65 = true := by kernel_rfl
theorem ok65 : NOk Try.prog t65 := NOk.body (T := []) mixed nall_nil (oneEach_of (by kernel_rfl)) Try.func65 k65 (by kernel_rfl) (fun x h => e65 _  x h)
/- drayage/drayageref08.Right -/
def n31 : NFunc := ⟨103, .seq (.region 1 [
 ⟨(some 1), .box 17 (.tmp 0), none, 0, none⟩,
 ⟨(some 2), .move (.const (.bool false)), none, 1, none⟩] []) (.seq (.join [1] [] ⟨[(1, (.ptr 0 0 0))], [], [.one false .request]⟩ (.seq (.region 0 [
 ⟨(some 9), .fieldAddr 0 (.tmp 1), none, 0, none⟩,
 ⟨(some 10), .load false 1 (.tmp 9), none, 0, none⟩,
 ⟨(some 11), .bin .lss (.tmp 10) (.const (.int .i64 (1))), none, 0, none⟩,
 ⟨(some 12), .move (.tmp 11), none, 0, none⟩,
 ⟨(some 13), .fieldAddr 0 (.tmp 1), (some (12, false)), 0, none⟩,
 ⟨(some 14), .load false 1 (.tmp 13), (some (12, false)), 0, none⟩,
 ⟨(some 15), .bin .gtr (.tmp 14) (.const (.int .i64 (12))), (some (12, false)), 0, none⟩,
 ⟨(some 16), .pick (.tmp 12) (.const (.bool true)) (.tmp 15), none, 0, none⟩,
 ⟨(some 17), .move (.tmp 16), none, 0, none⟩,
 ⟨(some 18), .fieldAddr 1 (.tmp 1), (some (17, false)), 0, none⟩,
 ⟨(some 19), .load false 1 (.tmp 18), (some (17, false)), 0, none⟩,
 ⟨(some 20), .bin .lss (.tmp 19) (.const (.int .i64 (1))), (some (17, false)), 0, none⟩,
 ⟨(some 21), .pick (.tmp 17) (.const (.bool true)) (.tmp 20), none, 0, none⟩,
 ⟨(some 22), .move (.tmp 21), none, 0, none⟩,
 ⟨(some 23), .fieldAddr 1 (.tmp 1), (some (22, false)), 0, none⟩,
 ⟨(some 24), .load false 1 (.tmp 23), (some (22, false)), 0, none⟩,
 ⟨(some 25), .bin .gtr (.tmp 24) (.const (.int .i64 (1073741824))), (some (22, false)), 0, none⟩,
 ⟨(some 26), .pick (.tmp 22) (.const (.bool true)) (.tmp 25), none, 0, none⟩,
 ⟨(some 27), .move (.tmp 26), none, 0, none⟩,
 ⟨(some 28), .fieldAddr 12 (.tmp 1), (some (27, false)), 0, none⟩,
 ⟨(some 29), .load false 1 (.tmp 28), (some (27, false)), 0, none⟩,
 ⟨(some 30), .len (.tmp 29), (some (27, false)), 0, none⟩,
 ⟨(some 31), .bin .gtr (.tmp 30) (.const (.int .i64 (4))), (some (27, false)), 0, none⟩,
 ⟨(some 32), .pick (.tmp 27) (.const (.bool true)) (.tmp 31), none, 0, none⟩,
 ⟨(some 33), .move (.tmp 32), none, 0, none⟩,
 ⟨(some 34), .fieldAddr 0 (.tmp 1), (some (33, false)), 0, none⟩,
 ⟨(some 35), .load false 1 (.tmp 34), (some (33, false)), 0, none⟩,
 ⟨(some 36), .bin .neq (.tmp 35) (.const (.int .i64 (1))), (some (33, false)), 0, none⟩,
 ⟨(some 37), .move (.tmp 36), (some (33, false)), 0, none⟩,
 ⟨(some 38), .fieldAddr 12 (.tmp 1), (some (37, true)), 0, none⟩,
 ⟨(some 39), .load false 1 (.tmp 38), (some (37, true)), 0, none⟩,
 ⟨(some 40), .len (.tmp 39), (some (37, true)), 0, none⟩,
 ⟨(some 41), .bin .gtr (.tmp 40) (.const (.int .i64 (0))), (some (37, true)), 0, none⟩,
 ⟨(some 42), .pick (.tmp 37) (.tmp 41) (.const (.bool false)), (some (33, false)), 0, none⟩,
 ⟨(some 43), .pick (.tmp 33) (.const (.bool true)) (.tmp 42), none, 0, none⟩] []) (.cond (.tmp 43) (.seq (.region 0 [
 ⟨(some 2), .move (.const (.bool false)), none, 0, none⟩] []) (.ret)) (.skip)))) (.seq (.region 4 [
 ⟨(some 44), .load true 17 (.tmp 1), none, 0, none⟩,
 ⟨(some 45), .call (.func 63) [(false, (.tmp 44))] false 4, none, 0, none⟩,
 ⟨(some 3), .move (.tmp 45), none, 4, none⟩] []) (.seq (.region 4 [
 ⟨(some 46), .fieldAddr 0 (.tmp 1), none, 0, none⟩,
 ⟨(some 47), .load false 1 (.tmp 46), none, 0, none⟩,
 ⟨(some 48), .call (.func 64) [(false, (.tmp 47))] false 4, none, 0, none⟩,
 ⟨(some 4), .move (.tmp 48), none, 4, none⟩] []) (.seq (.join [1] [] ⟨[(1, (.ptr 0 0 0))], [], [.one false .request]⟩ (.seq (.region 0 [
 ⟨(some 5), .move (.const (.int .i64 (1))), none, 0, none⟩] []) (.block 0 (.loopU [1, 3, 4, 5] 15 (.seq (.seq (.region 0 [
 ⟨(some 49), .move (.tmp 5), none, 0, none⟩,
 ⟨(some 50), .bin .lss (.tmp 49) (.const (.int .i64 (15))), none, 0, none⟩] []) (.cond (.tmp 50) (.skip) (.exit 0))) (.seq (.block 1 (.seq (.region 0 [
 ⟨(some 6), .move (.const (.bool false)), none, 0, none⟩] []) (.seq (.seq (.region 0 [
 ⟨(some 7), .move (.const (.int .i64 (0))), none, 0, none⟩] []) (.block 2 (.loop [1, 3, 4, 5, 6, 7] ⟨[(1, (.ptr 0 0 0)), (6, (.v .bool)), (7, (.v (.int .i64)))], [3, 4, 5], [.one false .request]⟩ (.seq (.seq (.region 0 [
 ⟨(some 53), .move (.tmp 7), none, 0, none⟩,
 ⟨(some 54), .move (.tmp 4), none, 0, none⟩,
 ⟨(some 55), .len (.tmp 54), none, 0, none⟩,
 ⟨(some 56), .bin .lss (.tmp 53) (.tmp 55), none, 0, none⟩] []) (.cond (.tmp 56) (.skip) (.exit 2))) (.seq (.block 3 (.region 0 [
 ⟨(some 59), .move (.tmp 6), none, 0, none⟩,
 ⟨(some 60), .move (.tmp 59), none, 0, none⟩,
 ⟨(some 61), .move (.tmp 4), (some (60, false)), 0, none⟩,
 ⟨(some 62), .move (.tmp 7), (some (60, false)), 0, none⟩,
 ⟨(some 63), .indexSl 1 (.tmp 61) (.tmp 62), (some (60, false)), 0, none⟩,
 ⟨(some 64), .load false 1 (.tmp 63), (some (60, false)), 0, none⟩,
 ⟨(some 65), .move (.tmp 5), (some (60, false)), 0, none⟩,
 ⟨(some 66), .bin .eql (.tmp 64) (.tmp 65), (some (60, false)), 0, none⟩,
 ⟨(some 67), .pick (.tmp 60) (.const (.bool true)) (.tmp 66), none, 0, none⟩,
 ⟨(some 6), .move (.tmp 67), none, 0, none⟩] [])) (.region 0 [
 ⟨(some 57), .move (.tmp 7), none, 0, none⟩,
 ⟨(some 58), .bin .add (.tmp 57) (.const (.int .i64 (1))), none, 0, none⟩,
 ⟨(some 7), .move (.tmp 58), none, 0, none⟩] [])))))) (.seq (.meet [1, 3, 4, 5, 87] [] ⟨[(1, (.ptr 0 0 0)), (87, (.v .bool))], [3, 4, 5], [.one false .request]⟩ (.region 4 [
 ⟨(some 68), .move (.tmp 6), none, 0, none⟩,
 ⟨(some 69), .move (.tmp 68), none, 0, none⟩,
 ⟨(some 70), .move (.tmp 3), (some (69, true)), 0, none⟩,
 ⟨(some 71), .move (.tmp 5), (some (69, true)), 0, none⟩,
 ⟨(some 72), .indexSl 1 (.tmp 70) (.tmp 71), (some (69, true)), 0, none⟩,
 ⟨(some 73), .load false 1 (.tmp 72), (some (69, true)), 0, none⟩,
 ⟨(some 74), .call (.func 65) [(false, (.tmp 73))] false 4, (some (69, true)), 0, none⟩,
 ⟨(some 75), .un .not (.tmp 74), (some (69, true)), 4, none⟩,
 ⟨(some 76), .pick (.tmp 69) (.tmp 75) (.const (.bool false)), none, 4, none⟩,
 ⟨(some 77), .move (.tmp 76), none, 4, none⟩,
 ⟨(some 78), .move (.tmp 6), (some (77, false)), 4, none⟩,
 ⟨(some 79), .un .not (.tmp 78), (some (77, false)), 4, none⟩,
 ⟨(some 80), .move (.tmp 79), (some (77, false)), 4, none⟩,
 ⟨(some 81), .move (.tmp 3), (some (80, true)), 4, none⟩,
 ⟨(some 82), .move (.tmp 5), (some (80, true)), 4, none⟩,
 ⟨(some 83), .indexSl 1 (.tmp 81) (.tmp 82), (some (80, true)), 4, none⟩,
 ⟨(some 84), .load false 1 (.tmp 83), (some (80, true)), 4, none⟩,
 ⟨(some 85), .bin .neq (.tmp 84) (.const (.int .i64 (0))), (some (80, true)), 4, none⟩,
 ⟨(some 86), .pick (.tmp 80) (.tmp 85) (.const (.bool false)), (some (77, false)), 4, none⟩,
 ⟨(some 87), .pick (.tmp 77) (.const (.bool true)) (.tmp 86), none, 4, none⟩] [])) (.cond (.tmp 87) (.seq (.region 0 [
 ⟨(some 2), .move (.const (.bool false)), none, 0, none⟩] []) (.ret)) (.skip)))))) (.region 0 [
 ⟨(some 51), .move (.tmp 5), none, 0, none⟩,
 ⟨(some 52), .bin .add (.tmp 51) (.const (.int .i64 (1))), none, 0, none⟩,
 ⟨(some 5), .move (.tmp 52), none, 0, none⟩] []))))))) (.seq (.seq (.region 0 [
 ⟨(some 8), .move (.const (.int .i64 (0))), none, 0, none⟩] []) (.block 4 (.loop [1, 8] ⟨[(1, (.ptr 0 0 0)), (8, (.v (.int .i64)))], [], [.one false .request]⟩ (.seq (.seq (.region 0 [
 ⟨(some 88), .move (.tmp 8), none, 0, none⟩,
 ⟨(some 89), .fieldAddr 12 (.tmp 1), none, 0, none⟩,
 ⟨(some 90), .load false 1 (.tmp 89), none, 0, none⟩,
 ⟨(some 91), .len (.tmp 90), none, 0, none⟩,
 ⟨(some 92), .bin .lss (.tmp 88) (.tmp 91), none, 0, none⟩] []) (.cond (.tmp 92) (.skip) (.exit 4))) (.seq (.block 5 (.seq (.region 4 [
 ⟨(some 95), .fieldAddr 12 (.tmp 1), none, 0, none⟩,
 ⟨(some 96), .load false 1 (.tmp 95), none, 0, none⟩,
 ⟨(some 97), .move (.tmp 8), none, 0, none⟩,
 ⟨(some 98), .indexSl 2 (.tmp 96) (.tmp 97), none, 0, none⟩,
 ⟨(some 99), .fieldAddr 0 (.tmp 98), none, 0, none⟩,
 ⟨(some 100), .load false 1 (.tmp 99), none, 0, none⟩,
 ⟨(some 101), .call (.func 65) [(false, (.tmp 100))] false 4, none, 0, none⟩,
 ⟨(some 102), .un .not (.tmp 101), none, 4, none⟩] []) (.cond (.tmp 102) (.seq (.region 0 [
 ⟨(some 2), .move (.const (.bool false)), none, 0, none⟩] []) (.ret)) (.skip)))) (.region 0 [
 ⟨(some 93), .move (.tmp 8), none, 0, none⟩,
 ⟨(some 94), .bin .add (.tmp 93) (.const (.int .i64 (1))), none, 0, none⟩,
 ⟨(some 8), .move (.tmp 94), none, 0, none⟩] [])))))) (.seq (.region 0 [
 ⟨(some 2), .move (.const (.bool true)), none, 0, none⟩] []) (.ret))))))), [.tmp 2], true⟩
def s31 : Sig := ⟨(.cons (.v .request) .nil), [], ((.v .bool), []), []⟩
def l31_0 (g65 : Int → Option Bool) (r2 : (List Int)) (r3 : (List Int)) (nx148 : ((Unit × (Bool × (Int × Unit))) × (Request × Unit)) → Option (((Unit × Unit) × (Request × Unit)) ⊕ Bool)) (mine149 : Bool) (zk150 : Int) (z151 : Request) : Option (((Unit × Unit) × (Request × Unit)) ⊕ Bool) :=
 cond (decide (zk150 < (List.length r3 : Int)))
 (cond mine149
 (nx148 (((), true, IntKind.wrap .i64 (zk150 + 1), ()), (z151, ())))
 (cond (decide (0 ≤ zk150))
 (Option.bind (r3[Int.toNat zk150]?) fun y152 =>
 nx148 (((), decide (y152 = 14), IntKind.wrap .i64 (zk150 + 1), ()), (z151, ())))
 (none)))
 (Option.bind (α := ((Unit × (Bool × Unit)) × (Request × Unit)))
 (cond mine149
 (Option.bind (r2[14]?) fun y153 =>
 Option.bind (g65 y153) fun r154 =>
 cond (!r154)
 (some (((), true, ()), (z151, ())))
 (cond (!mine149)
 (Option.bind (r2[14]?) fun y155 =>
 some (((), !decide (y155 = 0), ()), (z151, ())))
 (some (((), false, ()), (z151, ())))))
 (cond (!mine149)
 (Option.bind (r2[14]?) fun y156 =>
 some (((), !decide (y156 = 0), ()), (z151, ())))
 (some (((), false, ()), (z151, ()))))) fun x157 =>
 cond x157.1.2.1
 (some (.inr false))
 (some (.inl (((), ()), (x157.2.1, ())))))
def l31_1 (L : Lp) (g65 : Int → Option Bool) (r2 : (List Int)) (r3 : (List Int)) (nx137 : ((Unit × (Bool × (Int × Unit))) × (Request × Unit)) → Option (((Unit × Unit) × (Request × Unit)) ⊕ Bool)) (mine138 : Bool) (zk139 : Int) (z140 : Request) : Option (((Unit × Unit) × (Request × Unit)) ⊕ Bool) :=
 cond (decide (zk139 < (List.length r3 : Int)))
 (cond mine138
 (nx137 (((), true, IntKind.wrap .i64 (zk139 + 1), ()), (z140, ())))
 (cond (decide (0 ≤ zk139))
 (Option.bind (r3[Int.toNat zk139]?) fun y141 =>
 nx137 (((), decide (y141 = 13), IntKind.wrap .i64 (zk139 + 1), ()), (z140, ())))
 (none)))
 (Option.bind (α := ((Unit × (Bool × Unit)) × (Request × Unit)))
 (cond mine138
 (Option.bind (r2[13]?) fun y142 =>
 Option.bind (g65 y142) fun r143 =>
 cond (!r143)
 (some (((), true, ()), (z140, ())))
 (cond (!mine138)
 (Option.bind (r2[13]?) fun y144 =>
 some (((), !decide (y144 = 0), ()), (z140, ())))
 (some (((), false, ()), (z140, ())))))
 (cond (!mine138)
 (Option.bind (r2[13]?) fun y145 =>
 some (((), !decide (y145 = 0), ()), (z140, ())))
 (some (((), false, ()), (z140, ()))))) fun x146 =>
 cond x146.1.2.1
 (some (.inr false))
 (L (fun (s147 : ((Unit × (Bool × (Int × Unit))) × (Request × Unit))) nx148 => l31_0 g65 r2 r3 nx148 s147.1.2.1 s147.1.2.2.1 s147.2.1) (((), false, 0, ()), (x146.2.1, ()))))
def l31_2 (L : Lp) (g65 : Int → Option Bool) (r2 : (List Int)) (r3 : (List Int)) (nx126 : ((Unit × (Bool × (Int × Unit))) × (Request × Unit)) → Option (((Unit × Unit) × (Request × Unit)) ⊕ Bool)) (mine127 : Bool) (zk128 : Int) (z129 : Request) : Option (((Unit × Unit) × (Request × Unit)) ⊕ Bool) :=
 cond (decide (zk128 < (List.length r3 : Int)))
 (cond mine127
 (nx126 (((), true, IntKind.wrap .i64 (zk128 + 1), ()), (z129, ())))
 (cond (decide (0 ≤ zk128))
 (Option.bind (r3[Int.toNat zk128]?) fun y130 =>
 nx126 (((), decide (y130 = 12), IntKind.wrap .i64 (zk128 + 1), ()), (z129, ())))
 (none)))
 (Option.bind (α := ((Unit × (Bool × Unit)) × (Request × Unit)))
 (cond mine127
 (Option.bind (r2[12]?) fun y131 =>
 Option.bind (g65 y131) fun r132 =>
 cond (!r132)
 (some (((), true, ()), (z129, ())))
 (cond (!mine127)
 (Option.bind (r2[12]?) fun y133 =>
 some (((), !decide (y133 = 0), ()), (z129, ())))
 (some (((), false, ()), (z129, ())))))
 (cond (!mine127)
 (Option.bind (r2[12]?) fun y134 =>
 some (((), !decide (y134 = 0), ()), (z129, ())))
 (some (((), false, ()), (z129, ()))))) fun x135 =>
 cond x135.1.2.1
 (some (.inr false))
 (L (fun (s136 : ((Unit × (Bool × (Int × Unit))) × (Request × Unit))) nx137 => l31_1 L g65 r2 r3 nx137 s136.1.2.1 s136.1.2.2.1 s136.2.1) (((), false, 0, ()), (x135.2.1, ()))))
def l31_3 (L : Lp) (g65 : Int → Option Bool) (r2 : (List Int)) (r3 : (List Int)) (nx115 : ((Unit × (Bool × (Int × Unit))) × (Request × Unit)) → Option (((Unit × Unit) × (Request × Unit)) ⊕ Bool)) (mine116 : Bool) (zk117 : Int) (z118 : Request) : Option (((Unit × Unit) × (Request × Unit)) ⊕ Bool) :=
 cond (decide (zk117 < (List.length r3 : Int)))
 (cond mine116
 (nx115 (((), true, IntKind.wrap .i64 (zk117 + 1), ()), (z118, ())))
 (cond (decide (0 ≤ zk117))
 (Option.bind (r3[Int.toNat zk117]?) fun y119 =>
 nx115 (((), decide (y119 = 11), IntKind.wrap .i64 (zk117 + 1), ()), (z118, ())))
 (none)))
 (Option.bind (α := ((Unit × (Bool × Unit)) × (Request × Unit)))
 (cond mine116
 (Option.bind (r2[11]?) fun y120 =>
 Option.bind (g65 y120) fun r121 =>
 cond (!r121)
 (some (((), true, ()), (z118, ())))
 (cond (!mine116)
 (Option.bind (r2[11]?) fun y122 =>
 some (((), !decide (y122 = 0), ()), (z118, ())))
 (some (((), false, ()), (z118, ())))))
 (cond (!mine116)
 (Option.bind (r2[11]?) fun y123 =>
 some (((), !decide (y123 = 0), ()), (z118, ())))
 (some (((), false, ()), (z118, ()))))) fun x124 =>
 cond x124.1.2.1
 (some (.inr false))
 (L (fun (s125 : ((Unit × (Bool × (Int × Unit))) × (Request × Unit))) nx126 => l31_2 L g65 r2 r3 nx126 s125.1.2.1 s125.1.2.2.1 s125.2.1) (((), false, 0, ()), (x124.2.1, ()))))
def l31_4 (L : Lp) (g65 : Int → Option Bool) (r2 : (List Int)) (r3 : (List Int)) (nx104 : ((Unit × (Bool × (Int × Unit))) × (Request × Unit)) → Option (((Unit × Unit) × (Request × Unit)) ⊕ Bool)) (mine105 : Bool) (zk106 : Int) (z107 : Request) : Option (((Unit × Unit) × (Request × Unit)) ⊕ Bool) :=
 cond (decide (zk106 < (List.length r3 : Int)))
 (cond mine105
 (nx104 (((), true, IntKind.wrap .i64 (zk106 + 1), ()), (z107, ())))
 (cond (decide (0 ≤ zk106))
 (Option.bind (r3[Int.toNat zk106]?) fun y108 =>
 nx104 (((), decide (y108 = 10), IntKind.wrap .i64 (zk106 + 1), ()), (z107, ())))
 (none)))
 (Option.bind (α := ((Unit × (Bool × Unit)) × (Request × Unit)))
 (cond mine105
 (Option.bind (r2[10]?) fun y109 =>
 Option.bind (g65 y109) fun r110 =>
 cond (!r110)
 (some (((), true, ()), (z107, ())))
 (cond (!mine105)
 (Option.bind (r2[10]?) fun y111 =>
 some (((), !decide (y111 = 0), ()), (z107, ())))
 (some (((), false, ()), (z107, ())))))
 (cond (!mine105)
 (Option.bind (r2[10]?) fun y112 =>
 some (((), !decide (y112 = 0), ()), (z107, ())))
 (some (((), false, ()), (z107, ()))))) fun x113 =>
 cond x113.1.2.1
 (some (.inr false))
 (L (fun (s114 : ((Unit × (Bool × (Int × Unit))) × (Request × Unit))) nx115 => l31_3 L g65 r2 r3 nx115 s114.1.2.1 s114.1.2.2.1 s114.2.1) (((), false, 0, ()), (x113.2.1, ()))))
def l31_5 (L : Lp) (g65 : Int → Option Bool) (r2 : (List Int)) (r3 : (List Int)) (nx93 : ((Unit × (Bool × (Int × Unit))) × (Request × Unit)) → Option (((Unit × Unit) × (Request × Unit)) ⊕ Bool)) (mine94 : Bool) (zk95 : Int) (z96 : Request) : Option (((Unit × Unit) × (Request × Unit)) ⊕ Bool) :=
 cond (decide (zk95 < (List.length r3 : Int)))
 (cond mine94
 (nx93 (((), true, IntKind.wrap .i64 (zk95 + 1), ()), (z96, ())))
 (cond (decide (0 ≤ zk95))
 (Option.bind (r3[Int.toNat zk95]?) fun y97 =>
 nx93 (((), decide (y97 = 9), IntKind.wrap .i64 (zk95 + 1), ()), (z96, ())))
 (none)))
 (Option.bind (α := ((Unit × (Bool × Unit)) × (Request × Unit)))
 (cond mine94
 (Option.bind (r2[9]?) fun y98 =>
 Option.bind (g65 y98) fun r99 =>
 cond (!r99)
 (some (((), true, ()), (z96, ())))
 (cond (!mine94)
 (Option.bind (r2[9]?) fun y100 =>
 some (((), !decide (y100 = 0), ()), (z96, ())))
 (some (((), false, ()), (z96, ())))))
 (cond (!mine94)
 (Option.bind (r2[9]?) fun y101 =>
 some (((), !decide (y101 = 0), ()), (z96, ())))
 (some (((), false, ()), (z96, ()))))) fun x102 =>
 cond x102.1.2.1
 (some (.inr false))
 (L (fun (s103 : ((Unit × (Bool × (Int × Unit))) × (Request × Unit))) nx104 => l31_4 L g65 r2 r3 nx104 s103.1.2.1 s103.1.2.2.1 s103.2.1) (((), false, 0, ()), (x102.2.1, ()))))
def l31_6 (L : Lp) (g65 : Int → Option Bool) (r2 : (List Int)) (r3 : (List Int)) (nx82 : ((Unit × (Bool × (Int × Unit))) × (Request × Unit)) → Option (((Unit × Unit) × (Request × Unit)) ⊕ Bool)) (mine83 : Bool) (zk84 : Int) (z85 : Request) : Option (((Unit × Unit) × (Request × Unit)) ⊕ Bool) :=
 cond (decide (zk84 < (List.length r3 : Int)))
 (cond mine83
 (nx82 (((), true, IntKind.wrap .i64 (zk84 + 1), ()), (z85, ())))
 (cond (decide (0 ≤ zk84))
 (Option.bind (r3[Int.toNat zk84]?) fun y86 =>
 nx82 (((), decide (y86 = 8), IntKind.wrap .i64 (zk84 + 1), ()), (z85, ())))
 (none)))
 (Option.bind (α := ((Unit × (Bool × Unit)) × (Request × Unit)))
 (cond mine83
 (Option.bind (r2[8]?) fun y87 =>
 Option.bind (g65 y87) fun r88 =>
 cond (!r88)
 (some (((), true, ()), (z85, ())))
 (cond (!mine83)
 (Option.bind (r2[8]?) fun y89 =>
 some (((), !decide (y89 = 0), ()), (z85, ())))
 (some (((), false, ()), (z85, ())))))
 (cond (!mine83)
 (Option.bind (r2[8]?) fun y90 =>
 some (((), !decide (y90 = 0), ()), (z85, ())))
 (some (((), false, ()), (z85, ()))))) fun x91 =>
 cond x91.1.2.1
 (some (.inr false))
 (L (fun (s92 : ((Unit × (Bool × (Int × Unit))) × (Request × Unit))) nx93 => l31_5 L g65 r2 r3 nx93 s92.1.2.1 s92.1.2.2.1 s92.2.1) (((), false, 0, ()), (x91.2.1, ()))))
def l31_7 (L : Lp) (g65 : Int → Option Bool) (r2 : (List Int)) (r3 : (List Int)) (nx71 : ((Unit × (Bool × (Int × Unit))) × (Request × Unit)) → Option (((Unit × Unit) × (Request × Unit)) ⊕ Bool)) (mine72 : Bool) (zk73 : Int) (z74 : Request) : Option (((Unit × Unit) × (Request × Unit)) ⊕ Bool) :=
 cond (decide (zk73 < (List.length r3 : Int)))
 (cond mine72
 (nx71 (((), true, IntKind.wrap .i64 (zk73 + 1), ()), (z74, ())))
 (cond (decide (0 ≤ zk73))
 (Option.bind (r3[Int.toNat zk73]?) fun y75 =>
 nx71 (((), decide (y75 = 7), IntKind.wrap .i64 (zk73 + 1), ()), (z74, ())))
 (none)))
 (Option.bind (α := ((Unit × (Bool × Unit)) × (Request × Unit)))
 (cond mine72
 (Option.bind (r2[7]?) fun y76 =>
 Option.bind (g65 y76) fun r77 =>
 cond (!r77)
 (some (((), true, ()), (z74, ())))
 (cond (!mine72)
 (Option.bind (r2[7]?) fun y78 =>
 some (((), !decide (y78 = 0), ()), (z74, ())))
 (some (((), false, ()), (z74, ())))))
 (cond (!mine72)
 (Option.bind (r2[7]?) fun y79 =>
 some (((), !decide (y79 = 0), ()), (z74, ())))
 (some (((), false, ()), (z74, ()))))) fun x80 =>
 cond x80.1.2.1
 (some (.inr false))
 (L (fun (s81 : ((Unit × (Bool × (Int × Unit))) × (Request × Unit))) nx82 => l31_6 L g65 r2 r3 nx82 s81.1.2.1 s81.1.2.2.1 s81.2.1) (((), false, 0, ()), (x80.2.1, ()))))
def l31_8 (L : Lp) (g65 : Int → Option Bool) (r2 : (List Int)) (r3 : (List Int)) (nx60 : ((Unit × (Bool × (Int × Unit))) × (Request × Unit)) → Option (((Unit × Unit) × (Request × Unit)) ⊕ Bool)) (mine61 : Bool) (zk62 : Int) (z63 : Request) : Option (((Unit × Unit) × (Request × Unit)) ⊕ Bool) :=
 cond (decide (zk62 < (List.length r3 : Int)))
 (cond mine61
 (nx60 (((), true, IntKind.wrap .i64 (zk62 + 1), ()), (z63, ())))
 (cond (decide (0 ≤ zk62))
 (Option.bind (r3[Int.toNat zk62]?) fun y64 =>
 nx60 (((), decide (y64 = 6), IntKind.wrap .i64 (zk62 + 1), ()), (z63, ())))
 (none)))
 (Option.bind (α := ((Unit × (Bool × Unit)) × (Request × Unit)))
 (cond mine61
 (Option.bind (r2[6]?) fun y65 =>
 Option.bind (g65 y65) fun r66 =>
 cond (!r66)
 (some (((), true, ()), (z63, ())))
 (cond (!mine61)
 (Option.bind (r2[6]?) fun y67 =>
 some (((), !decide (y67 = 0), ()), (z63, ())))
 (some (((), false, ()), (z63, ())))))
 (cond (!mine61)
 (Option.bind (r2[6]?) fun y68 =>
 some (((), !decide (y68 = 0), ()), (z63, ())))
 (some (((), false, ()), (z63, ()))))) fun x69 =>
 cond x69.1.2.1
 (some (.inr false))
 (L (fun (s70 : ((Unit × (Bool × (Int × Unit))) × (Request × Unit))) nx71 => l31_7 L g65 r2 r3 nx71 s70.1.2.1 s70.1.2.2.1 s70.2.1) (((), false, 0, ()), (x69.2.1, ()))))
def l31_9 (L : Lp) (g65 : Int → Option Bool) (r2 : (List Int)) (r3 : (List Int)) (nx49 : ((Unit × (Bool × (Int × Unit))) × (Request × Unit)) → Option (((Unit × Unit) × (Request × Unit)) ⊕ Bool)) (mine50 : Bool) (zk51 : Int) (z52 : Request) : Option (((Unit × Unit) × (Request × Unit)) ⊕ Bool) :=
 cond (decide (zk51 < (List.length r3 : Int)))
 (cond mine50
 (nx49 (((), true, IntKind.wrap .i64 (zk51 + 1), ()), (z52, ())))
 (cond (decide (0 ≤ zk51))
 (Option.bind (r3[Int.toNat zk51]?) fun y53 =>
 nx49 (((), decide (y53 = 5), IntKind.wrap .i64 (zk51 + 1), ()), (z52, ())))
 (none)))
 (Option.bind (α := ((Unit × (Bool × Unit)) × (Request × Unit)))
 (cond mine50
 (Option.bind (r2[5]?) fun y54 =>
 Option.bind (g65 y54) fun r55 =>
 cond (!r55)
 (some (((), true, ()), (z52, ())))
 (cond (!mine50)
 (Option.bind (r2[5]?) fun y56 =>
 some (((), !decide (y56 = 0), ()), (z52, ())))
 (some (((), false, ()), (z52, ())))))
 (cond (!mine50)
 (Option.bind (r2[5]?) fun y57 =>
 some (((), !decide (y57 = 0), ()), (z52, ())))
 (some (((), false, ()), (z52, ()))))) fun x58 =>
 cond x58.1.2.1
 (some (.inr false))
 (L (fun (s59 : ((Unit × (Bool × (Int × Unit))) × (Request × Unit))) nx60 => l31_8 L g65 r2 r3 nx60 s59.1.2.1 s59.1.2.2.1 s59.2.1) (((), false, 0, ()), (x58.2.1, ()))))
def l31_10 (L : Lp) (g65 : Int → Option Bool) (r2 : (List Int)) (r3 : (List Int)) (nx38 : ((Unit × (Bool × (Int × Unit))) × (Request × Unit)) → Option (((Unit × Unit) × (Request × Unit)) ⊕ Bool)) (mine39 : Bool) (zk40 : Int) (z41 : Request) : Option (((Unit × Unit) × (Request × Unit)) ⊕ Bool) :=
 cond (decide (zk40 < (List.length r3 : Int)))
 (cond mine39
 (nx38 (((), true, IntKind.wrap .i64 (zk40 + 1), ()), (z41, ())))
 (cond (decide (0 ≤ zk40))
 (Option.bind (r3[Int.toNat zk40]?) fun y42 =>
 nx38 (((), decide (y42 = 4), IntKind.wrap .i64 (zk40 + 1), ()), (z41, ())))
 (none)))
 (Option.bind (α := ((Unit × (Bool × Unit)) × (Request × Unit)))
 (cond mine39
 (Option.bind (r2[4]?) fun y43 =>
 Option.bind (g65 y43) fun r44 =>
 cond (!r44)
 (some (((), true, ()), (z41, ())))
 (cond (!mine39)
 (Option.bind (r2[4]?) fun y45 =>
 some (((), !decide (y45 = 0), ()), (z41, ())))
 (some (((), false, ()), (z41, ())))))
 (cond (!mine39)
 (Option.bind (r2[4]?) fun y46 =>
 some (((), !decide (y46 = 0), ()), (z41, ())))
 (some (((), false, ()), (z41, ()))))) fun x47 =>
 cond x47.1.2.1
 (some (.inr false))
 (L (fun (s48 : ((Unit × (Bool × (Int × Unit))) × (Request × Unit))) nx49 => l31_9 L g65 r2 r3 nx49 s48.1.2.1 s48.1.2.2.1 s48.2.1) (((), false, 0, ()), (x47.2.1, ()))))
def l31_11 (L : Lp) (g65 : Int → Option Bool) (r2 : (List Int)) (r3 : (List Int)) (nx27 : ((Unit × (Bool × (Int × Unit))) × (Request × Unit)) → Option (((Unit × Unit) × (Request × Unit)) ⊕ Bool)) (mine28 : Bool) (zk29 : Int) (z30 : Request) : Option (((Unit × Unit) × (Request × Unit)) ⊕ Bool) :=
 cond (decide (zk29 < (List.length r3 : Int)))
 (cond mine28
 (nx27 (((), true, IntKind.wrap .i64 (zk29 + 1), ()), (z30, ())))
 (cond (decide (0 ≤ zk29))
 (Option.bind (r3[Int.toNat zk29]?) fun y31 =>
 nx27 (((), decide (y31 = 3), IntKind.wrap .i64 (zk29 + 1), ()), (z30, ())))
 (none)))
 (Option.bind (α := ((Unit × (Bool × Unit)) × (Request × Unit)))
 (cond mine28
 (Option.bind (r2[3]?) fun y32 =>
 Option.bind (g65 y32) fun r33 =>
 cond (!r33)
 (some (((), true, ()), (z30, ())))
 (cond (!mine28)
 (Option.bind (r2[3]?) fun y34 =>
 some (((), !decide (y34 = 0), ()), (z30, ())))
 (some (((), false, ()), (z30, ())))))
 (cond (!mine28)
 (Option.bind (r2[3]?) fun y35 =>
 some (((), !decide (y35 = 0), ()), (z30, ())))
 (some (((), false, ()), (z30, ()))))) fun x36 =>
 cond x36.1.2.1
 (some (.inr false))
 (L (fun (s37 : ((Unit × (Bool × (Int × Unit))) × (Request × Unit))) nx38 => l31_10 L g65 r2 r3 nx38 s37.1.2.1 s37.1.2.2.1 s37.2.1) (((), false, 0, ()), (x36.2.1, ()))))
def l31_12 (L : Lp) (g65 : Int → Option Bool) (r2 : (List Int)) (r3 : (List Int)) (nx16 : ((Unit × (Bool × (Int × Unit))) × (Request × Unit)) → Option (((Unit × Unit) × (Request × Unit)) ⊕ Bool)) (mine17 : Bool) (zk18 : Int) (z19 : Request) : Option (((Unit × Unit) × (Request × Unit)) ⊕ Bool) :=
 cond (decide (zk18 < (List.length r3 : Int)))
 (cond mine17
 (nx16 (((), true, IntKind.wrap .i64 (zk18 + 1), ()), (z19, ())))
 (cond (decide (0 ≤ zk18))
 (Option.bind (r3[Int.toNat zk18]?) fun y20 =>
 nx16 (((), decide (y20 = 2), IntKind.wrap .i64 (zk18 + 1), ()), (z19, ())))
 (none)))
 (Option.bind (α := ((Unit × (Bool × Unit)) × (Request × Unit)))
 (cond mine17
 (Option.bind (r2[2]?) fun y21 =>
 Option.bind (g65 y21) fun r22 =>
 cond (!r22)
 (some (((), true, ()), (z19, ())))
 (cond (!mine17)
 (Option.bind (r2[2]?) fun y23 =>
 some (((), !decide (y23 = 0), ()), (z19, ())))
 (some (((), false, ()), (z19, ())))))
 (cond (!mine17)
 (Option.bind (r2[2]?) fun y24 =>
 some (((), !decide (y24 = 0), ()), (z19, ())))
 (some (((), false, ()), (z19, ()))))) fun x25 =>
 cond x25.1.2.1
 (some (.inr false))
 (L (fun (s26 : ((Unit × (Bool × (Int × Unit))) × (Request × Unit))) nx27 => l31_11 L g65 r2 r3 nx27 s26.1.2.1 s26.1.2.2.1 s26.2.1) (((), false, 0, ()), (x25.2.1, ()))))
def l31_13 (L : Lp) (g65 : Int → Option Bool) (r2 : (List Int)) (r3 : (List Int)) (nx5 : ((Unit × (Bool × (Int × Unit))) × (Request × Unit)) → Option (((Unit × Unit) × (Request × Unit)) ⊕ Bool)) (mine6 : Bool) (zk7 : Int) (z8 : Request) : Option (((Unit × Unit) × (Request × Unit)) ⊕ Bool) :=
 cond (decide (zk7 < (List.length r3 : Int)))
 (cond mine6
 (nx5 (((), true, IntKind.wrap .i64 (zk7 + 1), ()), (z8, ())))
 (cond (decide (0 ≤ zk7))
 (Option.bind (r3[Int.toNat zk7]?) fun y9 =>
 nx5 (((), decide (y9 = 1), IntKind.wrap .i64 (zk7 + 1), ()), (z8, ())))
 (none)))
 (Option.bind (α := ((Unit × (Bool × Unit)) × (Request × Unit)))
 (cond mine6
 (Option.bind (r2[1]?) fun y10 =>
 Option.bind (g65 y10) fun r11 =>
 cond (!r11)
 (some (((), true, ()), (z8, ())))
 (cond (!mine6)
 (Option.bind (r2[1]?) fun y12 =>
 some (((), !decide (y12 = 0), ()), (z8, ())))
 (some (((), false, ()), (z8, ())))))
 (cond (!mine6)
 (Option.bind (r2[1]?) fun y13 =>
 some (((), !decide (y13 = 0), ()), (z8, ())))
 (some (((), false, ()), (z8, ()))))) fun x14 =>
 cond x14.1.2.1
 (some (.inr false))
 (L (fun (s15 : ((Unit × (Bool × (Int × Unit))) × (Request × Unit))) nx16 => l31_12 L g65 r2 r3 nx16 s15.1.2.1 s15.1.2.2.1 s15.2.1) (((), false, 0, ()), (x14.2.1, ()))))
def l31_14 (g65 : Int → Option Bool) (nx160 : ((Unit × (Int × Unit)) × (Request × Unit)) → Option Bool) (i161 : Int) (z162 : Request) : Option Bool :=
 cond (decide (i161 < (List.length z162.after : Int)))
 (cond (decide (0 ≤ i161))
 (Option.bind (z162.after[Int.toNat i161]?) fun y163 =>
 Option.bind (g65 y163.job) fun r164 =>
 cond (!r164)
 (some false)
 (nx160 (((), IntKind.wrap .i64 (i161 + 1), ()), (z162, ()))))
 (none))
 (some true)
def F31 (L : Lp) (g63 : Request → Option (List Int)) (g64 : Int → Option (List Int)) (g65 : Int → Option Bool) (ar0 : Request) : Option Bool :=
 Option.bind (α := (((Unit × Unit) × (Request × Unit)) ⊕ Bool))
 (cond (decide (ar0.kind < 1))
 (some (.inr false))
 (cond (decide (12 < ar0.kind))
 (some (.inr false))
 (cond (decide (ar0.key < 1))
 (some (.inr false))
 (cond (decide (1073741824 < ar0.key))
 (some (.inr false))
 (cond (decide (4 < (List.length ar0.after : Int)))
 (some (.inr false))
 (cond (!decide (ar0.kind = 1))
 (cond (decide (0 < (List.length ar0.after : Int)))
 (some (.inr false))
 (some (.inl (((), ()), (ar0, ())))))
 (some (.inl (((), ()), (ar0, ())))))))))) (Sum.elim (fun x1 =>
 Option.bind (g63 x1.2.1) fun r2 =>
 Option.bind (g64 x1.2.1.kind) fun r3 =>
 Option.bind (α := (((Unit × Unit) × (Request × Unit)) ⊕ Bool))
 (L (fun (s4 : ((Unit × (Bool × (Int × Unit))) × (Request × Unit))) nx5 => l31_13 L g65 r2 r3 nx5 s4.1.2.1 s4.1.2.2.1 s4.2.1) (((), false, 0, ()), (x1.2.1, ()))) (Sum.elim (fun x158 =>
 L (fun (s159 : ((Unit × (Int × Unit)) × (Request × Unit))) nx160 => l31_14 g65 nx160 s159.1.2.1 s159.2.1) (((), 0, ()), (x158.2.1, ()))) some)) some)
theorem e31 (L : Lp) (g63 : Request → Option (List Int)) (g64 : Int → Option (List Int)) (g65 : Int → Option Bool) (x : s31.args.den) (h : denH s31.heap) : nrun [⟨63, s63, fun x h => g63 x.1⟩, ⟨64, s64, fun x h => g64 x.1⟩, ⟨65, s65, fun x h => g65 x.1⟩] L n31 s31 x h = F31 L g63 g64 g65 x.1 := by kernel_rfl
def f31 : Request → Option Bool := F31 (@LN LOOPS) f63 f64 f65
@[reducible] def t31 : Ent := ⟨31, s31, fun x h => f31 x.1⟩
theorem k31 : chkNF Try.prog Try.f31 n31 = true := by kernel_rfl
theorem ok31 : NOk Try.prog t31 := NOk.body (T := [t63, t64, t65]) mixed (nall_cons ok63 (nall_cons ok64 (nall_cons ok65 nall_nil))) (oneEach_of (by kernel_rfl)) Try.func31 k31 (by kernel_rfl) (fun x h => e31 _ _ _ _ x h)
/- (*drayage/keys.Keys).Store -/
def n26_3 : NFunc := ⟨86, .seq (.region 2 [
 ⟨(some 6), .box 17 (.tmp 2), none, 0, none⟩,
 ⟨(some 7), .box 5 (.tmp 3), none, 1, none⟩,
 ⟨(some 8), .move (.const (.int .i64 (0))), none, 2, none⟩] []) (.seq (.seq (.region 0 [
 ⟨(some 13), .move (.tmp 0), none, 0, none⟩,
 ⟨(some 14), .eqP false (.tmp 13) (.const (.nilp)), none, 0, none⟩] []) (.cond (.tmp 14) (.seq (.region 0 [
 ⟨(some 8), .move (.const (.int .i64 (1))), none, 0, none⟩] []) (.ret)) (.skip))) (.seq (.region 4 [
 ⟨(some 15), .move (.tmp 0), none, 0, none⟩,
 ⟨(some 16), .move (.tmp 1), none, 0, none⟩,
 ⟨(some 17), .call (.func 53) [(true, (.tmp 15)), (false, (.tmp 16))] false 4, none, 0, none⟩,
 ⟨(some 9), .move (.tmp 17), none, 4, none⟩] []) (.seq (.seq (.region 4 [
 ⟨(some 18), .move (.tmp 9), none, 0, none⟩,
 ⟨(some 19), .eqP false (.tmp 18) (.const (.nilp)), none, 0, none⟩,
 ⟨(some 20), .move (.tmp 19), none, 0, none⟩,
 ⟨(some 21), .load true 17 (.tmp 6), (some (20, false)), 0, none⟩,
 ⟨(some 22), .call (.func 54) [(false, (.tmp 21))] false 4, (some (20, false)), 0, none⟩,
 ⟨(some 23), .un .not (.tmp 22), (some (20, false)), 4, none⟩,
 ⟨(some 24), .pick (.tmp 20) (.const (.bool true)) (.tmp 23), none, 4, none⟩] []) (.cond (.tmp 24) (.seq (.region 0 [
 ⟨(some 8), .move (.const (.int .i64 (2))), none, 0, none⟩] []) (.ret)) (.skip))) (.seq (.region 4 [
 ⟨(some 26), .move (.tmp 9), none, 0, none⟩,
 ⟨(some 27), .fieldAddr 1 (.tmp 6), none, 0, none⟩,
 ⟨(some 28), .load false 1 (.tmp 27), none, 0, none⟩,
 ⟨(some 29), .call (.func 55) [(true, (.tmp 26)), (false, (.tmp 28))] false 4, none, 0, none⟩,
 ⟨(some 25), .move (.tmp 29), none, 4, none⟩,
 ⟨(some 30), .extract (.tmp 25) 0, none, 4, none⟩,
 ⟨(some 31), .extract (.tmp 25) 1, none, 4, none⟩,
 ⟨(some 10), .move (.tmp 30), none, 4, none⟩,
 ⟨(some 11), .move (.tmp 31), none, 4, none⟩] []) (.seq (.seq (.region 0 [
 ⟨(some 32), .move (.tmp 11), none, 0, none⟩] []) (.cond (.tmp 32) (.seq (.region 0 [
 ⟨(some 8), .move (.const (.int .i64 (31))), none, 0, none⟩] []) (.ret)) (.skip))) (.seq (.seq (.region 0 [
 ⟨(some 33), .fieldAddr 1 (.tmp 6), none, 0, (some ([], none))⟩,
 ⟨(some 34), .load false 1 (.tmp 33), none, 0, (some ([], none))⟩,
 ⟨(some 35), .move (.tmp 9), none, 0, (some ([], none))⟩,
 ⟨(some 36), .nilCheck (.tmp 35), none, 0, (some ([], none))⟩,
 ⟨(some 37), .fieldAddr 0 (.tmp 36), none, 0, (some ([], none))⟩,
 ⟨(some 38), .load false 1 (.tmp 37), none, 0, (some ([], none))⟩,
 ⟨(some 39), .bin .leq (.tmp 34) (.tmp 38), none, 0, (some ([], none))⟩] []) (.cond (.tmp 39) (.seq (.region 0 [
 ⟨(some 8), .move (.const (.int .i64 (51))), none, 0, none⟩] []) (.ret)) (.skip))) (.seq (.region 9 [
 ⟨(some 40), .move (.tmp 1), none, 0, (some ([], none))⟩,
 ⟨(some 41), .load true 17 (.tmp 6), none, 0, (some ([], none))⟩,
 ⟨(some 42), .call (.func 56) [(false, (.tmp 41))] true 4, none, 0, (some ([], none))⟩,
 ⟨(some 43), .load true 5 (.tmp 7), none, 4, (some ([], none))⟩,
 ⟨(some 44), .call (.func 57) [(false, (.tmp 43))] true 4, none, 4, (some ([0, 1, 2, 3], none))⟩,
 ⟨(some 45), .build [.int .i64 (0), .int .i64 (0), .int .i64 (0), .int .i64 (0), .int .i64 (0), .int .i64 (0), .int .i64 (0), .int .i64 (0), .int .i64 (0), .int .i64 (0), .int .i64 (0), .int .i64 (0), .int .i64 (0), .int .i64 (0), .zsl, .int .i64 (0), .int .i64 (0), .int .i64 (0), .int .i64 (0), .int .i64 (0), .int .i64 (0), .int .i64 (0), .int .i64 (0), .zsl, .int .i64 (0), .bool false] [(1, 1, (.tmp 40)), (2, 17, (.tmp 42)), (19, 5, (.tmp 44))], none, 8, (some ([0, 1, 2, 3, 4, 5, 6, 7], none))⟩,
 ⟨(some 12), .alloc [.int .i64 (0), .int .i64 (0), .int .i64 (0), .int .i64 (0), .int .i64 (0), .int .i64 (0), .int .i64 (0), .int .i64 (0), .int .i64 (0), .int .i64 (0), .int .i64 (0), .int .i64 (0), .int .i64 (0), .int .i64 (0), .zsl, .int .i64 (0), .int .i64 (0), .int .i64 (0), .int .i64 (0), .int .i64 (0), .int .i64 (0), .int .i64 (0), .int .i64 (0), .zsl, .int .i64 (0), .bool false], none, 8, (some ([], none))⟩,
 ⟨none, .store 26 (.tmp 12) (.tmp 45), none, 9, (some ([0, 1, 2, 3, 4, 5, 6, 7, 8], none))⟩] []) (.seq (.region 5 [
 ⟨(some 46), .move (.tmp 9), none, 0, (some ([], none))⟩,
 ⟨(some 47), .move (.tmp 9), none, 0, (some ([], none))⟩,
 ⟨(some 48), .nilCheck (.tmp 47), none, 0, (some ([], none))⟩,
 ⟨(some 49), .fieldAddr 1 (.tmp 48), none, 0, (some ([], none))⟩,
 ⟨(some 50), .load false 1 (.tmp 49), none, 0, (some ([], none))⟩,
 ⟨(some 51), .move (.tmp 10), none, 0, (some ([], none))⟩,
 ⟨(some 52), .load true 26 (.tmp 12), none, 0, (some ([], none))⟩,
 ⟨(some 53), .buildSlice 26 1 true [.int .i64 (0), .int .i64 (0), .int .i64 (0), .int .i64 (0), .int .i64 (0), .int .i64 (0), .int .i64 (0), .int .i64 (0), .int .i64 (0), .int .i64 (0), .int .i64 (0), .int .i64 (0), .int .i64 (0), .int .i64 (0), .zsl, .int .i64 (0), .int .i64 (0), .int .i64 (0), .int .i64 (0), .int .i64 (0), .int .i64 (0), .int .i64 (0), .int .i64 (0), .zsl, .int .i64 (0), .bool false] [(0, (.tmp 52))], none, 0, (some ([], none))⟩,
 ⟨(some 54), .call (.func 58) [(true, (.tmp 50)), (false, (.tmp 51)), (true, (.tmp 53))] false 4, none, 1, (some ([0], none))⟩,
 ⟨(some 55), .nilCheck (.tmp 46), none, 5, (some ([0, 1, 2, 3, 4], none))⟩,
 ⟨(some 56), .fieldAddr 1 (.tmp 55), none, 5, (some ([0, 1, 2, 3, 4], none))⟩,
 ⟨none, .store 1 (.tmp 56) (.tmp 54), none, 5, (some ([0, 1, 2, 3, 4], none))⟩] []) (.seq (.seq (.region 0 [
 ⟨(some 57), .move (.tmp 9), none, 0, (some ([], none))⟩,
 ⟨(some 58), .nilCheck (.tmp 57), none, 0, (some ([], none))⟩,
 ⟨(some 59), .fieldAddr 1 (.tmp 58), none, 0, (some ([], none))⟩,
 ⟨(some 60), .load false 1 (.tmp 59), none, 0, (some ([], none))⟩,
 ⟨(some 61), .len (.tmp 60), none, 0, (some ([], none))⟩,
 ⟨(some 62), .move (.tmp 0), none, 0, (some ([], none))⟩,
 ⟨(some 63), .nilCheck (.tmp 62), none, 0, (some ([], none))⟩,
 ⟨(some 64), .fieldAddr 0 (.tmp 63), none, 0, (some ([], none))⟩,
 ⟨(some 65), .load false 1 (.tmp 64), none, 0, (some ([], none))⟩,
 ⟨(some 66), .bin .gtr (.tmp 61) (.tmp 65), none, 0, (some ([], none))⟩] []) (.cond (.tmp 66) (.seq (.region 0 [
 ⟨(some 67), .move (.tmp 9), none, 0, none⟩,
 ⟨(some 68), .move (.tmp 9), none, 0, none⟩,
 ⟨(some 69), .nilCheck (.tmp 68), none, 0, none⟩,
 ⟨(some 70), .fieldAddr 1 (.tmp 69), none, 0, none⟩,
 ⟨(some 71), .load false 1 (.tmp 70), none, 0, none⟩,
 ⟨(some 72), .indexSl 26 (.tmp 71) (.const (.int .i64 (0))), none, 0, none⟩,
 ⟨(some 73), .fieldAddr 2 (.tmp 72), none, 0, none⟩,
 ⟨(some 74), .fieldAddr 1 (.tmp 73), none, 0, none⟩,
 ⟨(some 75), .load false 1 (.tmp 74), none, 0, none⟩,
 ⟨(some 76), .nilCheck (.tmp 67), none, 0, none⟩,
 ⟨(some 77), .fieldAddr 0 (.tmp 76), none, 0, none⟩,
 ⟨none, .store 1 (.tmp 77) (.tmp 75), none, 0, none⟩] []) (.region 4 [
 ⟨(some 78), .move (.tmp 9), none, 0, none⟩,
 ⟨(some 79), .move (.tmp 9), none, 0, none⟩,
 ⟨(some 80), .nilCheck (.tmp 79), none, 0, none⟩,
 ⟨(some 81), .fieldAddr 1 (.tmp 80), none, 0, none⟩,
 ⟨(some 82), .load false 1 (.tmp 81), none, 0, none⟩,
 ⟨(some 83), .call (.func 59) [(true, (.tmp 82)), (false, (.const (.int .i64 (0)))), (false, (.const (.int .i64 (1))))] false 4, none, 0, none⟩,
 ⟨(some 84), .nilCheck (.tmp 78), none, 4, none⟩,
 ⟨(some 85), .fieldAddr 1 (.tmp 84), none, 4, none⟩,
 ⟨none, .store 1 (.tmp 85) (.tmp 83), none, 4, none⟩] [])) (.skip))) (.seq (.region 0 [
 ⟨(some 8), .move (.const (.int .i64 (0))), none, 0, none⟩] []) (.ret))))))))))), [.tmp 8], true⟩
def s26_3 : Sig := ⟨(.cons (.ptr 0 0 0) (.cons (.v (.int .i64)) (.cons (.v .request) (.cons (.v .reply) .nil)))), [.cell false (.cons (.v (.int .i64)) (.cons (.slw 1 2) .nil)), .many 2 (.cons (.cons (.v (.int .i64)) (.cons (.slw 2 26) .nil)) (.cons (.cons (.v (.int .i64)) (.cons (.slw 3 26) .nil)) .nil)), .typed .entry, .typed .entry], ((.v (.int .i64)), [.cell false (.cons (.v (.int .i64)) (.cons (.slw 1 2) .nil)), .many 2 (.cons (.cons (.v (.int .i64)) (.cons (.slw 2 26) .nil)) (.cons (.cons (.v (.int .i64)) (.cons (.slw 3 26) .nil)) .nil)), .typed .entry, .typed .entry]), [((.v (.int .i64)), [.cell false (.cons (.v (.int .i64)) (.cons (.slw 1 2) .nil)), .many 2 (.cons (.cons (.v (.int .i64)) (.cons (.slw 2 26) .nil)) (.cons (.cons (.v (.int .i64)) (.cons (.slw 4 26) .nil)) .nil)), .typed .entry, .dead, .typed .entry]), ((.v (.int .i64)), [.cell false (.cons (.v (.int .i64)) (.cons (.slw 1 2) .nil)), .many 2 (.cons (.cons (.v (.int .i64)) (.cons (.slw 4 26) .nil)) (.cons (.cons (.v (.int .i64)) (.cons (.slw 3 26) .nil)) .nil)), .dead, .typed .entry, .typed .entry])]⟩
@[reducible] def y26_3 : Type := ((Int × ((Int × (Unit × Unit)) × (((Int × (Unit × Unit)) × ((Int × (Unit × Unit)) × Unit)) × ((List Entry) × ((List Entry) × Unit))))) ⊕ ((Int × ((Int × (Unit × Unit)) × (((Int × (Unit × Unit)) × ((Int × (Unit × Unit)) × Unit)) × ((List Entry) × (Unit × ((List Entry) × Unit)))))) ⊕ (Int × ((Int × (Unit × Unit)) × (((Int × (Unit × Unit)) × ((Int × (Unit × Unit)) × Unit)) × (Unit × ((List Entry) × ((List Entry) × Unit))))))))
def F26_3 (L : Lp) (g53_3 : Int → Int → Int → Int → (List Entry) → (List Entry) → Option y53_3) (g54 : Request → Option Bool) (g55_4 : Int → Int → Int → (List Entry) → (List Entry) → Option ((Int × (Bool × Unit)) × (((Int × (Unit × Unit)) × ((Int × (Unit × Unit)) × Unit)) × ((List Entry) × ((List Entry) × Unit))))) (g56 : Request → Option Request) (g57 : Reply → Option Reply) (g58_1 : Int → (List Entry) → (List Entry) → Option (Unit × (Unit × ((List Entry) × ((List Entry) × Unit))))) (g59 : Int → Int → (List Entry) → Option (Unit × (Unit × ((List Entry) × Unit)))) (g55_5 : Int → Int → Int → (List Entry) → (List Entry) → Option ((Int × (Bool × Unit)) × (((Int × (Unit × Unit)) × ((Int × (Unit × Unit)) × Unit)) × ((List Entry) × ((List Entry) × Unit))))) (user0 : Int) (ar1 : Request) (a2 : Reply) (a3 : Int) (a4 : Int) (a5 : Int) (a6 : (List Entry)) (a7 : (List Entry)) : Option y26_3 :=
 Option.bind (g53_3 user0 a3 a4 a5 a6 a7) (Sum.elim (fun r8 =>
 cond (true && (true && ((decide ((List.length r8.2.2.2.1) = (List.length a6))) && ((decide ((List.length r8.2.2.2.2.1) = (List.length a7))) && true))))
 (some (.inl (2, ((r8.2.1.1, (), ()), ((r8.2.2.1.1.1, (), ()), ((r8.2.2.1.2.1.1, (), ()), ())), r8.2.2.2.1, r8.2.2.2.2.1, ()))))
 (none)) (Sum.elim (fun r9 =>
 cond (true && (true && ((decide ((List.length r9.2.2.2.1) = (List.length a6))) && ((decide ((List.length r9.2.2.2.2.1) = (List.length a7))) && true))))
 (Option.bind (g54 ar1) fun r10 =>
 cond (!r10)
 (some (.inl (2, ((r9.2.1.1, (), ()), ((r9.2.2.1.1.1, (), ()), ((r9.2.2.1.2.1.1, (), ()), ())), r9.2.2.2.1, r9.2.2.2.2.1, ()))))
 (Option.bind (g55_4 ar1.key r9.2.2.1.1.1 r9.2.2.1.2.1.1 r9.2.2.2.1 r9.2.2.2.2.1) fun r11 =>
 cond (true && ((decide ((List.length r11.2.2.1) = (List.length r9.2.2.2.1))) && ((decide ((List.length r11.2.2.2.1) = (List.length r9.2.2.2.2.1))) && true)))
 (cond r11.1.2.1
 (some (.inl (31, ((r9.2.1.1, (), ()), ((r11.2.1.1.1, (), ()), ((r11.2.1.2.1.1, (), ()), ())), r11.2.2.1, r11.2.2.2.1, ()))))
 (cond (decide (ar1.key ≤ r11.2.1.2.1.1))
 (some (.inl (51, ((r9.2.1.1, (), ()), ((r11.2.1.1.1, (), ()), ((r11.2.1.2.1.1, (), ()), ())), r11.2.2.1, r11.2.2.2.1, ()))))
 (Option.bind (g56 ar1) fun r12 =>
 Option.bind (g57 a2) fun r13 =>
 Option.bind (g58_1 r11.1.1 r11.2.2.2.1 [Entry.mk 0 user0 r12 r13 0 false]) fun r14 =>
 cond (true && ((decide ((List.length r14.2.2.1) = 1)) && true))
 (cond (decide (r9.2.1.1 < (List.length r14.2.2.2.1 : Int)))
 (cond (decide (0 < (List.length r14.2.2.2.1)))
 (Option.bind (r14.2.2.2.1[0]?) fun y15 =>
 Option.bind (g59 0 1 r14.2.2.2.1) fun r16 =>
 some (.inr (.inl (0, ((r9.2.1.1, (), ()), ((r11.2.1.1.1, (), ()), ((y15.request.key, (), ()), ())), r11.2.2.1, (), r16.2.2.1, ())))))
 (none))
 (some (.inr (.inl (0, ((r9.2.1.1, (), ()), ((r11.2.1.1.1, (), ()), ((r11.2.1.2.1.1, (), ()), ())), r11.2.2.1, (), r14.2.2.2.1, ()))))))
 (none))))
 (none)))
 (none)) (fun r17 =>
 cond (true && (true && ((decide ((List.length r17.2.2.2.1) = (List.length a6))) && ((decide ((List.length r17.2.2.2.2.1) = (List.length a7))) && true))))
 (Option.bind (g54 ar1) fun r18 =>
 cond (!r18)
 (some (.inl (2, ((r17.2.1.1, (), ()), ((r17.2.2.1.1.1, (), ()), ((r17.2.2.1.2.1.1, (), ()), ())), r17.2.2.2.1, r17.2.2.2.2.1, ()))))
 (Option.bind (g55_5 ar1.key r17.2.2.1.1.1 r17.2.2.1.2.1.1 r17.2.2.2.1 r17.2.2.2.2.1) fun r19 =>
 cond (true && ((decide ((List.length r19.2.2.1) = (List.length r17.2.2.2.1))) && ((decide ((List.length r19.2.2.2.1) = (List.length r17.2.2.2.2.1))) && true)))
 (cond r19.1.2.1
 (some (.inl (31, ((r17.2.1.1, (), ()), ((r19.2.1.1.1, (), ()), ((r19.2.1.2.1.1, (), ()), ())), r19.2.2.1, r19.2.2.2.1, ()))))
 (cond (decide (ar1.key ≤ r19.2.1.1.1))
 (some (.inl (51, ((r17.2.1.1, (), ()), ((r19.2.1.1.1, (), ()), ((r19.2.1.2.1.1, (), ()), ())), r19.2.2.1, r19.2.2.2.1, ()))))
 (Option.bind (g56 ar1) fun r20 =>
 Option.bind (g57 a2) fun r21 =>
 Option.bind (g58_1 r19.1.1 r19.2.2.1 [Entry.mk 0 user0 r20 r21 0 false]) fun r22 =>
 cond (true && ((decide ((List.length r22.2.2.1) = 1)) && true))
 (cond (decide (r17.2.1.1 < (List.length r22.2.2.2.1 : Int)))
 (cond (decide (0 < (List.length r22.2.2.2.1)))
 (Option.bind (r22.2.2.2.1[0]?) fun y23 =>
 Option.bind (g59 0 1 r22.2.2.2.1) fun r24 =>
 some (.inr (.inr (0, ((r17.2.1.1, (), ()), ((y23.request.key, (), ()), ((r19.2.1.2.1.1, (), ()), ())), (), r19.2.2.2.1, r24.2.2.1, ())))))
 (none))
 (some (.inr (.inr (0, ((r17.2.1.1, (), ()), ((r19.2.1.1.1, (), ()), ((r19.2.1.2.1.1, (), ()), ())), (), r19.2.2.2.1, r22.2.2.2.1, ()))))))
 (none))))
 (none)))
 (none))))
theorem e26_3 (L : Lp) (g53_3 : Int → Int → Int → Int → (List Entry) → (List Entry) → Option y53_3) (g54 : Request → Option Bool) (g55_4 : Int → Int → Int → (List Entry) → (List Entry) → Option ((Int × (Bool × Unit)) × (((Int × (Unit × Unit)) × ((Int × (Unit × Unit)) × Unit)) × ((List Entry) × ((List Entry) × Unit))))) (g56 : Request → Option Request) (g57 : Reply → Option Reply) (g58_1 : Int → (List Entry) → (List Entry) → Option (Unit × (Unit × ((List Entry) × ((List Entry) × Unit))))) (g59 : Int → Int → (List Entry) → Option (Unit × (Unit × ((List Entry) × Unit)))) (g55_5 : Int → Int → Int → (List Entry) → (List Entry) → Option ((Int × (Bool × Unit)) × (((Int × (Unit × Unit)) × ((Int × (Unit × Unit)) × Unit)) × ((List Entry) × ((List Entry) × Unit))))) (x : s26_3.args.den) (h : denH s26_3.heap) : nrun [⟨53, s53_3, fun x h => g53_3 x.2.1 h.1.1 h.2.1.1.1 h.2.1.2.1.1 h.2.2.1 h.2.2.2.1⟩, ⟨54, s54, fun x h => g54 x.1⟩, ⟨55, s55_4, fun x h => g55_4 x.2.1 h.1.1.1 h.1.2.1.1 h.2.1 h.2.2.1⟩, ⟨56, s56, fun x h => g56 x.1⟩, ⟨57, s57, fun x h => g57 x.1⟩, ⟨58, s58_1, fun x h => g58_1 x.2.1 h.1 h.2.1⟩, ⟨59, s59, fun x h => g59 x.2.1 x.2.2.1 h.1⟩, ⟨55, s55_5, fun x h => g55_5 x.2.1 h.1.1.1 h.1.2.1.1 h.2.1 h.2.2.1⟩] L n26_3 s26_3 x h = F26_3 L g53_3 g54 g55_4 g56 g57 g58_1 g59 g55_5 x.2.1 x.2.2.1 x.2.2.2.1 h.1.1 h.2.1.1.1 h.2.1.2.1.1 h.2.2.1 h.2.2.2.1 := by kernel_rfl
def f26_3 : Int → Request → Reply → Int → Int → Int → (List Entry) → (List Entry) → Option y26_3 := F26_3 (@LN LOOPS) f53_3 f54 f55_4 f56 f57 f58_1 f59 f55_5
@[reducible] def t26_3 : Ent := ⟨26, s26_3, fun x h => f26_3 x.2.1 x.2.2.1 x.2.2.2.1 h.1.1 h.2.1.1.1 h.2.1.2.1.1 h.2.2.1 h.2.2.2.1⟩
theorem k26_3 : chkNF Try.prog Try.f26 n26_3 = true := by kernel_rfl
theorem ok26_3 : NOk Try.prog t26_3 := NOk.body (T := [t53_3, t54, t55_4, t56, t57, t58_1, t59, t55_5]) mixed (nall_cons ok53_3 (nall_cons ok54 (nall_cons ok55_4 (nall_cons ok56 (nall_cons ok57 (nall_cons ok58_1 (nall_cons ok59 (nall_cons ok55_5 nall_nil)))))))) (oneEach_of (by kernel_rfl)) Try.func26 k26_3 (by kernel_rfl) (fun x h => e26_3 _ _ _ _ _ _ _ _ _ x h)
end NM
end Go.Proofs.Ytnggfgfeghmddaa
