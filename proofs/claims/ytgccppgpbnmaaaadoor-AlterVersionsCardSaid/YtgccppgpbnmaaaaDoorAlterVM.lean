/-
  The plain forms of the functions that the statement reaches, and that each is its function's body. (Written by program.)
-/
import Derived.Test.YtgccppgpbnmaaaaDoorAlterVMa
set_option linter.unusedVariables false
set_option maxRecDepth 100000
set_option maxHeartbeats 4000000
namespace Go.Proofs.YtgccppgpbnmaaaaDoor
namespace NM
open AM Go.RowKit
/- drayage/drayagelaw24.Few -/
def n25 : NFunc := ⟨20, .seq (.region 0 [
    ⟨(some 2), .move (.const (.bool false)), none, 0, none⟩] []) (.seq (.seq (.region 0 [
    ⟨(some 5), .move (.tmp 0), none, 0, none⟩,
    ⟨(some 6), .len (.tmp 5), none, 0, none⟩,
    ⟨(some 7), .bin .gtr (.tmp 6) (.const (.int .i64 (12))), none, 0, none⟩] []) (.cond (.tmp 7) (.seq (.region 0 [
    ⟨(some 2), .move (.const (.bool false)), none, 0, none⟩] []) (.ret)) (.skip))) (.seq (.seq (.region 0 [
    ⟨(some 8), .move (.tmp 0), none, 0, none⟩,
    ⟨(some 9), .len (.tmp 8), none, 0, none⟩,
    ⟨(some 10), .move (.const (.int .i64 (0))), none, 0, none⟩] []) (.block 0 (.loop [8, 9, 10] ⟨[(10, (.v (.int .i64)))], [8, 9], []⟩ (.seq (.region 0 [
    ⟨(some 11), .bin .lss (.tmp 10) (.tmp 9), none, 0, none⟩] []) (.seq (.cond (.tmp 11) (.skip) (.exit 0)) (.seq (.block 1 (.seq (.region 1 [
    ⟨(some 12), .indexSl 18 (.tmp 8) (.tmp 10), none, 0, none⟩,
    ⟨(some 13), .load true 18 (.tmp 12), none, 0, none⟩,
    ⟨(some 4), .alloc [.int .i64 (0), .int .i64 (0), .int .i64 (0), .int .i64 (0), .int .i64 (0), .int .i64 (0), .int .i64 (0), .int .i64 (0), .int .i64 (0), .int .i64 (0), .int .i64 (0), .int .i64 (0), .int .i64 (0), .zsl, .int .i64 (0), .int .i64 (0), .int .i64 (0), .int .i64 (0)], none, 0, none⟩,
    ⟨none, .store 18 (.tmp 4) (.tmp 13), none, 1, none⟩] []) (.seq (.region 0 [
    ⟨(some 14), .fieldAddr 1 (.tmp 4), none, 0, none⟩,
    ⟨(some 15), .fieldAddr 12 (.tmp 14), none, 0, none⟩,
    ⟨(some 16), .load false 1 (.tmp 15), none, 0, none⟩,
    ⟨(some 17), .len (.tmp 16), none, 0, none⟩,
    ⟨(some 18), .bin .gtr (.tmp 17) (.const (.int .i64 (20))), none, 0, none⟩] []) (.cond (.tmp 18) (.seq (.region 0 [
    ⟨(some 2), .move (.const (.bool false)), none, 0, none⟩] []) (.ret)) (.skip))))) (.region 0 [
    ⟨(some 19), .bin .add (.tmp 10) (.const (.int .i64 (1))), none, 0, none⟩,
    ⟨(some 10), .move (.tmp 19), none, 0, none⟩] []))))))) (.seq (.region 0 [
    ⟨(some 2), .move (.const (.bool true)), none, 0, none⟩] []) (.ret)))), [.tmp 2], true⟩
def s25 : Sig := ⟨(.cons (.v (.list .call)) .nil), [], ((.v .bool), []), []⟩
def l25_0 (al0 : (List Call)) (nx2 : ((Int × Unit) × Unit) → Option Bool) (z3 : Int) : Option Bool :=
  cond (decide (z3 < (List.length al0 : Int)))
  (cond (decide (0 ≤ z3))
  (Option.bind (al0[Int.toNat z3]?) fun y4 =>
  cond (decide (20 < (List.length y4.request.after : Int)))
  (some false)
  (nx2 ((IntKind.wrap .i64 (z3 + 1), ()), ())))
  (none))
  (some true)
def F25 (L : Lp)  (al0 : (List Call)) : Option Bool :=
  cond (decide (12 < (List.length al0 : Int)))
  (some false)
  (L (fun (s1 : ((Int × Unit) × Unit)) nx2 => l25_0 al0 nx2 s1.1.1) ((0, ()), ()))
theorem e25 (L : Lp)  (x : s25.args.den) (h : denH s25.heap) : nrun [] L n25 s25 x h = F25 L  x.1 := by kernel_rfl
def f25 : (List Call) → Option Bool := F25 (@LN LOOPS) 
@[reducible] def t25 : Ent := ⟨25, s25, fun x h => f25 x.1⟩
theorem k25 : chkNF Tryd.prog Tryd.f25 n25 = true := by kernel_rfl
theorem ok25 : NOk Tryd.prog t25 := NOk.body (T := []) mixed nall_nil (oneEach_of (by kernel_rfl)) Tryd.func25 k25 (by kernel_rfl) (fun x h => e25 _  x h)
/- drayage/drayagelaw25.AlterVersions -/
def n6 : NFunc := ⟨107, .seq (.region 3 [
    ⟨(some 3), .box 18 (.tmp 0), none, 0, none⟩,
    ⟨(some 4), .box 18 (.tmp 1), none, 1, none⟩,
    ⟨(some 5), .box 3 (.tmp 2), none, 2, none⟩,
    ⟨(some 6), .move (.const (.bool false)), none, 3, none⟩] []) (.seq (.seq (.region 4 [
    ⟨(some 13), .call (.func 21) [] false 4, none, 0, none⟩,
    ⟨(some 14), .un .not (.tmp 13), none, 4, none⟩] []) (.cond (.tmp 14) (.seq (.region 0 [
    ⟨(some 6), .move (.const (.bool false)), none, 0, none⟩] []) (.ret)) (.skip))) (.seq (.seq (.region 16 [
    ⟨(some 15), .load true 18 (.tmp 3), none, 0, none⟩,
    ⟨(some 16), .call (.func 22) [(false, (.tmp 15))] false 4, none, 0, none⟩,
    ⟨(some 17), .un .not (.tmp 16), none, 4, none⟩,
    ⟨(some 18), .move (.tmp 17), none, 4, none⟩,
    ⟨(some 19), .load true 18 (.tmp 3), (some (18, false)), 4, none⟩,
    ⟨(some 20), .call (.func 23) [(false, (.tmp 19))] false 4, (some (18, false)), 4, none⟩,
    ⟨(some 21), .un .not (.tmp 20), (some (18, false)), 8, none⟩,
    ⟨(some 22), .pick (.tmp 18) (.const (.bool true)) (.tmp 21), none, 8, none⟩,
    ⟨(some 23), .move (.tmp 22), none, 8, none⟩,
    ⟨(some 24), .load true 18 (.tmp 4), (some (23, false)), 8, none⟩,
    ⟨(some 25), .call (.func 24) [(false, (.tmp 24))] false 4, (some (23, false)), 8, none⟩,
    ⟨(some 26), .un .not (.tmp 25), (some (23, false)), 12, none⟩,
    ⟨(some 27), .pick (.tmp 23) (.const (.bool true)) (.tmp 26), none, 12, none⟩,
    ⟨(some 28), .move (.tmp 27), none, 12, none⟩,
    ⟨(some 29), .fieldAddr 9 (.tmp 4), (some (28, false)), 12, none⟩,
    ⟨(some 30), .load false 1 (.tmp 29), (some (28, false)), 12, none⟩,
    ⟨(some 31), .len (.tmp 30), (some (28, false)), 12, none⟩,
    ⟨(some 32), .bin .gtr (.tmp 31) (.const (.int .i64 (20))), (some (28, false)), 12, none⟩,
    ⟨(some 33), .pick (.tmp 28) (.const (.bool true)) (.tmp 32), none, 12, none⟩,
    ⟨(some 34), .move (.tmp 33), none, 12, none⟩,
    ⟨(some 35), .fieldAddr 1 (.tmp 5), (some (34, false)), 12, none⟩,
    ⟨(some 36), .load false 1 (.tmp 35), (some (34, false)), 12, none⟩,
    ⟨(some 37), .call (.func 25) [(false, (.tmp 36))] false 4, (some (34, false)), 12, none⟩,
    ⟨(some 38), .un .not (.tmp 37), (some (34, false)), 16, none⟩,
    ⟨(some 39), .pick (.tmp 34) (.const (.bool true)) (.tmp 38), none, 16, none⟩] []) (.cond (.tmp 39) (.seq (.region 0 [
    ⟨(some 6), .move (.const (.bool true)), none, 0, none⟩] []) (.ret)) (.skip))) (.seq (.region 0 [
    ⟨(some 40), .fieldAddr 13 (.tmp 4), none, 0, none⟩,
    ⟨(some 41), .load false 1 (.tmp 40), none, 0, none⟩,
    ⟨(some 7), .move (.tmp 41), none, 0, none⟩] []) (.seq (.seq (.region 0 [
    ⟨(some 42), .fieldAddr 1 (.tmp 5), none, 0, none⟩,
    ⟨(some 43), .load false 1 (.tmp 42), none, 0, none⟩,
    ⟨(some 44), .len (.tmp 43), none, 0, none⟩,
    ⟨(some 45), .move (.const (.int .i64 (0))), none, 0, none⟩] []) (.block 0 (.loop [3, 4, 5, 7, 43, 44, 45] ⟨[(3, (.ptr 0 0 0)), (4, (.ptr 1 0 0)), (5, (.ptr 2 0 0)), (7, (.v (.int .i64))), (45, (.v (.int .i64)))], [43, 44], [.one false .spec, .one false .job, .one false (.pair (.int .i64) (.pair (.list .call) (.int .i64)))]⟩ (.seq (.region 0 [
    ⟨(some 46), .bin .lss (.tmp 45) (.tmp 44), none, 0, none⟩] []) (.seq (.cond (.tmp 46) (.skip) (.exit 0)) (.seq (.block 1 (.seq (.region 1 [
    ⟨(some 47), .indexSl 18 (.tmp 43) (.tmp 45), none, 0, none⟩,
    ⟨(some 48), .load true 18 (.tmp 47), none, 0, none⟩,
    ⟨(some 9), .alloc [.int .i64 (0), .int .i64 (0), .int .i64 (0), .int .i64 (0), .int .i64 (0), .int .i64 (0), .int .i64 (0), .int .i64 (0), .int .i64 (0), .int .i64 (0), .int .i64 (0), .int .i64 (0), .int .i64 (0), .zsl, .int .i64 (0), .int .i64 (0), .int .i64 (0), .int .i64 (0)], none, 0, none⟩,
    ⟨none, .store 18 (.tmp 9) (.tmp 48), none, 1, none⟩] []) (.seq (.region 0 [
    ⟨(some 49), .fieldAddr 1 (.tmp 9), none, 0, none⟩,
    ⟨(some 50), .fieldAddr 3 (.tmp 49), none, 0, none⟩,
    ⟨(some 51), .load false 1 (.tmp 50), none, 0, none⟩,
    ⟨(some 10), .move (.tmp 51), none, 0, none⟩] []) (.seq (.region 6 [
    ⟨(some 53), .load true 18 (.tmp 3), none, 0, none⟩,
    ⟨(some 54), .load true 18 (.tmp 4), none, 0, none⟩,
    ⟨(some 55), .fieldAddr 0 (.tmp 5), none, 0, none⟩,
    ⟨(some 56), .load false 1 (.tmp 55), none, 0, none⟩,
    ⟨(some 57), .load true 18 (.tmp 9), none, 0, none⟩,
    ⟨(some 58), .call (.func 26) [(false, (.tmp 53)), (false, (.tmp 54)), (false, (.tmp 56)), (false, (.tmp 57))] false 4, none, 0, none⟩,
    ⟨(some 52), .move (.tmp 58), none, 4, none⟩,
    ⟨(some 59), .extract (.tmp 52) 0, none, 4, none⟩,
    ⟨(some 60), .extract (.tmp 52) 1, none, 4, none⟩,
    ⟨(some 11), .alloc [.int .i64 (0), .int .i64 (0), .int .i64 (0), .int .i64 (0), .int .i64 (0), .int .i64 (0), .int .i64 (0), .int .i64 (0), .int .i64 (0), .zsl, .int .i64 (0), .bool false, .bool false, .int .i64 (0), .int .i64 (0), .int .i64 (0), .int .i64 (0), .int .i64 (0)], none, 4, none⟩,
    ⟨(some 12), .alloc [.int .i64 (0), .int .i64 (0), .int .i64 (0), .int .i64 (0), .zsl], none, 5, none⟩,
    ⟨none, .store 18 (.tmp 11) (.tmp 59), none, 6, none⟩,
    ⟨none, .store 5 (.tmp 12) (.tmp 60), none, 6, none⟩] []) (.seq (.seq (.region 0 [
    ⟨(some 61), .fieldAddr 1 (.tmp 12), none, 0, none⟩,
    ⟨(some 62), .load false 1 (.tmp 61), none, 0, none⟩,
    ⟨(some 63), .bin .neq (.tmp 62) (.const (.int .i64 (0))), none, 0, none⟩] []) (.cond (.tmp 63) (.seq (.seq (.region 0 [
    ⟨(some 64), .fieldAddr 13 (.tmp 11), none, 0, none⟩,
    ⟨(some 65), .load false 1 (.tmp 64), none, 0, none⟩,
    ⟨(some 66), .move (.tmp 7), none, 0, none⟩,
    ⟨(some 67), .bin .neq (.tmp 65) (.tmp 66), none, 0, none⟩] []) (.cond (.tmp 67) (.seq (.region 0 [
    ⟨(some 6), .move (.const (.bool false)), none, 0, none⟩] []) (.ret)) (.skip))) (.exit 1)) (.skip))) (.seq (.seq (.meet [3, 4, 5, 43, 44, 45, 11, 102] [] ⟨[(3, (.ptr 0 0 0)), (4, (.ptr 1 0 0)), (5, (.ptr 2 0 0)), (11, (.ptr 3 0 0)), (102, (.v .bool))], [43, 44, 45], [.one false .spec, .one false .job, .one false (.pair (.int .i64) (.pair (.list .call) (.int .i64))), .one false .job]⟩ (.region 0 [
    ⟨(some 68), .move (.tmp 10), none, 0, none⟩,
    ⟨(some 69), .bin .neq (.tmp 68) (.const (.int .i64 (0))), none, 0, none⟩,
    ⟨(some 70), .move (.tmp 69), none, 0, none⟩,
    ⟨(some 71), .move (.tmp 10), (some (70, true)), 0, none⟩,
    ⟨(some 72), .move (.tmp 7), (some (70, true)), 0, none⟩,
    ⟨(some 73), .bin .neq (.tmp 71) (.tmp 72), (some (70, true)), 0, none⟩,
    ⟨(some 74), .pick (.tmp 70) (.tmp 73) (.const (.bool false)), none, 0, none⟩,
    ⟨(some 75), .move (.tmp 74), none, 0, none⟩,
    ⟨(some 76), .fieldAddr 3 (.tmp 12), (some (75, false)), 0, none⟩,
    ⟨(some 77), .load false 1 (.tmp 76), (some (75, false)), 0, none⟩,
    ⟨(some 78), .move (.tmp 7), (some (75, false)), 0, none⟩,
    ⟨(some 79), .bin .add (.tmp 78) (.const (.int .i64 (1))), (some (75, false)), 0, none⟩,
    ⟨(some 80), .bin .neq (.tmp 77) (.tmp 79), (some (75, false)), 0, none⟩,
    ⟨(some 81), .pick (.tmp 75) (.const (.bool true)) (.tmp 80), none, 0, none⟩,
    ⟨(some 82), .move (.tmp 81), none, 0, none⟩,
    ⟨(some 83), .fieldAddr 13 (.tmp 11), (some (82, false)), 0, none⟩,
    ⟨(some 84), .load false 1 (.tmp 83), (some (82, false)), 0, none⟩,
    ⟨(some 85), .move (.tmp 7), (some (82, false)), 0, none⟩,
    ⟨(some 86), .bin .add (.tmp 85) (.const (.int .i64 (1))), (some (82, false)), 0, none⟩,
    ⟨(some 87), .bin .neq (.tmp 84) (.tmp 86), (some (82, false)), 0, none⟩,
    ⟨(some 88), .pick (.tmp 82) (.const (.bool true)) (.tmp 87), none, 0, none⟩,
    ⟨(some 89), .move (.tmp 88), none, 0, none⟩,
    ⟨(some 90), .fieldAddr 2 (.tmp 12), (some (89, false)), 0, none⟩,
    ⟨(some 91), .load false 1 (.tmp 90), (some (89, false)), 0, none⟩,
    ⟨(some 92), .fieldAddr 0 (.tmp 4), (some (89, false)), 0, none⟩,
    ⟨(some 93), .load false 1 (.tmp 92), (some (89, false)), 0, none⟩,
    ⟨(some 94), .bin .neq (.tmp 91) (.tmp 93), (some (89, false)), 0, none⟩,
    ⟨(some 95), .pick (.tmp 89) (.const (.bool true)) (.tmp 94), none, 0, none⟩,
    ⟨(some 96), .move (.tmp 95), none, 0, none⟩,
    ⟨(some 97), .fieldAddr 13 (.tmp 11), (some (96, false)), 0, none⟩,
    ⟨(some 98), .load false 1 (.tmp 97), (some (96, false)), 0, none⟩,
    ⟨(some 99), .fieldAddr 12 (.tmp 3), (some (96, false)), 0, none⟩,
    ⟨(some 100), .load false 1 (.tmp 99), (some (96, false)), 0, none⟩,
    ⟨(some 101), .bin .gtr (.tmp 98) (.tmp 100), (some (96, false)), 0, none⟩,
    ⟨(some 102), .pick (.tmp 96) (.const (.bool true)) (.tmp 101), none, 0, none⟩] [])) (.cond (.tmp 102) (.seq (.region 0 [
    ⟨(some 6), .move (.const (.bool false)), none, 0, none⟩] []) (.ret)) (.skip))) (.seq (.region 0 [
    ⟨(some 103), .fieldAddr 13 (.tmp 11), none, 0, none⟩,
    ⟨(some 104), .load false 1 (.tmp 103), none, 0, none⟩,
    ⟨(some 7), .move (.tmp 104), none, 0, none⟩] []) (.region 0 [
    ⟨(some 105), .load true 18 (.tmp 11), none, 0, none⟩,
    ⟨none, .store 18 (.tmp 4) (.tmp 105), none, 0, none⟩] [])))))))) (.region 0 [
    ⟨(some 106), .bin .add (.tmp 45) (.const (.int .i64 (1))), none, 0, none⟩,
    ⟨(some 45), .move (.tmp 106), none, 0, none⟩] []))))))) (.seq (.region 0 [
    ⟨(some 6), .move (.const (.bool true)), none, 0, none⟩] []) (.ret)))))), [.tmp 6], true⟩
def s6 : Sig := ⟨(.cons (.v .spec) (.cons (.v .job) (.cons (.v (.pair (.int .i64) (.pair (.list .call) (.int .i64)))) .nil))), [], ((.v .bool), []), []⟩
def l6_0 (g26 : Spec → Job → Int → Call → Option (Job × (Reply × Unit))) (ax2 : (Int × ((List Call) × Int))) (nx9 : ((Unit × (Unit × (Unit × (Int × (Int × Unit))))) × (Spec × (Job × ((Int × ((List Call) × Int)) × Unit)))) → Option Bool) (told10 : Int) (z11 : Int) (z12 : Spec) (z13 : Job) (z14 : (Int × ((List Call) × Int))) : Option Bool :=
  cond (decide (z11 < (List.length ax2.2.1 : Int)))
  (cond (decide (0 ≤ z11))
  (Option.bind (ax2.2.1[Int.toNat z11]?) fun y15 =>
  Option.bind (g26 z12 z13 z14.1 y15) fun r16 =>
  cond (!decide (r16.2.1.err = 0))
  (cond (!decide (r16.1.version = told10))
  (some false)
  (nx9 (((), (), (), told10, IntKind.wrap .i64 (z11 + 1), ()), (z12, z13, z14, ()))))
  (Option.bind (α := ((Unit × (Unit × (Unit × (Unit × (Bool × Unit))))) × (Spec × (Job × ((Int × ((List Call) × Int)) × (Job × Unit))))))
  (cond (!decide (y15.request.version = 0))
  (cond (!decide (y15.request.version = told10))
  (some (((), (), (), (), true, ()), (z12, z13, z14, r16.1, ())))
  (cond (!decide (r16.2.1.version = (IntKind.wrap .i64 (told10 + 1))))
  (some (((), (), (), (), true, ()), (z12, z13, z14, r16.1, ())))
  (cond (!decide (r16.1.version = (IntKind.wrap .i64 (told10 + 1))))
  (some (((), (), (), (), true, ()), (z12, z13, z14, r16.1, ())))
  (cond (!decide (r16.2.1.job = z13.id))
  (some (((), (), (), (), true, ()), (z12, z13, z14, r16.1, ())))
  (some (((), (), (), (), decide (z12.versions < r16.1.version), ()), (z12, z13, z14, r16.1, ())))))))
  (cond (!decide (r16.2.1.version = (IntKind.wrap .i64 (told10 + 1))))
  (some (((), (), (), (), true, ()), (z12, z13, z14, r16.1, ())))
  (cond (!decide (r16.1.version = (IntKind.wrap .i64 (told10 + 1))))
  (some (((), (), (), (), true, ()), (z12, z13, z14, r16.1, ())))
  (cond (!decide (r16.2.1.job = z13.id))
  (some (((), (), (), (), true, ()), (z12, z13, z14, r16.1, ())))
  (some (((), (), (), (), decide (z12.versions < r16.1.version), ()), (z12, z13, z14, r16.1, ()))))))) fun x17 =>
  cond x17.1.2.2.2.2.1
  (some false)
  (nx9 (((), (), (), x17.2.2.2.2.1.version, IntKind.wrap .i64 (z11 + 1), ()), (x17.2.1, x17.2.2.2.2.1, x17.2.2.2.1, ())))))
  (none))
  (some true)
def F6 (L : Lp) (g21 : Option Bool) (g22 : Spec → Option Bool) (g23 : Spec → Option Bool) (g24 : Job → Option Bool) (g25 : (List Call) → Option Bool) (g26 : Spec → Job → Int → Call → Option (Job × (Reply × Unit))) (as0 : Spec) (j1 : Job) (ax2 : (Int × ((List Call) × Int))) : Option Bool :=
  Option.bind (g21) fun r3 =>
  cond (!r3)
  (some false)
  (Option.bind (g22 as0) fun r4 =>
  cond (!r4)
  (some true)
  (Option.bind (g23 as0) fun r5 =>
  cond (!r5)
  (some true)
  (Option.bind (g24 j1) fun r6 =>
  cond (!r6)
  (some true)
  (cond (decide (20 < (List.length j1.after : Int)))
  (some true)
  (Option.bind (g25 ax2.2.1) fun r7 =>
  cond (!r7)
  (some true)
  (L (fun (s8 : ((Unit × (Unit × (Unit × (Int × (Int × Unit))))) × (Spec × (Job × ((Int × ((List Call) × Int)) × Unit))))) nx9 => l6_0 g26 ax2 nx9 s8.1.2.2.2.1 s8.1.2.2.2.2.1 s8.2.1 s8.2.2.1 s8.2.2.2.1) (((), (), (), j1.version, 0, ()), (as0, j1, ax2, ()))))))))
theorem e6 (L : Lp) (g21 : Option Bool) (g22 : Spec → Option Bool) (g23 : Spec → Option Bool) (g24 : Job → Option Bool) (g25 : (List Call) → Option Bool) (g26 : Spec → Job → Int → Call → Option (Job × (Reply × Unit))) (x : s6.args.den) (h : denH s6.heap) : nrun [⟨21, s21, fun x h => g21 ⟩, ⟨22, s22, fun x h => g22 x.1⟩, ⟨23, s23, fun x h => g23 x.1⟩, ⟨24, s24, fun x h => g24 x.1⟩, ⟨25, s25, fun x h => g25 x.1⟩, ⟨26, s26, fun x h => g26 x.1 x.2.1 x.2.2.1 x.2.2.2.1⟩] L n6 s6 x h = F6 L g21 g22 g23 g24 g25 g26 x.1 x.2.1 x.2.2.1 := by kernel_rfl
def f6 : Spec → Job → (Int × ((List Call) × Int)) → Option Bool := F6 (@LN LOOPS) f21 f22 f23 f24 f25 f26
@[reducible] def t6 : Ent := ⟨6, s6, fun x h => f6 x.1 x.2.1 x.2.2.1⟩
theorem k6 : chkNF Tryd.prog Tryd.f6 n6 = true := by kernel_rfl
theorem ok6 : NOk Tryd.prog t6 := NOk.body (T := [t21, t22, t23, t24, t25, t26]) mixed (nall_cons ok21 (nall_cons ok22 (nall_cons ok23 (nall_cons ok24 (nall_cons ok25 (nall_cons ok26 nall_nil)))))) (oneEach_of (by kernel_rfl)) Tryd.func6 k6 (by kernel_rfl) (fun x h => e6 _ _ _ _ _ _ _ x h)
end NM
end Go.Proofs.YtgccppgpbnmaaaaDoor
