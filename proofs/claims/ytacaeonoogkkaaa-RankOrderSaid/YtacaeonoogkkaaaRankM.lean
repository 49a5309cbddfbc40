/-
  The plain forms of the functions that the statement reaches, and that each is its function's body. (Written by program.)
-/
import Derived.Test.YtacaeonoogkkaaaRankMa
set_option linter.unusedVariables false
set_option maxRecDepth 100000
set_option maxHeartbeats 4000000
namespace Go.Proofs.Ytacaeonoogkkaaa
namespace NM
open AM Go.RowKit
/- drayage/drayageref22.Order -/
def n21 : NFunc := ⟨55, .seq (.region 2 [
    ⟨(some 3), .box 18 (.tmp 0), none, 0, none⟩,
    ⟨(some 5), .box 2 (.tmp 2), none, 1, none⟩,
    ⟨(some 6), .move (.const (.zsl)), none, 2, none⟩] []) (.seq (.region 0 [
    ⟨(some 7), .move (.const (.zsl)), none, 0, none⟩] []) (.seq (.seq (.region 0 [
    ⟨(some 8), .move (.const (.int .i64 (0))), none, 0, none⟩] []) (.block 0 (.pre [1, 3, 5, 7, 8] [.mat 7 18 true] (.loop [1, 3, 5, 7, 8] ⟨[(3, (.ptr 0 0 0)), (5, (.ptr 1 0 0)), (7, (.slw 2 18)), (8, (.v (.int .i64)))], [1], [.one false .spec, .one false (.pair (.int .i64) (.list (.int .i64))), .typed .job]⟩ (.seq (.seq (.region 0 [
    ⟨(some 11), .move (.tmp 8), none, 0, none⟩,
    ⟨(some 12), .move (.tmp 1), none, 0, none⟩,
    ⟨(some 13), .len (.tmp 12), none, 0, none⟩,
    ⟨(some 14), .bin .lss (.tmp 11) (.tmp 13), none, 0, none⟩] []) (.cond (.tmp 14) (.skip) (.exit 0))) (.seq (.block 1 (.seq (.region 0 [
    ⟨(some 17), .move (.tmp 7), none, 0, none⟩,
    ⟨(some 18), .len (.tmp 17), none, 0, none⟩,
    ⟨(some 9), .move (.tmp 18), none, 0, none⟩] []) (.seq (.block 2 (.loop [1, 3, 5, 7, 8, 9] ⟨[(3, (.ptr 0 0 0)), (5, (.ptr 1 0 0)), (7, (.slw 2 18)), (9, (.v (.int .i64)))], [1, 8], [.one false .spec, .one false (.pair (.int .i64) (.list (.int .i64))), .typed .job]⟩ (.seq (.seq (.region 4 [
    ⟨(some 19), .move (.tmp 9), none, 0, (some ([], none))⟩,
    ⟨(some 20), .bin .gtr (.tmp 19) (.const (.int .i64 (0))), none, 0, (some ([], none))⟩,
    ⟨(some 21), .move (.tmp 20), none, 0, (some ([], none))⟩,
    ⟨(some 22), .load true 18 (.tmp 3), (some (21, true)), 0, (some ([], none))⟩,
    ⟨(some 23), .move (.tmp 1), (some (21, true)), 0, (some ([], none))⟩,
    ⟨(some 24), .move (.tmp 8), (some (21, true)), 0, (some ([], none))⟩,
    ⟨(some 25), .indexSl 18 (.tmp 23) (.tmp 24), (some (21, true)), 0, (some ([], none))⟩,
    ⟨(some 26), .load true 18 (.tmp 25), (some (21, true)), 0, (some ([], none))⟩,
    ⟨(some 27), .move (.tmp 7), (some (21, true)), 0, (some ([], none))⟩,
    ⟨(some 28), .move (.tmp 9), (some (21, true)), 0, (some ([], none))⟩,
    ⟨(some 29), .bin .sub (.tmp 28) (.const (.int .i64 (1))), (some (21, true)), 0, (some ([], none))⟩,
    ⟨(some 30), .indexSl 18 (.tmp 27) (.tmp 29), (some (21, true)), 0, (some ([], none))⟩,
    ⟨(some 31), .load true 18 (.tmp 30), (some (21, true)), 0, (some ([], none))⟩,
    ⟨(some 32), .load true 2 (.tmp 5), (some (21, true)), 0, (some ([], none))⟩,
    ⟨(some 33), .call (.func 20) [(false, (.tmp 22)), (false, (.tmp 26)), (false, (.tmp 31)), (false, (.tmp 32))] false 4, (some (21, true)), 0, (some ([], none))⟩,
    ⟨(some 34), .pick (.tmp 21) (.tmp 33) (.const (.bool false)), none, 4, (some ([0, 1, 2, 3], none))⟩] []) (.cond (.tmp 34) (.skip) (.exit 2))) (.block 3 (.region 0 [
    ⟨(some 35), .move (.tmp 9), none, 0, none⟩,
    ⟨(some 36), .bin .sub (.tmp 35) (.const (.int .i64 (1))), none, 0, none⟩,
    ⟨(some 9), .move (.tmp 36), none, 0, none⟩] []))))) (.seq (.region 0 [
    ⟨(some 10), .move (.const (.zsl)), none, 0, none⟩] []) (.seq (.region 1 [
    ⟨(some 37), .move (.tmp 10), none, 0, none⟩,
    ⟨(some 38), .move (.tmp 7), none, 0, none⟩,
    ⟨(some 39), .move (.tmp 9), none, 0, none⟩,
    ⟨(some 40), .slice 18 (.tmp 38) none (some (.tmp 39)) none, none, 0, none⟩,
    ⟨(some 41), .append 18 152 true (.tmp 37) (.tmp 40), none, 0, none⟩,
    ⟨(some 10), .move (.tmp 41), none, 1, none⟩] []) (.seq (.region 2 [
    ⟨(some 42), .move (.tmp 10), none, 0, none⟩,
    ⟨(some 43), .move (.tmp 1), none, 0, none⟩,
    ⟨(some 44), .move (.tmp 8), none, 0, none⟩,
    ⟨(some 45), .indexSl 18 (.tmp 43) (.tmp 44), none, 0, none⟩,
    ⟨(some 46), .load true 18 (.tmp 45), none, 0, none⟩,
    ⟨(some 47), .buildSlice 18 1 true [.int .i64 (0), .int .i64 (0), .int .i64 (0), .int .i64 (0), .int .i64 (0), .int .i64 (0), .int .i64 (0), .int .i64 (0), .int .i64 (0), .zsl, .int .i64 (0), .bool false, .bool false, .int .i64 (0), .int .i64 (0), .int .i64 (0), .int .i64 (0), .int .i64 (0)] [(0, (.tmp 46))], none, 0, none⟩,
    ⟨(some 48), .append 18 152 true (.tmp 42) (.tmp 47), none, 1, none⟩,
    ⟨(some 10), .move (.tmp 48), none, 2, none⟩] []) (.region 1 [
    ⟨(some 49), .move (.tmp 10), none, 0, none⟩,
    ⟨(some 50), .move (.tmp 7), none, 0, none⟩,
    ⟨(some 51), .move (.tmp 9), none, 0, none⟩,
    ⟨(some 52), .slice 18 (.tmp 50) (some (.tmp 51)) none none, none, 0, none⟩,
    ⟨(some 53), .append 18 152 true (.tmp 49) (.tmp 52), none, 0, none⟩,
    ⟨(some 7), .move (.tmp 53), none, 1, none⟩] []))))))) (.region 0 [
    ⟨(some 15), .move (.tmp 8), none, 0, none⟩,
    ⟨(some 16), .bin .add (.tmp 15) (.const (.int .i64 (1))), none, 0, none⟩,
    ⟨(some 8), .move (.tmp 16), none, 0, none⟩] []))))))) (.seq (.region 0 [
    ⟨(some 54), .move (.tmp 7), none, 0, none⟩,
    ⟨(some 6), .move (.tmp 54), none, 0, none⟩] []) (.ret)))), [.tmp 6], true⟩
def s21 : Sig := ⟨(.cons (.v .spec) (.cons (.v (.list .job)) (.cons (.v (.pair (.int .i64) (.list (.int .i64)))) .nil))), [], ((.v (.list .job)), []), []⟩
def l21_0 (g20 : Spec → Job → Job → (Int × (List Int)) → Option Bool) (all1 : (List Job)) (nx4 : (((Unit × (Unit × (Unit × (Int × Unit)))) × (Spec × ((Int × (List Int)) × ((List Job) × Unit)))) → Option (List Job))) (i5 : Int) (nx10 : ((Unit × (Unit × (Unit × (Int × Unit)))) × (Spec × ((Int × (List Int)) × ((List Job) × Unit)))) → Option (List Job)) (zk11 : Int) (z12 : Spec) (z13 : (Int × (List Int))) (z14 : (List Job)) : Option (List Job) :=
  cond (decide (0 < zk11))
    (cond (decide (0 ≤ i5))
      (Option.bind (all1[Int.toNat i5]?) fun y15 =>
      cond (decide (0 ≤ (IntKind.wrap .i64 (zk11 - 1))))
        (cond (decide ((Int.toNat (IntKind.wrap .i64 (zk11 - 1))) < (List.length z14)))
          (Option.bind (z14[Int.toNat (IntKind.wrap .i64 (zk11 - 1))]?) fun y16 =>
          Option.bind (g20 z12 y15 y16 z13) fun r17 =>
          cond r17
            (nx10 (((), (), (), IntKind.wrap .i64 (zk11 - 1), ()), (z12, z13, z14, ())))
            (cond (decide (0 ≤ zk11))
              (cond (decide ((Int.toNat zk11) ≤ (List.length z14)))
                (cond (decide ((0 + (Int.toNat zk11)) ≤ (List.length z14)))
                  (cond (smallB (List.length (List.take (Int.toNat zk11) (List.drop 0 z14))) 152)
                    (cond (decide (0 ≤ i5))
                      (Option.bind (all1[Int.toNat i5]?) fun y18 =>
                      cond (smallB ((List.length ([] ++ (List.take (Int.toNat zk11) (List.drop 0 z14)))) + 1) 152)
                        (cond (decide (0 ≤ zk11))
                          (cond (decide ((Int.toNat zk11) ≤ (List.length z14)))
                            (cond ((decide ((Int.toNat zk11) = 0)) || (decide ((Int.toNat zk11) < (List.length z14))))
                              (cond (decide (((Int.toNat zk11) + ((List.length z14) - (Int.toNat zk11))) ≤ (List.length z14)))
                                (cond (smallB ((List.length (([] ++ (List.take (Int.toNat zk11) (List.drop 0 z14))) ++ [y18])) + (List.length (List.take ((List.length z14) - (Int.toNat zk11)) (List.drop (Int.toNat zk11) z14)))) 152)
                                  (nx4 (((), (), (), IntKind.wrap .i64 (i5 + 1), ()), (z12, z13, (([] ++ (List.take (Int.toNat zk11) (List.drop 0 z14))) ++ [y18]) ++ (List.take ((List.length z14) - (Int.toNat zk11)) (List.drop (Int.toNat zk11) z14)), ())))
                                  (none))
                                (none))
                              (cond (smallB ((List.length (([] ++ (List.take (Int.toNat zk11) (List.drop 0 z14))) ++ [y18])) + 0) 152)
                                (nx4 (((), (), (), IntKind.wrap .i64 (i5 + 1), ()), (z12, z13, (([] ++ (List.take (Int.toNat zk11) (List.drop 0 z14))) ++ [y18]) ++ [], ())))
                                (none)))
                            (none))
                          (none))
                        (none))
                      (none))
                    (none))
                  (none))
                (none))
              (none)))
          (none))
        (none))
      (none))
    (cond (decide (0 ≤ zk11))
      (cond (decide ((Int.toNat zk11) ≤ (List.length z14)))
        (cond (decide ((0 + (Int.toNat zk11)) ≤ (List.length z14)))
          (cond (smallB (List.length (List.take (Int.toNat zk11) (List.drop 0 z14))) 152)
            (cond (decide (0 ≤ i5))
              (Option.bind (all1[Int.toNat i5]?) fun y19 =>
              cond (smallB ((List.length ([] ++ (List.take (Int.toNat zk11) (List.drop 0 z14)))) + 1) 152)
                (cond (decide (0 ≤ zk11))
                  (cond (decide ((Int.toNat zk11) ≤ (List.length z14)))
                    (cond ((decide ((Int.toNat zk11) = 0)) || (decide ((Int.toNat zk11) < (List.length z14))))
                      (cond (decide (((Int.toNat zk11) + ((List.length z14) - (Int.toNat zk11))) ≤ (List.length z14)))
                        (cond (smallB ((List.length (([] ++ (List.take (Int.toNat zk11) (List.drop 0 z14))) ++ [y19])) + (List.length (List.take ((List.length z14) - (Int.toNat zk11)) (List.drop (Int.toNat zk11) z14)))) 152)
                          (nx4 (((), (), (), IntKind.wrap .i64 (i5 + 1), ()), (z12, z13, (([] ++ (List.take (Int.toNat zk11) (List.drop 0 z14))) ++ [y19]) ++ (List.take ((List.length z14) - (Int.toNat zk11)) (List.drop (Int.toNat zk11) z14)), ())))
                          (none))
                        (none))
                      (cond (smallB ((List.length (([] ++ (List.take (Int.toNat zk11) (List.drop 0 z14))) ++ [y19])) + 0) 152)
                        (nx4 (((), (), (), IntKind.wrap .i64 (i5 + 1), ()), (z12, z13, (([] ++ (List.take (Int.toNat zk11) (List.drop 0 z14))) ++ [y19]) ++ [], ())))
                        (none)))
                    (none))
                  (none))
                (none))
              (none))
            (none))
          (none))
        (none))
      (none))
def l21_1 (L : Lp) (g20 : Spec → Job → Job → (Int × (List Int)) → Option Bool) (all1 : (List Job)) (nx4 : ((Unit × (Unit × (Unit × (Int × Unit)))) × (Spec × ((Int × (List Int)) × ((List Job) × Unit)))) → Option (List Job)) (i5 : Int) (z6 : Spec) (z7 : (Int × (List Int))) (z8 : (List Job)) : Option (List Job) :=
  cond (decide (i5 < (List.length all1 : Int)))
    (L (fun (s9 : ((Unit × (Unit × (Unit × (Int × Unit)))) × (Spec × ((Int × (List Int)) × ((List Job) × Unit))))) nx10 => l21_0 g20 all1 nx4 i5 nx10 s9.1.2.2.2.1 s9.2.1 s9.2.2.1 s9.2.2.2.1) (((), (), (), (List.length z8 : Int), ()), (z6, z7, z8, ())))
    (some z8)
def F21 (L : Lp) (g20 : Spec → Job → Job → (Int × (List Int)) → Option Bool) (as0 : Spec) (all1 : (List Job)) (ax2 : (Int × (List Int))) : Option (List Job) :=
  L (fun (s3 : ((Unit × (Unit × (Unit × (Int × Unit)))) × (Spec × ((Int × (List Int)) × ((List Job) × Unit))))) nx4 => l21_1 L g20 all1 nx4 s3.1.2.2.2.1 s3.2.1 s3.2.2.1 s3.2.2.2.1) (((), (), (), 0, ()), (as0, ax2, [], ()))
theorem e21 (L : Lp) (g20 : Spec → Job → Job → (Int × (List Int)) → Option Bool) (x : s21.args.den) (h : denH s21.heap) : nrun [⟨20, s20, fun x h => g20 x.1 x.2.1 x.2.2.1 x.2.2.2.1⟩] L n21 s21 x h = F21 L g20 x.1 x.2.1 x.2.2.1 := by kernel_rfl
def f21 : Spec → (List Job) → (Int × (List Int)) → Option (List Job) := F21 (@LN LOOPS) f20
@[reducible] def t21 : Ent := ⟨21, s21, fun x h => f21 x.1 x.2.1 x.2.2.1⟩
theorem k21 : chkNF Try.prog Try.f21 n21 = true := by kernel_rfl
theorem ok21 : NOk Try.prog t21 := NOk.body (T := [t20]) mixed (nall_cons ok20 nall_nil) (oneEach_of (by kernel_rfl)) Try.func21 k21 (by kernel_rfl) (fun x h => e21 _ _ x h)
/- drayage/drayageref16.Same -/
def n68 : NFunc := ⟨127, .seq (.region 2 [
    ⟨(some 2), .box 18 (.tmp 0), none, 0, none⟩,
    ⟨(some 3), .box 18 (.tmp 1), none, 1, none⟩,
    ⟨(some 4), .move (.const (.bool false)), none, 2, none⟩] []) (.seq (.seq (.region 0 [
    ⟨(some 6), .fieldAddr 9 (.tmp 2), none, 0, none⟩,
    ⟨(some 7), .load false 1 (.tmp 6), none, 0, none⟩,
    ⟨(some 8), .len (.tmp 7), none, 0, none⟩,
    ⟨(some 9), .fieldAddr 9 (.tmp 3), none, 0, none⟩,
    ⟨(some 10), .load false 1 (.tmp 9), none, 0, none⟩,
    ⟨(some 11), .len (.tmp 10), none, 0, none⟩,
    ⟨(some 12), .bin .neq (.tmp 8) (.tmp 11), none, 0, none⟩] []) (.cond (.tmp 12) (.seq (.region 0 [
    ⟨(some 4), .move (.const (.bool false)), none, 0, none⟩] []) (.ret)) (.skip))) (.seq (.seq (.region 0 [
    ⟨(some 5), .move (.const (.int .i64 (0))), none, 0, none⟩] []) (.block 0 (.loop [2, 3, 5] ⟨[(2, (.ptr 0 0 0)), (3, (.ptr 1 0 0)), (5, (.v (.int .i64)))], [], [.one false .job, .one false .job]⟩ (.seq (.seq (.region 0 [
    ⟨(some 13), .move (.tmp 5), none, 0, none⟩,
    ⟨(some 14), .fieldAddr 9 (.tmp 2), none, 0, none⟩,
    ⟨(some 15), .load false 1 (.tmp 14), none, 0, none⟩,
    ⟨(some 16), .len (.tmp 15), none, 0, none⟩,
    ⟨(some 17), .bin .lss (.tmp 13) (.tmp 16), none, 0, none⟩] []) (.cond (.tmp 17) (.skip) (.exit 0))) (.seq (.block 1 (.seq (.region 0 [
    ⟨(some 20), .fieldAddr 9 (.tmp 2), none, 0, (some ([], none))⟩,
    ⟨(some 21), .load false 1 (.tmp 20), none, 0, (some ([], none))⟩,
    ⟨(some 22), .move (.tmp 5), none, 0, (some ([], none))⟩,
    ⟨(some 23), .indexSl 2 (.tmp 21) (.tmp 22), none, 0, (some ([], none))⟩,
    ⟨(some 24), .load true 2 (.tmp 23), none, 0, (some ([], none))⟩,
    ⟨(some 25), .fieldAddr 9 (.tmp 3), none, 0, (some ([], none))⟩,
    ⟨(some 26), .load false 1 (.tmp 25), none, 0, (some ([], none))⟩,
    ⟨(some 27), .move (.tmp 5), none, 0, (some ([], none))⟩,
    ⟨(some 28), .indexSl 2 (.tmp 26) (.tmp 27), none, 0, (some ([], none))⟩,
    ⟨(some 29), .load true 2 (.tmp 28), none, 0, (some ([], none))⟩,
    ⟨(some 30), .eqAgg (true, [.int .i64, .bool]) (.tmp 24) (.tmp 29), none, 0, (some ([], none))⟩] []) (.cond (.tmp 30) (.seq (.region 0 [
    ⟨(some 4), .move (.const (.bool false)), none, 0, none⟩] []) (.ret)) (.skip)))) (.region 0 [
    ⟨(some 18), .move (.tmp 5), none, 0, none⟩,
    ⟨(some 19), .bin .add (.tmp 18) (.const (.int .i64 (1))), none, 0, none⟩,
    ⟨(some 5), .move (.tmp 19), none, 0, none⟩] [])))))) (.seq (.region 0 [
    ⟨(some 31), .fieldAddr 0 (.tmp 2), none, 0, none⟩,
    ⟨(some 32), .load false 1 (.tmp 31), none, 0, none⟩,
    ⟨(some 33), .fieldAddr 0 (.tmp 3), none, 0, none⟩,
    ⟨(some 34), .load false 1 (.tmp 33), none, 0, none⟩,
    ⟨(some 35), .bin .eql (.tmp 32) (.tmp 34), none, 0, none⟩,
    ⟨(some 36), .move (.tmp 35), none, 0, none⟩,
    ⟨(some 37), .fieldAddr 1 (.tmp 2), (some (36, true)), 0, none⟩,
    ⟨(some 38), .load false 1 (.tmp 37), (some (36, true)), 0, none⟩,
    ⟨(some 39), .fieldAddr 1 (.tmp 3), (some (36, true)), 0, none⟩,
    ⟨(some 40), .load false 1 (.tmp 39), (some (36, true)), 0, none⟩,
    ⟨(some 41), .bin .eql (.tmp 38) (.tmp 40), (some (36, true)), 0, none⟩,
    ⟨(some 42), .pick (.tmp 36) (.tmp 41) (.const (.bool false)), none, 0, none⟩,
    ⟨(some 43), .move (.tmp 42), none, 0, none⟩,
    ⟨(some 44), .fieldAddr 2 (.tmp 2), (some (43, true)), 0, none⟩,
    ⟨(some 45), .load false 1 (.tmp 44), (some (43, true)), 0, none⟩,
    ⟨(some 46), .fieldAddr 2 (.tmp 3), (some (43, true)), 0, none⟩,
    ⟨(some 47), .load false 1 (.tmp 46), (some (43, true)), 0, none⟩,
    ⟨(some 48), .bin .eql (.tmp 45) (.tmp 47), (some (43, true)), 0, none⟩,
    ⟨(some 49), .pick (.tmp 43) (.tmp 48) (.const (.bool false)), none, 0, none⟩,
    ⟨(some 50), .move (.tmp 49), none, 0, none⟩,
    ⟨(some 51), .fieldAddr 3 (.tmp 2), (some (50, true)), 0, none⟩,
    ⟨(some 52), .load false 1 (.tmp 51), (some (50, true)), 0, none⟩,
    ⟨(some 53), .fieldAddr 3 (.tmp 3), (some (50, true)), 0, none⟩,
    ⟨(some 54), .load false 1 (.tmp 53), (some (50, true)), 0, none⟩,
    ⟨(some 55), .bin .eql (.tmp 52) (.tmp 54), (some (50, true)), 0, none⟩,
    ⟨(some 56), .pick (.tmp 50) (.tmp 55) (.const (.bool false)), none, 0, none⟩,
    ⟨(some 57), .move (.tmp 56), none, 0, none⟩,
    ⟨(some 58), .fieldAddr 4 (.tmp 2), (some (57, true)), 0, none⟩,
    ⟨(some 59), .load true 4 (.tmp 58), (some (57, true)), 0, none⟩,
    ⟨(some 60), .fieldAddr 4 (.tmp 3), (some (57, true)), 0, none⟩,
    ⟨(some 61), .load true 4 (.tmp 60), (some (57, true)), 0, none⟩,
    ⟨(some 62), .eqAgg (false, [.int .i64, .int .i64, .int .i64, .int .i64]) (.tmp 59) (.tmp 61), (some (57, true)), 0, none⟩,
    ⟨(some 63), .pick (.tmp 57) (.tmp 62) (.const (.bool false)), none, 0, none⟩,
    ⟨(some 64), .move (.tmp 63), none, 0, none⟩,
    ⟨(some 65), .fieldAddr 8 (.tmp 2), (some (64, true)), 0, none⟩,
    ⟨(some 66), .load false 1 (.tmp 65), (some (64, true)), 0, none⟩,
    ⟨(some 67), .fieldAddr 8 (.tmp 3), (some (64, true)), 0, none⟩,
    ⟨(some 68), .load false 1 (.tmp 67), (some (64, true)), 0, none⟩,
    ⟨(some 69), .bin .eql (.tmp 66) (.tmp 68), (some (64, true)), 0, none⟩,
    ⟨(some 70), .pick (.tmp 64) (.tmp 69) (.const (.bool false)), none, 0, none⟩,
    ⟨(some 71), .move (.tmp 70), none, 0, none⟩,
    ⟨(some 72), .fieldAddr 10 (.tmp 2), (some (71, true)), 0, none⟩,
    ⟨(some 73), .load false 1 (.tmp 72), (some (71, true)), 0, none⟩,
    ⟨(some 74), .fieldAddr 10 (.tmp 3), (some (71, true)), 0, none⟩,
    ⟨(some 75), .load false 1 (.tmp 74), (some (71, true)), 0, none⟩,
    ⟨(some 76), .bin .eql (.tmp 73) (.tmp 75), (some (71, true)), 0, none⟩,
    ⟨(some 77), .pick (.tmp 71) (.tmp 76) (.const (.bool false)), none, 0, none⟩,
    ⟨(some 78), .move (.tmp 77), none, 0, none⟩,
    ⟨(some 79), .fieldAddr 11 (.tmp 2), (some (78, true)), 0, none⟩,
    ⟨(some 80), .load false 1 (.tmp 79), (some (78, true)), 0, none⟩,
    ⟨(some 81), .fieldAddr 11 (.tmp 3), (some (78, true)), 0, none⟩,
    ⟨(some 82), .load false 1 (.tmp 81), (some (78, true)), 0, none⟩,
    ⟨(some 83), .eqB false (.tmp 80) (.tmp 82), (some (78, true)), 0, none⟩,
    ⟨(some 84), .pick (.tmp 78) (.tmp 83) (.const (.bool false)), none, 0, none⟩,
    ⟨(some 85), .move (.tmp 84), none, 0, none⟩,
    ⟨(some 86), .fieldAddr 12 (.tmp 2), (some (85, true)), 0, none⟩,
    ⟨(some 87), .load false 1 (.tmp 86), (some (85, true)), 0, none⟩,
    ⟨(some 88), .fieldAddr 12 (.tmp 3), (some (85, true)), 0, none⟩,
    ⟨(some 89), .load false 1 (.tmp 88), (some (85, true)), 0, none⟩,
    ⟨(some 90), .eqB false (.tmp 87) (.tmp 89), (some (85, true)), 0, none⟩,
    ⟨(some 91), .pick (.tmp 85) (.tmp 90) (.const (.bool false)), none, 0, none⟩,
    ⟨(some 92), .move (.tmp 91), none, 0, none⟩,
    ⟨(some 93), .fieldAddr 13 (.tmp 2), (some (92, true)), 0, none⟩,
    ⟨(some 94), .load false 1 (.tmp 93), (some (92, true)), 0, none⟩,
    ⟨(some 95), .fieldAddr 13 (.tmp 3), (some (92, true)), 0, none⟩,
    ⟨(some 96), .load false 1 (.tmp 95), (some (92, true)), 0, none⟩,
    ⟨(some 97), .bin .eql (.tmp 94) (.tmp 96), (some (92, true)), 0, none⟩,
    ⟨(some 98), .pick (.tmp 92) (.tmp 97) (.const (.bool false)), none, 0, none⟩,
    ⟨(some 99), .move (.tmp 98), none, 0, none⟩,
    ⟨(some 100), .fieldAddr 14 (.tmp 2), (some (99, true)), 0, none⟩,
    ⟨(some 101), .load false 1 (.tmp 100), (some (99, true)), 0, none⟩,
    ⟨(some 102), .fieldAddr 14 (.tmp 3), (some (99, true)), 0, none⟩,
    ⟨(some 103), .load false 1 (.tmp 102), (some (99, true)), 0, none⟩,
    ⟨(some 104), .bin .eql (.tmp 101) (.tmp 103), (some (99, true)), 0, none⟩,
    ⟨(some 105), .pick (.tmp 99) (.tmp 104) (.const (.bool false)), none, 0, none⟩,
    ⟨(some 106), .move (.tmp 105), none, 0, none⟩,
    ⟨(some 107), .fieldAddr 15 (.tmp 2), (some (106, true)), 0, none⟩,
    ⟨(some 108), .load false 1 (.tmp 107), (some (106, true)), 0, none⟩,
    ⟨(some 109), .fieldAddr 15 (.tmp 3), (some (106, true)), 0, none⟩,
    ⟨(some 110), .load false 1 (.tmp 109), (some (106, true)), 0, none⟩,
    ⟨(some 111), .bin .eql (.tmp 108) (.tmp 110), (some (106, true)), 0, none⟩,
    ⟨(some 112), .pick (.tmp 106) (.tmp 111) (.const (.bool false)), none, 0, none⟩,
    ⟨(some 113), .move (.tmp 112), none, 0, none⟩,
    ⟨(some 114), .fieldAddr 16 (.tmp 2), (some (113, true)), 0, none⟩,
    ⟨(some 115), .load false 1 (.tmp 114), (some (113, true)), 0, none⟩,
    ⟨(some 116), .fieldAddr 16 (.tmp 3), (some (113, true)), 0, none⟩,
    ⟨(some 117), .load false 1 (.tmp 116), (some (113, true)), 0, none⟩,
    ⟨(some 118), .bin .eql (.tmp 115) (.tmp 117), (some (113, true)), 0, none⟩,
    ⟨(some 119), .pick (.tmp 113) (.tmp 118) (.const (.bool false)), none, 0, none⟩,
    ⟨(some 120), .move (.tmp 119), none, 0, none⟩,
    ⟨(some 121), .fieldAddr 17 (.tmp 2), (some (120, true)), 0, none⟩,
    ⟨(some 122), .load false 1 (.tmp 121), (some (120, true)), 0, none⟩,
    ⟨(some 123), .fieldAddr 17 (.tmp 3), (some (120, true)), 0, none⟩,
    ⟨(some 124), .load false 1 (.tmp 123), (some (120, true)), 0, none⟩,
    ⟨(some 125), .bin .eql (.tmp 122) (.tmp 124), (some (120, true)), 0, none⟩,
    ⟨(some 126), .pick (.tmp 120) (.tmp 125) (.const (.bool false)), none, 0, none⟩,
    ⟨(some 4), .move (.tmp 126), none, 0, none⟩] []) (.ret)))), [.tmp 4], true⟩
def s68 : Sig := ⟨(.cons (.v .job) (.cons (.v .job) .nil)), [], ((.v .bool), []), []⟩
def l68_0  (nx3 : ((Unit × (Unit × (Int × Unit))) × (Job × (Job × Unit))) → Option Bool) (i4 : Int) (z5 : Job) (z6 : Job) : Option Bool :=
  cond (decide (i4 < (List.length z5.after : Int)))
    (cond (decide (0 ≤ i4))
      (Option.bind (z5.after[Int.toNat i4]?) fun y7 =>
      cond (decide (0 ≤ i4))
        (Option.bind (z6.after[Int.toNat i4]?) fun y8 =>
        cond (!((decide (y7.job = y8.job)) && ((y7.ok == y8.ok) && true)))
          (some false)
          (nx3 (((), (), IntKind.wrap .i64 (i4 + 1), ()), (z5, z6, ()))))
        (none))
      (none))
    (cond (decide (z5.id = z6.id))
      (cond (decide (z5.user = z6.user))
        (cond (decide (z5.queue = z6.queue))
          (cond (decide (z5.many = z6.many))
            (cond ((decide (z5.need.cpu = z6.need.cpu)) && ((decide (z5.need.mem = z6.need.mem)) && ((decide (z5.need.gpu = z6.need.gpu)) && ((decide (z5.need.lic = z6.need.lic)) && true))))
              (cond (decide (z5.wall = z6.wall))
                (cond (decide (z5.state = z6.state))
                  (cond (z5.ok == z6.ok)
                    (cond (z5.kill == z6.kill)
                      (cond (decide (z5.version = z6.version))
                        (cond (decide (z5.born = z6.born))
                          (cond (decide (z5.start = z6.start))
                            (cond (decide (z5.fin = z6.fin))
                              (some (decide (z5.array = z6.array)))
                              (some false))
                            (some false))
                          (some false))
                        (some false))
                      (some false))
                    (some false))
                  (some false))
                (some false))
              (some false))
            (some false))
          (some false))
        (some false))
      (some false))
def F68 (L : Lp)  (a0 : Job) (b1 : Job) : Option Bool :=
  cond (!decide ((List.length a0.after : Int) = (List.length b1.after : Int)))
    (some false)
    (L (fun (s2 : ((Unit × (Unit × (Int × Unit))) × (Job × (Job × Unit)))) nx3 => l68_0 nx3 s2.1.2.2.1 s2.2.1 s2.2.2.1) (((), (), 0, ()), (a0, b1, ())))
theorem e68 (L : Lp)  (x : s68.args.den) (h : denH s68.heap) : nrun [] L n68 s68 x h = F68 L  x.1 x.2.1 := by kernel_rfl
def f68 : Job → Job → Option Bool := F68 (@LN LOOPS) 
@[reducible] def t68 : Ent := ⟨68, s68, fun x h => f68 x.1 x.2.1⟩
theorem k68 : chkNF Try.prog Try.f68 n68 = true := by kernel_rfl
theorem ok68 : NOk Try.prog t68 := NOk.body (T := []) mixed nall_nil (oneEach_of (by kernel_rfl)) Try.func68 k68 (by kernel_rfl) (fun x h => e68 _  x h)
/- drayage/drayageref18.Same -/
def n18 : NFunc := ⟨27, .seq (.region 0 [
    ⟨(some 4), .move (.const (.bool false)), none, 0, none⟩] []) (.seq (.seq (.region 0 [
    ⟨(some 6), .move (.tmp 0), none, 0, none⟩,
    ⟨(some 7), .len (.tmp 6), none, 0, none⟩,
    ⟨(some 8), .move (.tmp 1), none, 0, none⟩,
    ⟨(some 9), .len (.tmp 8), none, 0, none⟩,
    ⟨(some 10), .bin .neq (.tmp 7) (.tmp 9), none, 0, none⟩] []) (.cond (.tmp 10) (.seq (.region 0 [
    ⟨(some 4), .move (.const (.bool false)), none, 0, none⟩] []) (.ret)) (.skip))) (.seq (.seq (.region 0 [
    ⟨(some 5), .move (.const (.int .i64 (0))), none, 0, none⟩] []) (.block 0 (.loop [0, 1, 5] ⟨[(5, (.v (.int .i64)))], [0, 1], []⟩ (.seq (.seq (.region 0 [
    ⟨(some 11), .move (.tmp 5), none, 0, none⟩,
    ⟨(some 12), .move (.tmp 0), none, 0, none⟩,
    ⟨(some 13), .len (.tmp 12), none, 0, none⟩,
    ⟨(some 14), .bin .lss (.tmp 11) (.tmp 13), none, 0, none⟩] []) (.cond (.tmp 14) (.skip) (.exit 0))) (.seq (.block 1 (.seq (.region 4 [
    ⟨(some 17), .move (.tmp 0), none, 0, (some ([], none))⟩,
    ⟨(some 18), .move (.tmp 5), none, 0, (some ([], none))⟩,
    ⟨(some 19), .indexSl 18 (.tmp 17) (.tmp 18), none, 0, (some ([], none))⟩,
    ⟨(some 20), .load true 18 (.tmp 19), none, 0, (some ([], none))⟩,
    ⟨(some 21), .move (.tmp 1), none, 0, (some ([], none))⟩,
    ⟨(some 22), .move (.tmp 5), none, 0, (some ([], none))⟩,
    ⟨(some 23), .indexSl 18 (.tmp 21) (.tmp 22), none, 0, (some ([], none))⟩,
    ⟨(some 24), .load true 18 (.tmp 23), none, 0, (some ([], none))⟩,
    ⟨(some 25), .call (.func 68) [(false, (.tmp 20)), (false, (.tmp 24))] false 4, none, 0, (some ([], none))⟩,
    ⟨(some 26), .un .not (.tmp 25), none, 4, (some ([0, 1, 2, 3], none))⟩] []) (.cond (.tmp 26) (.seq (.region 0 [
    ⟨(some 4), .move (.const (.bool false)), none, 0, none⟩] []) (.ret)) (.skip)))) (.region 0 [
    ⟨(some 15), .move (.tmp 5), none, 0, none⟩,
    ⟨(some 16), .bin .add (.tmp 15) (.const (.int .i64 (1))), none, 0, none⟩,
    ⟨(some 5), .move (.tmp 16), none, 0, none⟩] [])))))) (.seq (.region 0 [
    ⟨(some 4), .move (.const (.bool true)), none, 0, none⟩] []) (.ret)))), [.tmp 4], true⟩
def s18 : Sig := ⟨(.cons (.v (.list .job)) (.cons (.v (.list .job)) .nil)), [], ((.v .bool), []), []⟩
def l18_0 (g68 : Job → Job → Option Bool) (a0 : (List Job)) (b1 : (List Job)) (nx3 : ((Int × Unit) × Unit) → Option Bool) (i4 : Int) : Option Bool :=
  cond (decide (i4 < (List.length a0 : Int)))
    (cond (decide (0 ≤ i4))
      (Option.bind (a0[Int.toNat i4]?) fun y5 =>
      cond (decide (0 ≤ i4))
        (Option.bind (b1[Int.toNat i4]?) fun y6 =>
        Option.bind (g68 y5 y6) fun r7 =>
        cond (!r7)
          (some false)
          (nx3 ((IntKind.wrap .i64 (i4 + 1), ()), ())))
        (none))
      (none))
    (some true)
def F18 (L : Lp) (g68 : Job → Job → Option Bool) (a0 : (List Job)) (b1 : (List Job)) : Option Bool :=
  cond (!decide ((List.length a0 : Int) = (List.length b1 : Int)))
    (some false)
    (L (fun (s2 : ((Int × Unit) × Unit)) nx3 => l18_0 g68 a0 b1 nx3 s2.1.1) ((0, ()), ()))
theorem e18 (L : Lp) (g68 : Job → Job → Option Bool) (x : s18.args.den) (h : denH s18.heap) : nrun [⟨68, s68, fun x h => g68 x.1 x.2.1⟩] L n18 s18 x h = F18 L g68 x.1 x.2.1 := by kernel_rfl
def f18 : (List Job) → (List Job) → Option Bool := F18 (@LN LOOPS) f68
@[reducible] def t18 : Ent := ⟨18, s18, fun x h => f18 x.1 x.2.1⟩
theorem k18 : chkNF Try.prog Try.f18 n18 = true := by kernel_rfl
theorem ok18 : NOk Try.prog t18 := NOk.body (T := [t68]) mixed (nall_cons ok68 nall_nil) (oneEach_of (by kernel_rfl)) Try.func18 k18 (by kernel_rfl) (fun x h => e18 _ _ x h)
/- drayage/drayagelaw22.RankOrder -/
def n4 : NFunc := ⟨87, .seq (.region 2 [
    ⟨(some 3), .box 18 (.tmp 0), none, 0, none⟩,
    ⟨(some 5), .box 2 (.tmp 2), none, 1, none⟩,
    ⟨(some 6), .move (.const (.bool false)), none, 2, none⟩] []) (.seq (.seq (.region 4 [
    ⟨(some 9), .call (.func 13) [] false 4, none, 0, none⟩,
    ⟨(some 10), .un .not (.tmp 9), none, 4, none⟩] []) (.cond (.tmp 10) (.seq (.region 0 [
    ⟨(some 6), .move (.const (.bool false)), none, 0, none⟩] []) (.ret)) (.skip))) (.seq (.seq (.region 8 [
    ⟨(some 11), .load true 18 (.tmp 3), none, 0, none⟩,
    ⟨(some 12), .call (.func 14) [(false, (.tmp 11))] false 4, none, 0, none⟩,
    ⟨(some 13), .un .not (.tmp 12), none, 4, none⟩,
    ⟨(some 14), .move (.tmp 13), none, 4, none⟩,
    ⟨(some 15), .move (.tmp 1), (some (14, false)), 4, none⟩,
    ⟨(some 16), .call (.func 15) [(false, (.tmp 15))] false 4, (some (14, false)), 4, none⟩,
    ⟨(some 17), .un .not (.tmp 16), (some (14, false)), 8, none⟩,
    ⟨(some 18), .pick (.tmp 14) (.const (.bool true)) (.tmp 17), none, 8, none⟩,
    ⟨(some 19), .move (.tmp 18), none, 8, none⟩,
    ⟨(some 20), .fieldAddr 1 (.tmp 5), (some (19, false)), 8, none⟩,
    ⟨(some 21), .load false 1 (.tmp 20), (some (19, false)), 8, none⟩,
    ⟨(some 22), .len (.tmp 21), (some (19, false)), 8, none⟩,
    ⟨(some 23), .bin .gtr (.tmp 22) (.const (.int .i64 (20))), (some (19, false)), 8, none⟩,
    ⟨(some 24), .pick (.tmp 19) (.const (.bool true)) (.tmp 23), none, 8, none⟩] []) (.cond (.tmp 24) (.seq (.region 0 [
    ⟨(some 6), .move (.const (.bool true)), none, 0, none⟩] []) (.ret)) (.skip))) (.seq (.region 1 [
    ⟨(some 25), .fieldAddr 0 (.tmp 5), none, 0, none⟩,
    ⟨(some 26), .load false 1 (.tmp 25), none, 0, none⟩,
    ⟨(some 27), .fieldAddr 1 (.tmp 5), none, 0, none⟩,
    ⟨(some 28), .load false 1 (.tmp 27), none, 0, none⟩,
    ⟨(some 29), .build [.int .i64 (0), .zsl] [(0, 1, (.tmp 26)), (1, 1, (.tmp 28))], none, 0, none⟩,
    ⟨(some 7), .alloc [.int .i64 (0), .zsl], none, 0, none⟩,
    ⟨none, .store 2 (.tmp 7) (.tmp 29), none, 1, none⟩] []) (.seq (.region 4 [
    ⟨(some 30), .load true 18 (.tmp 3), none, 0, none⟩,
    ⟨(some 31), .move (.tmp 1), none, 0, none⟩,
    ⟨(some 32), .load true 2 (.tmp 7), none, 0, none⟩,
    ⟨(some 33), .call (.func 17) [(false, (.tmp 30)), (false, (.tmp 31)), (false, (.tmp 32))] false 4, none, 0, none⟩,
    ⟨(some 8), .move (.tmp 33), none, 4, none⟩] []) (.seq (.seq (.region 4 [
    ⟨(some 34), .load true 18 (.tmp 3), none, 0, none⟩,
    ⟨(some 35), .call (.func 16) [(false, (.tmp 34))] false 4, none, 0, none⟩,
    ⟨(some 36), .un .not (.tmp 35), none, 4, none⟩] []) (.cond (.tmp 36) (.seq (.region 4 [
    ⟨(some 37), .move (.tmp 8), none, 0, (some ([], none))⟩,
    ⟨(some 38), .len (.tmp 37), none, 0, (some ([], none))⟩,
    ⟨(some 39), .bin .eql (.tmp 38) (.const (.int .i64 (0))), none, 0, (some ([], none))⟩,
    ⟨(some 40), .move (.tmp 39), none, 0, (some ([], none))⟩,
    ⟨(some 41), .move (.tmp 1), (some (40, true)), 0, (some ([], none))⟩,
    ⟨(some 42), .len (.tmp 41), (some (40, true)), 0, (some ([], none))⟩,
    ⟨(some 43), .bin .lss (.tmp 42) (.const (.int .i64 (2))), (some (40, true)), 0, (some ([], none))⟩,
    ⟨(some 44), .move (.tmp 43), (some (40, true)), 0, (some ([], none))⟩,
    ⟨(some 45), .load true 18 (.tmp 3), (some (44, false)), 0, (some ([], none))⟩,
    ⟨(some 46), .move (.tmp 1), (some (44, false)), 0, (some ([], none))⟩,
    ⟨(some 47), .indexSl 18 (.tmp 46) (.const (.int .i64 (0))), (some (44, false)), 0, (some ([], none))⟩,
    ⟨(some 48), .load true 18 (.tmp 47), (some (44, false)), 0, (some ([], none))⟩,
    ⟨(some 49), .move (.tmp 1), (some (44, false)), 0, (some ([], none))⟩,
    ⟨(some 50), .indexSl 18 (.tmp 49) (.const (.int .i64 (1))), (some (44, false)), 0, (some ([], none))⟩,
    ⟨(some 51), .load true 18 (.tmp 50), (some (44, false)), 0, (some ([], none))⟩,
    ⟨(some 52), .load true 2 (.tmp 7), (some (44, false)), 0, (some ([], none))⟩,
    ⟨(some 53), .call (.func 19) [(false, (.tmp 45)), (false, (.tmp 48)), (false, (.tmp 51)), (false, (.tmp 52))] false 4, (some (44, false)), 0, (some ([], none))⟩,
    ⟨(some 54), .un .not (.tmp 53), (some (44, false)), 4, (some ([0, 1, 2, 3], none))⟩,
    ⟨(some 55), .pick (.tmp 44) (.const (.bool true)) (.tmp 54), (some (40, true)), 4, (some ([0, 1, 2, 3], none))⟩,
    ⟨(some 56), .pick (.tmp 40) (.tmp 55) (.const (.bool false)), none, 4, (some ([0, 1, 2, 3], none))⟩,
    ⟨(some 6), .move (.tmp 56), none, 4, (some ([0, 1, 2, 3], none))⟩] []) (.ret)) (.skip))) (.seq (.seq (.region 8 [
    ⟨(some 57), .move (.tmp 1), none, 0, (some ([], none))⟩,
    ⟨(some 58), .len (.tmp 57), none, 0, (some ([], none))⟩,
    ⟨(some 59), .bin .geq (.tmp 58) (.const (.int .i64 (2))), none, 0, (some ([], none))⟩,
    ⟨(some 60), .move (.tmp 59), none, 0, (some ([], none))⟩,
    ⟨(some 61), .load true 18 (.tmp 3), (some (60, true)), 0, (some ([], none))⟩,
    ⟨(some 62), .move (.tmp 1), (some (60, true)), 0, (some ([], none))⟩,
    ⟨(some 63), .indexSl 18 (.tmp 62) (.const (.int .i64 (0))), (some (60, true)), 0, (some ([], none))⟩,
    ⟨(some 64), .load true 18 (.tmp 63), (some (60, true)), 0, (some ([], none))⟩,
    ⟨(some 65), .move (.tmp 1), (some (60, true)), 0, (some ([], none))⟩,
    ⟨(some 66), .indexSl 18 (.tmp 65) (.const (.int .i64 (1))), (some (60, true)), 0, (some ([], none))⟩,
    ⟨(some 67), .load true 18 (.tmp 66), (some (60, true)), 0, (some ([], none))⟩,
    ⟨(some 68), .load true 2 (.tmp 7), (some (60, true)), 0, (some ([], none))⟩,
    ⟨(some 69), .call (.func 19) [(false, (.tmp 61)), (false, (.tmp 64)), (false, (.tmp 67)), (false, (.tmp 68))] true 4, (some (60, true)), 0, (some ([], none))⟩,
    ⟨(some 70), .load true 18 (.tmp 3), (some (60, true)), 4, (some ([], none))⟩,
    ⟨(some 71), .move (.tmp 1), (some (60, true)), 4, (some ([], none))⟩,
    ⟨(some 72), .indexSl 18 (.tmp 71) (.const (.int .i64 (0))), (some (60, true)), 4, (some ([], none))⟩,
    ⟨(some 73), .load true 18 (.tmp 72), (some (60, true)), 4, (some ([], none))⟩,
    ⟨(some 74), .move (.tmp 1), (some (60, true)), 4, (some ([], none))⟩,
    ⟨(some 75), .indexSl 18 (.tmp 74) (.const (.int .i64 (1))), (some (60, true)), 4, (some ([], none))⟩,
    ⟨(some 76), .load true 18 (.tmp 75), (some (60, true)), 4, (some ([], none))⟩,
    ⟨(some 77), .load true 2 (.tmp 5), (some (60, true)), 4, (some ([], none))⟩,
    ⟨(some 78), .call (.func 20) [(false, (.tmp 70)), (false, (.tmp 73)), (false, (.tmp 76)), (false, (.tmp 77))] false 4, (some (60, true)), 4, (some ([0, 1, 2, 3], none))⟩,
    ⟨(some 79), .eqB true (.tmp 69) (.tmp 78), (some (60, true)), 8, (some ([0, 1, 2, 3, 4, 5, 6, 7], none))⟩,
    ⟨(some 80), .pick (.tmp 60) (.tmp 79) (.const (.bool false)), none, 8, (some ([0, 1, 2, 3, 4, 5, 6, 7], none))⟩] []) (.cond (.tmp 80) (.seq (.region 0 [
    ⟨(some 6), .move (.const (.bool false)), none, 0, none⟩] []) (.ret)) (.skip))) (.seq (.region 8 [
    ⟨(some 81), .move (.tmp 8), none, 0, none⟩,
    ⟨(some 82), .load true 18 (.tmp 3), none, 0, none⟩,
    ⟨(some 83), .move (.tmp 1), none, 0, none⟩,
    ⟨(some 84), .load true 2 (.tmp 5), none, 0, none⟩,
    ⟨(some 85), .call (.func 21) [(false, (.tmp 82)), (false, (.tmp 83)), (false, (.tmp 84))] false 4, none, 0, none⟩,
    ⟨(some 86), .call (.func 18) [(false, (.tmp 81)), (false, (.tmp 85))] false 4, none, 4, none⟩,
    ⟨(some 6), .move (.tmp 86), none, 8, none⟩] []) (.ret)))))))), [.tmp 6], true⟩
def s4 : Sig := ⟨(.cons (.v .spec) (.cons (.v (.list .job)) (.cons (.v (.pair (.int .i64) (.list (.int .i64)))) .nil))), [], ((.v .bool), []), []⟩
def F4 (L : Lp) (g13 : Option Bool) (g14 : Spec → Option Bool) (g15 : (List Job) → Option Bool) (g17 : Spec → (List Job) → (Int × (List Int)) → Option (List Job)) (g16 : Spec → Option Bool) (g19 : Spec → Job → Job → (Int × (List Int)) → Option Bool) (g20 : Spec → Job → Job → (Int × (List Int)) → Option Bool) (g21 : Spec → (List Job) → (Int × (List Int)) → Option (List Job)) (g18 : (List Job) → (List Job) → Option Bool) (as0 : Spec) (all1 : (List Job)) (ax2 : (Int × (List Int))) : Option Bool :=
  Option.bind (g13) fun r3 =>
  cond (!r3)
    (some false)
    (Option.bind (g14 as0) fun r4 =>
    cond (!r4)
      (some true)
      (Option.bind (g15 all1) fun r5 =>
      cond (!r5)
        (some true)
        (cond (decide (20 < (List.length ax2.2 : Int)))
          (some true)
          (Option.bind (g17 as0 all1 ax2) fun r6 =>
          Option.bind (g16 as0) fun r7 =>
          cond (!r7)
            (cond (decide ((List.length r6 : Int) = 0))
              (cond (decide ((List.length all1 : Int) < 2))
                (some true)
                (Option.bind (all1[0]?) fun y8 =>
                Option.bind (all1[1]?) fun y9 =>
                Option.bind (g19 as0 y8 y9 ax2) fun r10 =>
                some !r10))
              (some false))
            (cond (decide (2 ≤ (List.length all1 : Int)))
              (Option.bind (all1[0]?) fun y11 =>
              Option.bind (all1[1]?) fun y12 =>
              Option.bind (g19 as0 y11 y12 ax2) fun r13 =>
              Option.bind (all1[0]?) fun y14 =>
              Option.bind (all1[1]?) fun y15 =>
              Option.bind (g20 as0 y14 y15 ax2) fun r16 =>
              cond (!(r13 == r16))
                (some false)
                (Option.bind (g21 as0 all1 ax2) fun r17 =>
                Option.bind (g18 r6 r17) fun r18 =>
                some r18))
              (Option.bind (g21 as0 all1 ax2) fun r19 =>
              Option.bind (g18 r6 r19) fun r20 =>
              some r20))))))
theorem e4 (L : Lp) (g13 : Option Bool) (g14 : Spec → Option Bool) (g15 : (List Job) → Option Bool) (g17 : Spec → (List Job) → (Int × (List Int)) → Option (List Job)) (g16 : Spec → Option Bool) (g19 : Spec → Job → Job → (Int × (List Int)) → Option Bool) (g20 : Spec → Job → Job → (Int × (List Int)) → Option Bool) (g21 : Spec → (List Job) → (Int × (List Int)) → Option (List Job)) (g18 : (List Job) → (List Job) → Option Bool) (x : s4.args.den) (h : denH s4.heap) : nrun [⟨13, s13, fun x h => g13 ⟩, ⟨14, s14, fun x h => g14 x.1⟩, ⟨15, s15, fun x h => g15 x.1⟩, ⟨17, s17, fun x h => g17 x.1 x.2.1 x.2.2.1⟩, ⟨16, s16, fun x h => g16 x.1⟩, ⟨19, s19, fun x h => g19 x.1 x.2.1 x.2.2.1 x.2.2.2.1⟩, ⟨20, s20, fun x h => g20 x.1 x.2.1 x.2.2.1 x.2.2.2.1⟩, ⟨21, s21, fun x h => g21 x.1 x.2.1 x.2.2.1⟩, ⟨18, s18, fun x h => g18 x.1 x.2.1⟩] L n4 s4 x h = F4 L g13 g14 g15 g17 g16 g19 g20 g21 g18 x.1 x.2.1 x.2.2.1 := by kernel_rfl
def f4 : Spec → (List Job) → (Int × (List Int)) → Option Bool := F4 (@LN LOOPS) f13 f14 f15 f17 f16 f19 f20 f21 f18
@[reducible] def t4 : Ent := ⟨4, s4, fun x h => f4 x.1 x.2.1 x.2.2.1⟩
theorem k4 : chkNF Try.prog Try.f4 n4 = true := by kernel_rfl
theorem ok4 : NOk Try.prog t4 := NOk.body (T := [t13, t14, t15, t17, t16, t19, t20, t21, t18]) mixed (nall_cons ok13 (nall_cons ok14 (nall_cons ok15 (nall_cons ok17 (nall_cons ok16 (nall_cons ok19 (nall_cons ok20 (nall_cons ok21 (nall_cons ok18 nall_nil))))))))) (oneEach_of (by kernel_rfl)) Try.func4 k4 (by kernel_rfl) (fun x h => e4 _ _ _ _ _ _ _ _ _ _ x h)
/- drayage/drayagelaw22.RankTotal -/
def n5 : NFunc := ⟨134, .seq (.region 2 [
    ⟨(some 3), .box 18 (.tmp 0), none, 0, none⟩,
    ⟨(some 5), .box 2 (.tmp 2), none, 1, none⟩,
    ⟨(some 6), .move (.const (.bool false)), none, 2, none⟩] []) (.seq (.seq (.region 4 [
    ⟨(some 14), .call (.func 13) [] false 4, none, 0, none⟩,
    ⟨(some 15), .un .not (.tmp 14), none, 4, none⟩] []) (.cond (.tmp 15) (.seq (.region 0 [
    ⟨(some 6), .move (.const (.bool false)), none, 0, none⟩] []) (.ret)) (.skip))) (.seq (.seq (.region 12 [
    ⟨(some 16), .load true 18 (.tmp 3), none, 0, none⟩,
    ⟨(some 17), .call (.func 14) [(false, (.tmp 16))] false 4, none, 0, none⟩,
    ⟨(some 18), .un .not (.tmp 17), none, 4, none⟩,
    ⟨(some 19), .move (.tmp 18), none, 4, none⟩,
    ⟨(some 20), .move (.tmp 1), (some (19, false)), 4, none⟩,
    ⟨(some 21), .call (.func 15) [(false, (.tmp 20))] false 4, (some (19, false)), 4, none⟩,
    ⟨(some 22), .un .not (.tmp 21), (some (19, false)), 8, none⟩,
    ⟨(some 23), .pick (.tmp 19) (.const (.bool true)) (.tmp 22), none, 8, none⟩,
    ⟨(some 24), .move (.tmp 23), none, 8, none⟩,
    ⟨(some 25), .fieldAddr 1 (.tmp 5), (some (24, false)), 8, none⟩,
    ⟨(some 26), .load false 1 (.tmp 25), (some (24, false)), 8, none⟩,
    ⟨(some 27), .len (.tmp 26), (some (24, false)), 8, none⟩,
    ⟨(some 28), .bin .gtr (.tmp 27) (.const (.int .i64 (20))), (some (24, false)), 8, none⟩,
    ⟨(some 29), .pick (.tmp 24) (.const (.bool true)) (.tmp 28), none, 8, none⟩,
    ⟨(some 30), .move (.tmp 29), none, 8, none⟩,
    ⟨(some 31), .load true 18 (.tmp 3), (some (30, false)), 8, none⟩,
    ⟨(some 32), .call (.func 16) [(false, (.tmp 31))] false 4, (some (30, false)), 8, none⟩,
    ⟨(some 33), .un .not (.tmp 32), (some (30, false)), 12, none⟩,
    ⟨(some 34), .pick (.tmp 30) (.const (.bool true)) (.tmp 33), none, 12, none⟩] []) (.cond (.tmp 34) (.seq (.region 0 [
    ⟨(some 6), .move (.const (.bool true)), none, 0, none⟩] []) (.ret)) (.skip))) (.seq (.region 1 [
    ⟨(some 35), .fieldAddr 0 (.tmp 5), none, 0, none⟩,
    ⟨(some 36), .load false 1 (.tmp 35), none, 0, none⟩,
    ⟨(some 37), .fieldAddr 1 (.tmp 5), none, 0, none⟩,
    ⟨(some 38), .load false 1 (.tmp 37), none, 0, none⟩,
    ⟨(some 39), .build [.int .i64 (0), .zsl] [(0, 1, (.tmp 36)), (1, 1, (.tmp 38))], none, 0, none⟩,
    ⟨(some 7), .alloc [.int .i64 (0), .zsl], none, 0, none⟩,
    ⟨none, .store 2 (.tmp 7) (.tmp 39), none, 1, none⟩] []) (.seq (.region 0 [
    ⟨(some 8), .move (.const (.zsl)), none, 0, none⟩] []) (.seq (.seq (.region 0 [
    ⟨(some 40), .move (.tmp 1), none, 0, none⟩,
    ⟨(some 41), .len (.tmp 40), none, 0, none⟩,
    ⟨(some 42), .bin .sub (.tmp 41) (.const (.int .i64 (1))), none, 0, none⟩,
    ⟨(some 9), .move (.tmp 42), none, 0, none⟩] []) (.block 0 (.pre [1, 3, 7, 8, 9] [.mat 8 18 true] (.loop [1, 3, 7, 8, 9] ⟨[(3, (.ptr 0 0 0)), (7, (.ptr 1 0 0)), (8, (.slw 2 18)), (9, (.v (.int .i64)))], [1], [.one false .spec, .one false (.pair (.int .i64) (.list (.int .i64))), .typed .job]⟩ (.seq (.seq (.region 0 [
    ⟨(some 43), .move (.tmp 9), none, 0, none⟩,
    ⟨(some 44), .bin .geq (.tmp 43) (.const (.int .i64 (0))), none, 0, none⟩] []) (.cond (.tmp 44) (.skip) (.exit 0))) (.seq (.block 1 (.seq (.region 2 [
    ⟨(some 47), .move (.tmp 8), none, 0, none⟩,
    ⟨(some 48), .move (.tmp 1), none, 0, none⟩,
    ⟨(some 49), .move (.tmp 9), none, 0, none⟩,
    ⟨(some 50), .indexSl 18 (.tmp 48) (.tmp 49), none, 0, none⟩,
    ⟨(some 51), .load true 18 (.tmp 50), none, 0, none⟩,
    ⟨(some 52), .buildSlice 18 1 true [.int .i64 (0), .int .i64 (0), .int .i64 (0), .int .i64 (0), .int .i64 (0), .int .i64 (0), .int .i64 (0), .int .i64 (0), .int .i64 (0), .zsl, .int .i64 (0), .bool false, .bool false, .int .i64 (0), .int .i64 (0), .int .i64 (0), .int .i64 (0), .int .i64 (0)] [(0, (.tmp 51))], none, 0, none⟩,
    ⟨(some 53), .append 18 152 true (.tmp 47) (.tmp 52), none, 1, none⟩,
    ⟨(some 8), .move (.tmp 53), none, 2, none⟩] []) (.seq (.region 0 [
    ⟨(some 10), .move (.const (.int .i64 (0))), none, 0, none⟩] []) (.block 2 (.loop [1, 3, 7, 8, 9, 10] ⟨[(3, (.ptr 0 0 0)), (7, (.ptr 1 0 0)), (8, (.slw 2 18)), (10, (.v (.int .i64)))], [1, 9], [.one false .spec, .one false (.pair (.int .i64) (.list (.int .i64))), .typed .job]⟩ (.seq (.seq (.region 0 [
    ⟨(some 54), .move (.tmp 10), none, 0, none⟩,
    ⟨(some 55), .move (.tmp 9), none, 0, none⟩,
    ⟨(some 56), .bin .lss (.tmp 54) (.tmp 55), none, 0, none⟩] []) (.cond (.tmp 56) (.skip) (.exit 2))) (.seq (.block 3 (.seq (.seq (.region 0 [
    ⟨(some 59), .move (.tmp 1), none, 0, (some ([], none))⟩,
    ⟨(some 60), .move (.tmp 9), none, 0, (some ([], none))⟩,
    ⟨(some 61), .indexSl 18 (.tmp 59) (.tmp 60), none, 0, (some ([], none))⟩,
    ⟨(some 62), .fieldAddr 0 (.tmp 61), none, 0, (some ([], none))⟩,
    ⟨(some 63), .load false 1 (.tmp 62), none, 0, (some ([], none))⟩,
    ⟨(some 64), .move (.tmp 1), none, 0, (some ([], none))⟩,
    ⟨(some 65), .move (.tmp 10), none, 0, (some ([], none))⟩,
    ⟨(some 66), .indexSl 18 (.tmp 64) (.tmp 65), none, 0, (some ([], none))⟩,
    ⟨(some 67), .fieldAddr 0 (.tmp 66), none, 0, (some ([], none))⟩,
    ⟨(some 68), .load false 1 (.tmp 67), none, 0, (some ([], none))⟩,
    ⟨(some 69), .bin .eql (.tmp 63) (.tmp 68), none, 0, (some ([], none))⟩] []) (.cond (.tmp 69) (.seq (.region 0 [
    ⟨(some 6), .move (.const (.bool true)), none, 0, none⟩] []) (.ret)) (.skip))) (.seq (.region 8 [
    ⟨(some 70), .load true 18 (.tmp 3), none, 0, (some ([], none))⟩,
    ⟨(some 71), .move (.tmp 1), none, 0, (some ([], none))⟩,
    ⟨(some 72), .move (.tmp 9), none, 0, (some ([], none))⟩,
    ⟨(some 73), .indexSl 18 (.tmp 71) (.tmp 72), none, 0, (some ([], none))⟩,
    ⟨(some 74), .load true 18 (.tmp 73), none, 0, (some ([], none))⟩,
    ⟨(some 75), .move (.tmp 1), none, 0, (some ([], none))⟩,
    ⟨(some 76), .move (.tmp 10), none, 0, (some ([], none))⟩,
    ⟨(some 77), .indexSl 18 (.tmp 75) (.tmp 76), none, 0, (some ([], none))⟩,
    ⟨(some 78), .load true 18 (.tmp 77), none, 0, (some ([], none))⟩,
    ⟨(some 79), .load true 2 (.tmp 7), none, 0, (some ([], none))⟩,
    ⟨(some 80), .call (.func 19) [(false, (.tmp 70)), (false, (.tmp 74)), (false, (.tmp 78)), (false, (.tmp 79))] true 4, none, 0, (some ([], none))⟩,
    ⟨(some 81), .load true 18 (.tmp 3), none, 4, (some ([], none))⟩,
    ⟨(some 82), .move (.tmp 1), none, 4, (some ([], none))⟩,
    ⟨(some 83), .move (.tmp 10), none, 4, (some ([], none))⟩,
    ⟨(some 84), .indexSl 18 (.tmp 82) (.tmp 83), none, 4, (some ([], none))⟩,
    ⟨(some 85), .load true 18 (.tmp 84), none, 4, (some ([], none))⟩,
    ⟨(some 86), .move (.tmp 1), none, 4, (some ([], none))⟩,
    ⟨(some 87), .move (.tmp 9), none, 4, (some ([], none))⟩,
    ⟨(some 88), .indexSl 18 (.tmp 86) (.tmp 87), none, 4, (some ([], none))⟩,
    ⟨(some 89), .load true 18 (.tmp 88), none, 4, (some ([], none))⟩,
    ⟨(some 90), .load true 2 (.tmp 7), none, 4, (some ([], none))⟩,
    ⟨(some 91), .call (.func 19) [(false, (.tmp 81)), (false, (.tmp 85)), (false, (.tmp 89)), (false, (.tmp 90))] false 4, none, 4, (some ([0, 1, 2, 3], none))⟩,
    ⟨(some 92), .eqB false (.tmp 80) (.tmp 91), none, 8, (some ([0, 1, 2, 3, 4, 5, 6, 7], none))⟩] []) (.cond (.tmp 92) (.seq (.region 0 [
    ⟨(some 6), .move (.const (.bool false)), none, 0, none⟩] []) (.ret)) (.skip))))) (.region 0 [
    ⟨(some 57), .move (.tmp 10), none, 0, none⟩,
    ⟨(some 58), .bin .add (.tmp 57) (.const (.int .i64 (1))), none, 0, none⟩,
    ⟨(some 10), .move (.tmp 58), none, 0, none⟩] [])))))))) (.region 0 [
    ⟨(some 45), .move (.tmp 9), none, 0, none⟩,
    ⟨(some 46), .bin .sub (.tmp 45) (.const (.int .i64 (1))), none, 0, none⟩,
    ⟨(some 9), .move (.tmp 46), none, 0, none⟩] []))))))) (.seq (.region 8 [
    ⟨(some 93), .load true 18 (.tmp 3), none, 0, (some ([], none))⟩,
    ⟨(some 94), .move (.tmp 1), none, 0, (some ([], none))⟩,
    ⟨(some 95), .load true 2 (.tmp 7), none, 0, (some ([], none))⟩,
    ⟨(some 96), .call (.func 17) [(false, (.tmp 93)), (false, (.tmp 94)), (false, (.tmp 95))] true 4, none, 0, (some ([], none))⟩,
    ⟨(some 97), .load true 18 (.tmp 3), none, 4, (some ([], none))⟩,
    ⟨(some 98), .move (.tmp 8), none, 4, (some ([], none))⟩,
    ⟨(some 99), .load true 2 (.tmp 7), none, 4, (some ([], none))⟩,
    ⟨(some 100), .call (.func 17) [(false, (.tmp 97)), (false, (.tmp 98)), (false, (.tmp 99))] false 4, none, 4, (some ([0, 1, 2, 3], none))⟩,
    ⟨(some 11), .move (.tmp 96), none, 8, (some ([0, 1, 2, 3, 4, 5, 6, 7], none))⟩,
    ⟨(some 12), .move (.tmp 100), none, 8, (some ([0, 1, 2, 3, 4, 5, 6, 7], none))⟩] []) (.seq (.seq (.region 0 [
    ⟨(some 101), .move (.tmp 11), none, 0, none⟩,
    ⟨(some 102), .len (.tmp 101), none, 0, none⟩,
    ⟨(some 103), .move (.const (.int .i64 (0))), none, 0, none⟩] []) (.block 4 (.loop [1, 3, 7, 11, 12, 102, 103] ⟨[(3, (.ptr 0 0 0)), (7, (.ptr 1 0 0)), (103, (.v (.int .i64)))], [1, 11, 12, 102], [.one false .spec, .one false (.pair (.int .i64) (.list (.int .i64)))]⟩ (.seq (.region 0 [
    ⟨(some 104), .bin .lss (.tmp 103) (.tmp 102), none, 0, none⟩] []) (.seq (.cond (.tmp 104) (.skip) (.exit 4)) (.seq (.block 5 (.seq (.region 0 [
    ⟨(some 105), .move (.tmp 103), none, 0, none⟩,
    ⟨(some 13), .move (.tmp 105), none, 0, none⟩] []) (.seq (.region 4 [
    ⟨(some 106), .move (.tmp 13), none, 0, (some ([], none))⟩,
    ⟨(some 107), .bin .gtr (.tmp 106) (.const (.int .i64 (0))), none, 0, (some ([], none))⟩,
    ⟨(some 108), .move (.tmp 107), none, 0, (some ([], none))⟩,
    ⟨(some 109), .load true 18 (.tmp 3), (some (108, true)), 0, (some ([], none))⟩,
    ⟨(some 110), .move (.tmp 11), (some (108, true)), 0, (some ([], none))⟩,
    ⟨(some 111), .move (.tmp 13), (some (108, true)), 0, (some ([], none))⟩,
    ⟨(some 112), .bin .sub (.tmp 111) (.const (.int .i64 (1))), (some (108, true)), 0, (some ([], none))⟩,
    ⟨(some 113), .indexSl 18 (.tmp 110) (.tmp 112), (some (108, true)), 0, (some ([], none))⟩,
    ⟨(some 114), .load true 18 (.tmp 113), (some (108, true)), 0, (some ([], none))⟩,
    ⟨(some 115), .move (.tmp 11), (some (108, true)), 0, (some ([], none))⟩,
    ⟨(some 116), .move (.tmp 13), (some (108, true)), 0, (some ([], none))⟩,
    ⟨(some 117), .indexSl 18 (.tmp 115) (.tmp 116), (some (108, true)), 0, (some ([], none))⟩,
    ⟨(some 118), .load true 18 (.tmp 117), (some (108, true)), 0, (some ([], none))⟩,
    ⟨(some 119), .load true 2 (.tmp 7), (some (108, true)), 0, (some ([], none))⟩,
    ⟨(some 120), .call (.func 19) [(false, (.tmp 109)), (false, (.tmp 114)), (false, (.tmp 118)), (false, (.tmp 119))] false 4, (some (108, true)), 0, (some ([], none))⟩,
    ⟨(some 121), .un .not (.tmp 120), (some (108, true)), 4, (some ([0, 1, 2, 3], none))⟩,
    ⟨(some 122), .pick (.tmp 108) (.tmp 121) (.const (.bool false)), none, 4, (some ([0, 1, 2, 3], none))⟩] []) (.cond (.tmp 122) (.seq (.region 0 [
    ⟨(some 6), .move (.const (.bool false)), none, 0, none⟩] []) (.ret)) (.skip))))) (.region 0 [
    ⟨(some 123), .bin .add (.tmp 103) (.const (.int .i64 (1))), none, 0, none⟩,
    ⟨(some 103), .move (.tmp 123), none, 0, none⟩] []))))))) (.seq (.region 4 [
    ⟨(some 124), .move (.tmp 11), none, 0, none⟩,
    ⟨(some 125), .len (.tmp 124), none, 0, none⟩,
    ⟨(some 126), .move (.tmp 1), none, 0, none⟩,
    ⟨(some 127), .len (.tmp 126), none, 0, none⟩,
    ⟨(some 128), .bin .eql (.tmp 125) (.tmp 127), none, 0, none⟩,
    ⟨(some 129), .move (.tmp 128), none, 0, none⟩,
    ⟨(some 130), .move (.tmp 11), (some (129, true)), 0, none⟩,
    ⟨(some 131), .move (.tmp 12), (some (129, true)), 0, none⟩,
    ⟨(some 132), .call (.func 18) [(false, (.tmp 130)), (false, (.tmp 131))] false 4, (some (129, true)), 0, none⟩,
    ⟨(some 133), .pick (.tmp 129) (.tmp 132) (.const (.bool false)), none, 4, none⟩,
    ⟨(some 6), .move (.tmp 133), none, 4, none⟩] []) (.ret))))))))), [.tmp 6], true⟩
def s5 : Sig := ⟨(.cons (.v .spec) (.cons (.v (.list .job)) (.cons (.v (.pair (.int .i64) (.list (.int .i64)))) .nil))), [], ((.v .bool), []), []⟩
def l5_0 (g19 : Spec → Job → Job → (Int × (List Int)) → Option Bool) (all1 : (List Job)) (nx8 : (((Unit × (Unit × (Unit × (Int × Unit)))) × (Spec × ((Int × (List Int)) × ((List Job) × Unit)))) → Option Bool)) (i9 : Int) (nx15 : ((Unit × (Unit × (Unit × (Int × Unit)))) × (Spec × ((Int × (List Int)) × ((List Job) × Unit)))) → Option Bool) (zk16 : Int) (z17 : Spec) (z18 : (Int × (List Int))) (z19 : (List Job)) : Option Bool :=
  cond (decide (zk16 < i9))
    (cond (decide (0 ≤ i9))
      (Option.bind (all1[Int.toNat i9]?) fun y20 =>
      cond (decide (0 ≤ zk16))
        (Option.bind (all1[Int.toNat zk16]?) fun y21 =>
        cond (decide (y20.id = y21.id))
          (some true)
          (cond (decide (0 ≤ i9))
            (Option.bind (all1[Int.toNat i9]?) fun y22 =>
            cond (decide (0 ≤ zk16))
              (Option.bind (all1[Int.toNat zk16]?) fun y23 =>
              Option.bind (g19 z17 y22 y23 z18) fun r24 =>
              cond (decide (0 ≤ zk16))
                (Option.bind (all1[Int.toNat zk16]?) fun y25 =>
                cond (decide (0 ≤ i9))
                  (Option.bind (all1[Int.toNat i9]?) fun y26 =>
                  Option.bind (g19 z17 y25 y26 z18) fun r27 =>
                  cond (r24 == r27)
                    (some false)
                    (nx15 (((), (), (), IntKind.wrap .i64 (zk16 + 1), ()), (z17, z18, z19, ()))))
                  (none))
                (none))
              (none))
            (none)))
        (none))
      (none))
    (nx8 (((), (), (), IntKind.wrap .i64 (i9 - 1), ()), (z17, z18, z19, ())))
def l5_1 (g19 : Spec → Job → Job → (Int × (List Int)) → Option Bool) (g18 : (List Job) → (List Job) → Option Bool) (all1 : (List Job)) (r28 : (List Job)) (r29 : (List Job)) (nx31 : ((Unit × (Unit × (Int × Unit))) × (Spec × ((Int × (List Int)) × Unit))) → Option Bool) (z32 : Int) (z33 : Spec) (z34 : (Int × (List Int))) : Option Bool :=
  cond (decide (z32 < (List.length r28 : Int)))
    (cond (decide (0 < z32))
      (cond (decide (0 ≤ (IntKind.wrap .i64 (z32 - 1))))
        (Option.bind (r28[Int.toNat (IntKind.wrap .i64 (z32 - 1))]?) fun y35 =>
        cond (decide (0 ≤ z32))
          (Option.bind (r28[Int.toNat z32]?) fun y36 =>
          Option.bind (g19 z33 y35 y36 z34) fun r37 =>
          cond (!r37)
            (some false)
            (nx31 (((), (), IntKind.wrap .i64 (z32 + 1), ()), (z33, z34, ()))))
          (none))
        (none))
      (nx31 (((), (), IntKind.wrap .i64 (z32 + 1), ()), (z33, z34, ()))))
    (cond (decide ((List.length r28 : Int) = (List.length all1 : Int)))
      (Option.bind (g18 r28 r29) fun r38 =>
      some r38)
      (some false))
def l5_2 (L : Lp) (g19 : Spec → Job → Job → (Int × (List Int)) → Option Bool) (g17 : Spec → (List Job) → (Int × (List Int)) → Option (List Job)) (g18 : (List Job) → (List Job) → Option Bool) (all1 : (List Job)) (nx8 : ((Unit × (Unit × (Unit × (Int × Unit)))) × (Spec × ((Int × (List Int)) × ((List Job) × Unit)))) → Option Bool) (i9 : Int) (z10 : Spec) (z11 : (Int × (List Int))) (z12 : (List Job)) : Option Bool :=
  cond (decide (0 ≤ i9))
    (cond (decide (0 ≤ i9))
      (Option.bind (all1[Int.toNat i9]?) fun y13 =>
      cond (smallB ((List.length z12) + 1) 152)
        (L (fun (s14 : ((Unit × (Unit × (Unit × (Int × Unit)))) × (Spec × ((Int × (List Int)) × ((List Job) × Unit))))) nx15 => l5_0 g19 all1 nx8 i9 nx15 s14.1.2.2.2.1 s14.2.1 s14.2.2.1 s14.2.2.2.1) (((), (), (), 0, ()), (z10, z11, z12 ++ [y13], ())))
        (none))
      (none))
    (Option.bind (g17 z10 all1 z11) fun r28 =>
    Option.bind (g17 z10 z12 z11) fun r29 =>
    L (fun (s30 : ((Unit × (Unit × (Int × Unit))) × (Spec × ((Int × (List Int)) × Unit)))) nx31 => l5_1 g19 g18 all1 r28 r29 nx31 s30.1.2.2.1 s30.2.1 s30.2.2.1) (((), (), 0, ()), (z10, z11, ())))
def F5 (L : Lp) (g13 : Option Bool) (g14 : Spec → Option Bool) (g15 : (List Job) → Option Bool) (g16 : Spec → Option Bool) (g19 : Spec → Job → Job → (Int × (List Int)) → Option Bool) (g17 : Spec → (List Job) → (Int × (List Int)) → Option (List Job)) (g18 : (List Job) → (List Job) → Option Bool) (as0 : Spec) (all1 : (List Job)) (ax2 : (Int × (List Int))) : Option Bool :=
  Option.bind (g13) fun r3 =>
  cond (!r3)
    (some false)
    (Option.bind (g14 as0) fun r4 =>
    cond (!r4)
      (some true)
      (Option.bind (g15 all1) fun r5 =>
      cond (!r5)
        (some true)
        (cond (decide (20 < (List.length ax2.2 : Int)))
          (some true)
          (Option.bind (g16 as0) fun r6 =>
          cond (!r6)
            (some true)
            (L (fun (s7 : ((Unit × (Unit × (Unit × (Int × Unit)))) × (Spec × ((Int × (List Int)) × ((List Job) × Unit))))) nx8 => l5_2 L g19 g17 g18 all1 nx8 s7.1.2.2.2.1 s7.2.1 s7.2.2.1 s7.2.2.2.1) (((), (), (), IntKind.wrap .i64 ((List.length all1 : Int) - 1), ()), (as0, ax2, [], ())))))))
theorem e5 (L : Lp) (g13 : Option Bool) (g14 : Spec → Option Bool) (g15 : (List Job) → Option Bool) (g16 : Spec → Option Bool) (g19 : Spec → Job → Job → (Int × (List Int)) → Option Bool) (g17 : Spec → (List Job) → (Int × (List Int)) → Option (List Job)) (g18 : (List Job) → (List Job) → Option Bool) (x : s5.args.den) (h : denH s5.heap) : nrun [⟨13, s13, fun x h => g13 ⟩, ⟨14, s14, fun x h => g14 x.1⟩, ⟨15, s15, fun x h => g15 x.1⟩, ⟨16, s16, fun x h => g16 x.1⟩, ⟨19, s19, fun x h => g19 x.1 x.2.1 x.2.2.1 x.2.2.2.1⟩, ⟨17, s17, fun x h => g17 x.1 x.2.1 x.2.2.1⟩, ⟨18, s18, fun x h => g18 x.1 x.2.1⟩] L n5 s5 x h = F5 L g13 g14 g15 g16 g19 g17 g18 x.1 x.2.1 x.2.2.1 := by kernel_rfl
def f5 : Spec → (List Job) → (Int × (List Int)) → Option Bool := F5 (@LN LOOPS) f13 f14 f15 f16 f19 f17 f18
@[reducible] def t5 : Ent := ⟨5, s5, fun x h => f5 x.1 x.2.1 x.2.2.1⟩
theorem k5 : chkNF Try.prog Try.f5 n5 = true := by kernel_rfl
theorem ok5 : NOk Try.prog t5 := NOk.body (T := [t13, t14, t15, t16, t19, t17, t18]) mixed (nall_cons ok13 (nall_cons ok14 (nall_cons ok15 (nall_cons ok16 (nall_cons ok19 (nall_cons ok17 (nall_cons ok18 nall_nil))))))) (oneEach_of (by kernel_rfl)) Try.func5 k5 (by kernel_rfl) (fun x h => e5 _ _ _ _ _ _ _ _ x h)
end NM
end Go.Proofs.Ytacaeonoogkkaaa
