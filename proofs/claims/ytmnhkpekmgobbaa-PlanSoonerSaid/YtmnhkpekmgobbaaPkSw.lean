/-
  What the proof of PlanSooner leans on, part 23. (Many texts laid together by program.)
-/
import Derived.Test.YtmnhkpekmgobbaaPkSv
set_option linter.unnecessarySimpa false
set_option linter.unusedSimpArgs false
set_option linter.unusedVariables false
section
set_option maxRecDepth 100000
set_option maxHeartbeats 4000000
namespace Go.Proofs.Ytmnhkpekmgobbaa
namespace NM
open AM Go.RowKit
def n60 : NFunc := ⟨51,.seq (.region 0 [
 o1 0 (.move (.const (.bool false))) 0] []) (.seq (.region 5 [
 o1 8 (.call (.func 101) [] false 4) 0,
 o1 1 (.alloc [.zsl,.zsl,.zsl,.int .i64 (0),.int .i64 (0),.int .i64 (0),.int .i64 (0),.int .i64 (0),.int .i64 (0),.int .i64 (0),.int .i64 (0),.int .i64 (0),.int .i64 (0),.int .i64 (0),.int .i64 (0),.int .i64 (0),.int .i64 (0),.int .i64 (0)]) 4,
 ⟨none,.store 18 (tm 1) (tm 8),none,5,none⟩] []) (.seq (.region 7 [
 o1 10 (.load true 18 (tm 1)) 0,
 o1 11 (.build [.int .i64 (0),.int .i64 (0),.int .i64 (0),.int .i64 (0)] [(0,1,(ki 3))]) 0,
 o1 12 (.build [.int .i64 (0),.int .i64 (0)] [(0,1,(ki 0)),(1,1,(ki 1))]) 0,
 o1 13 (.buildSlice 2 1 true [.int .i64 (0),.int .i64 (0)] [(0,(tm 12))]) 0,
 o1 14 (.build [.int .i64 (0),.int .i64 (0),.int .i64 (0),.int .i64 (0),.zsl,.int .i64 (0)] [(0,4,(tm 11)),(4,1,(tm 13)),(5,1,(ki 5))]) 1,
 o1 15 (.buildSlice 6 1 true [.int .i64 (0),.int .i64 (0),.int .i64 (0),.int .i64 (0),.zsl,.int .i64 (0)] [(0,(tm 14))]) 1,
 o1 16 (.build [.int .i64 (0),.int .i64 (0),.int .i64 (0),.int .i64 (0)] [(0,1,(ki 1)),(1,1,(ki 1)),(2,1,(ki 0)),(3,1,(ki 9))]) 2,
 o1 17 (.buildSlice 4 1 true [.int .i64 (0),.int .i64 (0),.int .i64 (0),.int .i64 (0)] [(0,(tm 16))]) 2,
 o1 18 (.call (.func 62) [(false,(tm 10)),(false,(ki 0)),(false,(tm 15)),(false,(tm 17))] false 4) 3,
 o1 9 (.move (tm 18)) 7,
 o1 19 (.extract (tm 9) 0) 7,
 o1 20 (.extract (tm 9) 1) 7,
 o1 2 (.move (tm 19)) 7,
 o1 3 (.move (tm 20)) 7] []) (.seq (.region 5 [
 o1 22 (.move (tm 2)) 0,
 o1 23 (.build [.int .i64 (0),.int .i64 (0),.int .i64 (0),.int .i64 (0)] [(0,1,(ki 2))]) 0,
 o1 24 (.call (.func 63) [(true,(tm 22)),(false,(ki 0)),(false,(ki 1)),(false,(tm 23)),(false,(ki 3))] false 4) 0,
 o1 21 (.move (tm 24)) 4,
 o1 25 (.extract (tm 21) 0) 4,
 o1 26 (.extract (tm 21) 1) 4,
 o1 4 (.alloc [.int .i64 (0),.int .i64 (0),.zsl]) 4,
 ⟨none,.store 3 (tm 4) (tm 25),none,5,none⟩,
 o1 5 (.move (tm 26)) 5] []) (.seq (.region 5 [
 o1 28 (.move (tm 2)) 0,
 o1 29 (.build [.int .i64 (0),.int .i64 (0),.int .i64 (0),.int .i64 (0)] [(0,1,(ki 1))]) 0,
 o1 30 (.call (.func 63) [(true,(tm 28)),(false,(ki 0)),(false,(ki 1)),(false,(tm 29)),(false,(ki 3))] false 4) 0,
 o1 27 (.move (tm 30)) 4,
 o1 31 (.extract (tm 27) 0) 4,
 o1 32 (.extract (tm 27) 1) 4,
 o1 6 (.alloc [.int .i64 (0),.int .i64 (0),.zsl]) 4,
 ⟨none,.store 3 (tm 6) (tm 31),none,5,none⟩,
 o1 7 (.move (tm 32)) 5] []) (.seq (.region 0 [
 o1 33 (.move (tm 3)) 0,
 o1 34 (.bin .eql (tm 33) (ki 0)) 0,
 o1 35 (.move (tm 34)) 0,
 o3 36 (.move (tm 5)) 35 0,
 o1 37 (.pick (tm 35) (tm 36) (.const (.bool false))) 0,
 o1 38 (.move (tm 37)) 0,
 o3 39 (.fieldAddr 1 (tm 4)) 38 0,
 o3 40 (.load false 1 (tm 39)) 38 0,
 o3 41 (.bin .eql (tm 40) (ki 5)) 38 0,
 o1 42 (.pick (tm 38) (tm 41) (.const (.bool false))) 0,
 o1 43 (.move (tm 42)) 0,
 o3 44 (.move (tm 7)) 43 0,
 o1 45 (.pick (tm 43) (tm 44) (.const (.bool false))) 0,
 o1 46 (.move (tm 45)) 0,
 o3 47 (.fieldAddr 1 (tm 6)) 46 0,
 o3 48 (.load false 1 (tm 47)) 46 0,
 o3 49 (.bin .eql (tm 48) (ki 0)) 46 0,
 o1 50 (.pick (tm 46) (tm 49) (.const (.bool false))) 0,
 o1 0 (.move (tm 50)) 0] []) (.ret)))))),[.tmp 0],true⟩
def s60 : Sig := ⟨.nil,[],((.v .bool),[]),[]⟩
def F60 (L : Lp) (g101 : Option Spec) (g62 : Spec → Int → (List Run) → (List Booking) → Option Tae) (g63 : Int → Int → Res → Int → Option Tad) (g63_1 : Int → Int → Res → Int → Int → (List (List Int)) → (List (List Step)) → Option (Tad × Taa))  : Option Bool :=
 Option.bind (g101) fun r0 =>
 Option.bind (g62 r0 0 [Run.mk (Res.mk 3 0 0 0) [Share.mk 0 1] 5] [Booking.mk 1 1 0 9]) (Sum.elim (fun r1 =>
 Option.bind (g63 0 1 (Res.mk 2 0 0 0) 3) fun r2 =>
 Option.bind (g63 0 1 (Res.mk 1 0 0 0) 3) fun r3 =>
 cond (decide (r1.2.1 = 0))
 (cond r2.2.1
 (cond (decide (r2.1.2.1 = 5))
 (cond r3.2.1
 (some (decide (r3.1.2.1 = 0)))
 (some false))
 (some false))
 (some false))
 (some false)) (fun r4 =>
 Option.bind (g63_1 0 1 (Res.mk 2 0 0 0) 3 r4.2.1.1 r4.2.2.1 r4.2.2.2.1) fun r5 =>
 cond (true && ((decide ((List.length r5.2.2.1) = (List.length r4.2.2.1))) && ((decide ((List.length r5.2.2.2.1) = (List.length r4.2.2.2.1))) && true)))
 (Option.bind (g63_1 0 1 (Res.mk 1 0 0 0) 3 r5.2.1.1 r5.2.2.1 r5.2.2.2.1) fun r6 =>
 cond (true && ((decide ((List.length r6.2.2.1) = (List.length r5.2.2.1))) && ((decide ((List.length r6.2.2.2.1) = (List.length r5.2.2.2.1))) && true)))
 (cond (decide (r4.1.2.1 = 0))
 (cond r5.1.2.1
 (cond (decide (r5.1.1.2.1 = 5))
 (cond r6.1.2.1
 (some (decide (r6.1.1.2.1 = 0)))
 (some false))
 (some false))
 (some false))
 (some false))
 (none))
 (none)))
theorem e60 (L : Lp) (g101 : Option Spec) (g62 : Spec → Int → (List Run) → (List Booking) → Option Tae) (g63 : Int → Int → Res → Int → Option Tad) (g63_1 : Int → Int → Res → Int → Int → (List (List Int)) → (List (List Step)) → Option (Tad × Taa)) (x : s60.args.den) (h : denH s60.heap) : nrun [⟨101,s101,fun x h => g101 ⟩,⟨62,s62,fun x h => g62 x.1 x.2.1 x.2.2.1 x.2.2.2.1⟩,⟨63,s63,fun x h => g63 x.2.1 x.2.2.1 x.2.2.2.1 x.2.2.2.2.1⟩,⟨63,s63_1,fun x h => g63_1 x.2.1 x.2.2.1 x.2.2.2.1 x.2.2.2.2.1 h.1.1 h.2.1 h.2.2.1⟩] L n60 s60 x h = F60 L g101 g62 g63 g63_1  := by kernel_rfl
def f60 : Option Bool := F60 (@LN LOOPS) f101 f62 f63 f63_1
@[reducible] def t60 : Ent := ⟨60,s60,fun x h => f60 ⟩
theorem k60 : chkNF Try.prog Try.f60 n60 = true := by kernel_rfl
theorem ok60 : NOk Try.prog t60 := NOk.body (T := [t101,t62,t63,t63_1]) mixed (nall_cons ok101 (nall_cons ok62 (nall_cons ok63 (nall_cons ok63_1 nall_nil)))) (oneEach_of (by kernel_rfl)) Try.func60 k60 (by kernel_rfl) (fun x h => e60 _ _ _ _ _ x h)
def n44 : NFunc := ⟨46,.seq (.region 1 [
 o1 1 (.box 18 (tm 0)) 0,
 o1 2 (.move (.const (.bool false))) 1] []) (.seq (.seq (.region 0 [
 o1 7 (.fieldAddr 0 (tm 1)) 0,
 o1 8 (.load false 1 (tm 7)) 0,
 o1 9 (.len (tm 8)) 0,
 o1 10 (.bin .gtr (tm 9) (ki 40)) 0,
 o1 11 (.move (tm 10)) 0,
 o2 12 (.fieldAddr 1 (tm 1)) 11 0,
 o2 13 (.load false 1 (tm 12)) 11 0,
 o2 14 (.len (tm 13)) 11 0,
 o2 15 (.bin .gtr (tm 14) (ki 20)) 11 0,
 o1 16 (.pick (tm 11) (.const (.bool true)) (tm 15)) 0,
 o1 17 (.move (tm 16)) 0,
 o2 18 (.fieldAddr 2 (tm 1)) 17 0,
 o2 19 (.load false 1 (tm 18)) 17 0,
 o2 20 (.len (tm 19)) 17 0,
 o2 21 (.bin .gtr (tm 20) (ki 20)) 17 0,
 o1 22 (.pick (tm 17) (.const (.bool true)) (tm 21)) 0] []) (.cond (tm 22) (.seq (.region 0 [
 o1 2 (.move (.const (.bool false))) 0] []) (.ret)) (.skip))) (.seq (.seq (.region 0 [
 o1 23 (.fieldAddr 1 (tm 1)) 0,
 o1 24 (.load false 1 (tm 23)) 0,
 o1 25 (.len (tm 24)) 0,
 o1 26 (.move (ki 0)) 0] []) (.block 0 (.loop [1,24,25,26] ⟨[(1,(.ptr 0 0 0)),(26,vI)],[24,25],[.one false .spec]⟩ (.seq (.region 0 [
 o1 27 (.bin .lss (tm 26) (tm 25)) 0] []) (.seq (.cond (tm 27) (.skip) (.exit 0)) (.seq (.block 1 (.seq (.region 0 [
 o1 28 (.indexSl 1 (tm 24) (tm 26)) 0,
 o1 29 (.load false 1 (tm 28)) 0,
 o1 4 (.move (tm 29)) 0] []) (.seq (.region 0 [
 o1 30 (.move (tm 4)) 0,
 o1 31 (.len (tm 30)) 0,
 o1 32 (.bin .gtr (tm 31) (ki 40)) 0] []) (.cond (tm 32) (.seq (.region 0 [
 o1 2 (.move (.const (.bool false))) 0] []) (.ret)) (.skip))))) (.region 0 [
 o1 33 (.bin .add (tm 26) (ki 1)) 0,
 o1 26 (.move (tm 33)) 0] []))))))) (.seq (.seq (.region 0 [
 o1 34 (.fieldAddr 2 (tm 1)) 0,
 o1 35 (.load false 1 (tm 34)) 0,
 o1 36 (.len (tm 35)) 0,
 o1 37 (.move (ki 0)) 0] []) (.block 2 (.loop [35,36,37] ⟨[(37,vI)],[35,36],[]⟩ (.seq (.region 0 [
 o1 38 (.bin .lss (tm 37) (tm 36)) 0] []) (.seq (.cond (tm 38) (.skip) (.exit 2)) (.seq (.block 3 (.seq (.region 1 [
 o1 39 (.indexSl 6 (tm 35) (tm 37)) 0,
 o1 40 (.load true 6 (tm 39)) 0,
 o1 6 (.alloc [.int .i64 (0),.zsl,.int .i64 (0),.int .i64 (0),.int .i64 (0),.int .i64 (0)]) 0,
 ⟨none,.store 6 (tm 6) (tm 40),none,1,none⟩] []) (.seq (.region 0 [
 o1 41 (.fieldAddr 1 (tm 6)) 0,
 o1 42 (.load false 1 (tm 41)) 0,
 o1 43 (.len (tm 42)) 0,
 o1 44 (.bin .gtr (tm 43) (ki 40)) 0] []) (.cond (tm 44) (.seq (.region 0 [
 o1 2 (.move (.const (.bool false))) 0] []) (.ret)) (.skip))))) (.region 0 [
 o1 45 (.bin .add (tm 37) (ki 1)) 0,
 o1 37 (.move (tm 45)) 0] []))))))) (.seq (.region 0 [
 o1 2 (.move (.const (.bool true))) 0] []) (.ret))))),[.tmp 2],true⟩
def s44 : Sig := ⟨(.cons (.v .spec) .nil),[],((.v .bool),[]),[]⟩
def l44_0 (z4 : Spec) (nx7 : ((Int × Unit) × Unit) → Option Bool) (z8 : Int) : Option Bool :=
 cond (decide (z8 < (List.length z4.queues : Int)))
 (cond (decide (0 ≤ z8))
 (Option.bind (z4.queues[Int.toNat z8]?) fun y9 =>
 cond (decide (40 < (List.length y9.users : Int)))
 (some false)
 (nx7 ((IntKind.wrap .i64 (z8 + 1),()),())))
 (none))
 (some true)
def l44_1 (L : Lp) (as0 : Spec) (nx2 : Tap → Option Bool) (z3 : Int) (z4 : Spec) : Option Bool :=
 cond (decide (z3 < (List.length as0.parts : Int)))
 (cond (decide (0 ≤ z3))
 (Option.bind (as0.parts[Int.toNat z3]?) fun y5 =>
 cond (decide (40 < (List.length y5 : Int)))
 (some false)
 (nx2 (((),IntKind.wrap .i64 (z3 + 1),()),(z4,()))))
 (none))
 (L (fun (s6 : ((Int × Unit) × Unit)) nx7 => l44_0 z4 nx7 s6.1.1) ((0,()),()))
def F44 (L : Lp)  (as0 : Spec) : Option Bool :=
 cond (decide (40 < (List.length as0.nodes : Int)))
 (some false)
 (cond (decide (20 < (List.length as0.parts : Int)))
 (some false)
 (cond (decide (20 < (List.length as0.queues : Int)))
 (some false)
 (L (fun (s1 : Tap) nx2 => l44_1 L as0 nx2 s1.1.2.1 s1.2.1) (((),0,()),(as0,())))))
theorem e44 (L : Lp)  (x : s44.args.den) (h : denH s44.heap) : nrun [] L n44 s44 x h = F44 L  x.1 := by kernel_rfl
def f44 : Spec → Option Bool := F44 (@LN LOOPS) 
@[reducible] def t44 : Ent := ⟨44,s44,fun x h => f44 x.1⟩
theorem k44 : chkNF Try.prog Try.f44 n44 = true := by kernel_rfl
theorem ok44 : NOk Try.prog t44 := NOk.body (T := []) mixed nall_nil (oneEach_of (by kernel_rfl)) Try.func44 k44 (by kernel_rfl) (fun x h => e44 _  x h)
def n61 : NFunc := ⟨33,.seq (.region 1 [
 o1 1 (.box 21 (tm 0)) 0,
 o1 2 (.move (.const (.bool false))) 1] []) (.seq (.seq (.region 4 [
 o1 5 (.fieldAddr 0 (tm 1)) 0,
 o1 6 (.load true 18 (tm 5)) 0,
 o1 7 (.call (.func 44) [(false,(tm 6))] false 4) 0,
 o1 8 (.un .not (tm 7)) 4,
 o1 9 (.move (tm 8)) 4,
 o2 10 (.fieldAddr 19 (tm 1)) 9 4,
 o2 11 (.load false 1 (tm 10)) 9 4,
 o2 12 (.len (tm 11)) 9 4,
 o2 13 (.bin .gtr (tm 12) (ki 12)) 9 4,
 o1 14 (.pick (tm 9) (.const (.bool true)) (tm 13)) 4,
 o1 15 (.move (tm 14)) 4,
 o2 16 (.fieldAddr 20 (tm 1)) 15 4,
 o2 17 (.load false 1 (tm 16)) 15 4,
 o2 18 (.len (tm 17)) 15 4,
 o2 19 (.bin .gtr (tm 18) (ki 20)) 15 4,
 o1 20 (.pick (tm 15) (.const (.bool true)) (tm 19)) 4] []) (.cond (tm 20) (.seq (.region 0 [
 o1 2 (.move (.const (.bool false))) 0] []) (.ret)) (.skip))) (.seq (.seq (.region 0 [
 o1 21 (.fieldAddr 19 (tm 1)) 0,
 o1 22 (.load false 1 (tm 21)) 0,
 o1 23 (.len (tm 22)) 0,
 o1 24 (.move (ki 0)) 0] []) (.block 0 (.loop [22,23,24] ⟨[(24,vI)],[22,23],[]⟩ (.seq (.region 0 [
 o1 25 (.bin .lss (tm 24) (tm 23)) 0] []) (.seq (.cond (tm 25) (.skip) (.exit 0)) (.seq (.block 1 (.seq (.region 1 [
 o1 26 (.indexSl 6 (tm 22) (tm 24)) 0,
 o1 27 (.load true 6 (tm 26)) 0,
 o1 4 (.alloc [.int .i64 (0),.int .i64 (0),.int .i64 (0),.int .i64 (0),.zsl,.int .i64 (0)]) 0,
 ⟨none,.store 6 (tm 4) (tm 27),none,1,none⟩] []) (.seq (.region 0 [
 o1 28 (.fieldAddr 4 (tm 4)) 0,
 o1 29 (.load false 1 (tm 28)) 0,
 o1 30 (.len (tm 29)) 0,
 o1 31 (.bin .gtr (tm 30) (ki 40)) 0] []) (.cond (tm 31) (.seq (.region 0 [
 o1 2 (.move (.const (.bool false))) 0] []) (.ret)) (.skip))))) (.region 0 [
 o1 32 (.bin .add (tm 24) (ki 1)) 0,
 o1 24 (.move (tm 32)) 0] []))))))) (.seq (.region 0 [
 o1 2 (.move (.const (.bool true))) 0] []) (.ret)))),[.tmp 2],true⟩
def s61 : Sig := ⟨(.cons (.v (.pair .spec (.pair (.int .i64) (.pair (.list .run) (.list .booking))))) .nil),[],((.v .bool),[]),[]⟩
def l61_0 (w0 : Tac) (nx3 : ((Int × Unit) × Unit) → Option Bool) (z4 : Int) : Option Bool :=
 cond (decide (z4 < (List.length w0.2.2.1 : Int)))
 (cond (decide (0 ≤ z4))
 (Option.bind (w0.2.2.1[Int.toNat z4]?) fun y5 =>
 cond (decide (40 < (List.length y5.shares : Int)))
 (some false)
 (nx3 ((IntKind.wrap .i64 (z4 + 1),()),())))
 (none))
 (some true)
def F61 (L : Lp) (g44 : Spec → Option Bool) (w0 : Tac) : Option Bool :=
 Option.bind (g44 w0.1) fun r1 =>
 cond (!r1)
 (some false)
 (cond (decide (12 < (List.length w0.2.2.1 : Int)))
 (some false)
 (cond (decide (20 < (List.length w0.2.2.2 : Int)))
 (some false)
 (L (fun (s2 : ((Int × Unit) × Unit)) nx3 => l61_0 w0 nx3 s2.1.1) ((0,()),()))))
theorem e61 (L : Lp) (g44 : Spec → Option Bool) (x : s61.args.den) (h : denH s61.heap) : nrun [⟨44,s44,fun x h => g44 x.1⟩] L n61 s61 x h = F61 L g44 x.1 := by kernel_rfl
def f61 : Tac → Option Bool := F61 (@LN LOOPS) f44
@[reducible] def t61 : Ent := ⟨61,s61,fun x h => f61 x.1⟩
theorem k61 : chkNF Try.prog Try.f61 n61 = true := by kernel_rfl
theorem ok61 : NOk Try.prog t61 := NOk.body (T := [t44]) mixed (nall_cons ok44 nall_nil) (oneEach_of (by kernel_rfl)) Try.func61 k61 (by kernel_rfl) (fun x h => e61 _ _ x h)
def n9 : NFunc := ⟨177,.seq (.region 2 [
 o1 3 (.box 21 (tm 0)) 0,
 o1 4 (.box 7 (tm 1)) 1,
 o1 6 (.move (.const (.bool false))) 2] []) (.seq (.seq (.region 4 [
 o1 23 (.call (.func 60) [] false 4) 0,
 o1 24 (.un .not (tm 23)) 4] []) (.cond (tm 24) (.seq (.region 0 [
 o1 6 (.move (.const (.bool false))) 0] []) (.ret)) (.skip))) (.seq (.seq (.region 4 [
 o1 25 (.load true 21 (tm 3)) 0,
 o1 26 (.call (.func 61) [(false,(tm 25))] false 4) 0,
 o1 27 (.un .not (tm 26)) 4,
 o1 28 (.move (tm 27)) 4,
 o2 29 (.fieldAddr 19 (tm 3)) 28 4,
 o2 30 (.load false 1 (tm 29)) 28 4,
 o2 31 (.len (tm 30)) 28 4,
 o2 32 (.fieldAddr 20 (tm 3)) 28 4,
 o2 33 (.load false 1 (tm 32)) 28 4,
 o2 34 (.len (tm 33)) 28 4,
 o2 35 (.bin .add (tm 31) (tm 34)) 28 4,
 o2 36 (.bin .eql (tm 35) (ki 0)) 28 4,
 o1 37 (.pick (tm 28) (.const (.bool true)) (tm 36)) 4] []) (.cond (tm 37) (.seq (.region 0 [
 o1 6 (.move (.const (.bool true))) 0] []) (.ret)) (.skip))) (.seq (.region 4 [
 o1 39 (.fieldAddr 0 (tm 3)) 0,
 o1 40 (.load true 18 (tm 39)) 0,
 o1 41 (.fieldAddr 18 (tm 3)) 0,
 o1 42 (.load false 1 (tm 41)) 0,
 o1 43 (.fieldAddr 19 (tm 3)) 0,
 o1 44 (.load false 1 (tm 43)) 0,
 o1 45 (.fieldAddr 20 (tm 3)) 0,
 o1 46 (.load false 1 (tm 45)) 0,
 o1 47 (.call (.func 62) [(false,(tm 40)),(false,(tm 42)),(false,(tm 44)),(false,(tm 46))] false 4) 0,
 o1 38 (.move (tm 47)) 4,
 o1 48 (.extract (tm 38) 0) 4,
 o1 49 (.extract (tm 38) 1) 4,
 o1 7 (.move (tm 48)) 4,
 o1 8 (.move (tm 49)) 4] []) (.seq (.join [3,4,7,2] [] ⟨[(3,(.ptr 0 0 0)),(4,(.ptr 1 0 0)),(7,(.ptr 2 0 0))],[2],[.one false (.pair .spec (.pair (.int .i64) (.pair (.list .run) (.list .booking)))),.one false (.pair (.int .i64) (.pair (.int .i64) (.pair .res (.int .i64)))),.cell false (.cons vI (.cons (.slw 3 1) (.cons (.slw 4 1) .nil))),.typed (.list (.int .i64)),.typed (.list .step)]⟩ (.seq (.region 0 [
 o1 50 (.move (tm 8)) 0,
 o1 51 (.bin .neq (tm 50) (ki 0)) 0] []) (.cond (tm 51) (.seq (.region 0 [
 o1 52 (.move (tm 7)) 0,
 o1 53 (.eqP false (tm 52) (.const (.nilp))) 0,
 o1 6 (.move (tm 53)) 0] []) (.ret)) (.skip)))) (.seq (.region 1 [
 o1 54 (.fieldAddr 0 (tm 3)) 0,
 o1 55 (.load true 18 (tm 54)) 0,
 o1 56 (.fieldAddr 18 (tm 3)) 0,
 o1 57 (.load false 1 (tm 56)) 0,
 o1 58 (.build [.zsl,.zsl,.zsl,.int .i64 (0),.int .i64 (0),.int .i64 (0),.int .i64 (0),.int .i64 (0),.int .i64 (0),.int .i64 (0),.int .i64 (0),.int .i64 (0),.int .i64 (0),.int .i64 (0),.int .i64 (0),.int .i64 (0),.int .i64 (0),.int .i64 (0),.int .i64 (0),.zsl,.zsl] [(0,18,(tm 55)),(18,1,(tm 57))]) 0,
 o1 9 (.alloc [.zsl,.zsl,.zsl,.int .i64 (0),.int .i64 (0),.int .i64 (0),.int .i64 (0),.int .i64 (0),.int .i64 (0),.int .i64 (0),.int .i64 (0),.int .i64 (0),.int .i64 (0),.int .i64 (0),.int .i64 (0),.int .i64 (0),.int .i64 (0),.int .i64 (0),.int .i64 (0),.zsl,.zsl]) 0,
 ⟨none,.store 21 (tm 9) (tm 58),none,1,none⟩] []) (.seq (.region 0 [
 o1 59 (.move (tm 2)) 0,
 o1 60 (.conv .i64 (tm 59)) 0,
 o1 61 (.fieldAddr 19 (tm 3)) 0,
 o1 62 (.load false 1 (tm 61)) 0,
 o1 63 (.len (tm 62)) 0,
 o1 64 (.fieldAddr 20 (tm 3)) 0,
 o1 65 (.load false 1 (tm 64)) 0,
 o1 66 (.len (tm 65)) 0,
 o1 67 (.bin .add (tm 63) (tm 66)) 0,
 o1 68 (.bin .rem (tm 60) (tm 67)) 0,
 o1 10 (.move (tm 68)) 0] []) (.seq (.seq (.region 0 [
 o1 69 (.fieldAddr 19 (tm 3)) 0,
 o1 70 (.load false 1 (tm 69)) 0,
 o1 71 (.len (tm 70)) 0,
 o1 72 (.move (ki 0)) 0] []) (.block 0 (.pre [3,4,7,9,10,70,71,72] [.matC 9 19 6 true] (.loop [3,4,7,9,10,70,71,72] ⟨[(3,(.ptr 0 0 0)),(4,(.ptr 1 0 0)),(7,(.ptr 2 0 0)),(9,(.ptr 3 0 0)),(72,vI)],[10,70,71],[.one false (.pair .spec (.pair (.int .i64) (.pair (.list .run) (.list .booking)))),.one false (.pair (.int .i64) (.pair (.int .i64) (.pair .res (.int .i64)))),.cell false (.cons vI (.cons (.slw 4 1) (.cons (.slw 5 1) .nil))),.cell false (.cons (.v (.list .res)) (.cons (.v (.list (.list (.int .i64)))) (.cons (.v (.list .queue)) (.cons vI (.cons vI (.cons vI (.cons vI (.cons vI (.cons vI (.cons vI (.cons vI (.cons vI (.cons vI (.cons vI (.cons vI (.cons vI (.cons vI (.cons vI (.cons vI (.cons (.slw 6 6) (.cons .zsl .nil))))))))))))))))))))),.typed (.list (.int .i64)),.typed (.list .step),.typed .run]⟩ (.seq (.region 0 [
 o1 73 (.bin .lss (tm 72) (tm 71)) 0] []) (.seq (.cond (tm 73) (.skip) (.exit 0)) (.seq (.block 1 (.seq (.region 1 [
 o1 74 (.move (tm 72)) 0,
 o1 75 (.indexSl 6 (tm 70) (tm 72)) 0,
 o1 76 (.load true 6 (tm 75)) 0,
 o1 12 (.alloc [.int .i64 (0),.int .i64 (0),.int .i64 (0),.int .i64 (0),.zsl,.int .i64 (0)]) 0,
 o1 11 (.move (tm 74)) 1,
 ⟨none,.store 6 (tm 12) (tm 76),none,1,none⟩] []) (.seq (.region 0 [
 o1 77 (.move (tm 11)) 0,
 o1 78 (.move (tm 10)) 0,
 o1 79 (.bin .neq (tm 77) (tm 78)) 0] []) (.cond (tm 79) (.region 2 [
 o1 80 (.fieldAddr 19 (tm 9)) 0,
 o1 81 (.load false 1 (tm 80)) 0,
 o1 82 (.load true 6 (tm 12)) 0,
 o1 83 (.buildSlice 6 1 true [.int .i64 (0),.int .i64 (0),.int .i64 (0),.int .i64 (0),.zsl,.int .i64 (0)] [(0,(tm 82))]) 0,
 o1 84 (.append 6 64 true (tm 81) (tm 83)) 1,
 o1 85 (.fieldAddr 19 (tm 9)) 2,
 ⟨none,.store 1 (tm 85) (tm 84),none,2,none⟩] []) (.skip))))) (.region 0 [
 o1 86 (.bin .add (tm 72) (ki 1)) 0,
 o1 72 (.move (tm 86)) 0] [])))))))) (.seq (.seq (.region 0 [
 o1 87 (.fieldAddr 20 (tm 3)) 0,
 o1 88 (.load false 1 (tm 87)) 0,
 o1 89 (.len (tm 88)) 0,
 o1 90 (.move (ki 0)) 0] []) (.block 2 (.pre [3,4,7,9,10,88,89,90] [.matC 9 20 4 true] (.loop [3,4,7,9,10,88,89,90] ⟨[(3,(.ptr 0 0 0)),(4,(.ptr 1 0 0)),(7,(.ptr 2 0 0)),(9,(.ptr 3 0 0)),(90,vI)],[10,88,89],[.one false (.pair .spec (.pair (.int .i64) (.pair (.list .run) (.list .booking)))),.one false (.pair (.int .i64) (.pair (.int .i64) (.pair .res (.int .i64)))),.cell false (.cons vI (.cons (.slw 4 1) (.cons (.slw 5 1) .nil))),.cell false (.cons (.v (.list .res)) (.cons (.v (.list (.list (.int .i64)))) (.cons (.v (.list .queue)) (.cons vI (.cons vI (.cons vI (.cons vI (.cons vI (.cons vI (.cons vI (.cons vI (.cons vI (.cons vI (.cons vI (.cons vI (.cons vI (.cons vI (.cons vI (.cons vI (.cons (.slw 6 6) (.cons (.slw 7 4) .nil))))))))))))))))))))),.typed (.list (.int .i64)),.typed (.list .step),.typed .run,.typed .booking]⟩ (.seq (.region 0 [
 o1 91 (.bin .lss (tm 90) (tm 89)) 0] []) (.seq (.cond (tm 91) (.skip) (.exit 2)) (.seq (.block 3 (.seq (.region 1 [
 o1 92 (.move (tm 90)) 0,
 o1 93 (.indexSl 4 (tm 88) (tm 90)) 0,
 o1 94 (.load true 4 (tm 93)) 0,
 o1 14 (.alloc [.int .i64 (0),.int .i64 (0),.int .i64 (0),.int .i64 (0)]) 0,
 o1 13 (.move (tm 92)) 1,
 ⟨none,.store 4 (tm 14) (tm 94),none,1,none⟩] []) (.seq (.region 0 [
 o1 95 (.move (tm 13)) 0,
 o1 96 (.fieldAddr 19 (tm 3)) 0,
 o1 97 (.load false 1 (tm 96)) 0,
 o1 98 (.len (tm 97)) 0,
 o1 99 (.bin .add (tm 95) (tm 98)) 0,
 o1 100 (.move (tm 10)) 0,
 o1 101 (.bin .neq (tm 99) (tm 100)) 0] []) (.cond (tm 101) (.region 2 [
 o1 102 (.fieldAddr 20 (tm 9)) 0,
 o1 103 (.load false 1 (tm 102)) 0,
 o1 104 (.load true 4 (tm 14)) 0,
 o1 105 (.buildSlice 4 1 true [.int .i64 (0),.int .i64 (0),.int .i64 (0),.int .i64 (0)] [(0,(tm 104))]) 0,
 o1 106 (.append 4 32 true (tm 103) (tm 105)) 1,
 o1 107 (.fieldAddr 20 (tm 9)) 2,
 ⟨none,.store 1 (tm 107) (tm 106),none,2,none⟩] []) (.skip))))) (.region 0 [
 o1 108 (.bin .add (tm 90) (ki 1)) 0,
 o1 90 (.move (tm 108)) 0] [])))))))) (.seq (.region 4 [
 o1 110 (.fieldAddr 0 (tm 9)) 0,
 o1 111 (.load true 18 (tm 110)) 0,
 o1 112 (.fieldAddr 18 (tm 9)) 0,
 o1 113 (.load false 1 (tm 112)) 0,
 o1 114 (.fieldAddr 19 (tm 9)) 0,
 o1 115 (.load false 1 (tm 114)) 0,
 o1 116 (.fieldAddr 20 (tm 9)) 0,
 o1 117 (.load false 1 (tm 116)) 0,
 o1 118 (.call (.func 62) [(false,(tm 111)),(false,(tm 113)),(false,(tm 115)),(false,(tm 117))] false 4) 0,
 o1 109 (.move (tm 118)) 4,
 o1 119 (.extract (tm 109) 0) 4,
 o1 120 (.extract (tm 109) 1) 4,
 o1 15 (.move (tm 119)) 4,
 o1 16 (.move (tm 120)) 4] []) (.seq (.seq (.region 0 [
 o1 121 (.move (tm 16)) 0,
 o1 122 (.bin .neq (tm 121) (ki 0)) 0] []) (.cond (tm 122) (.seq (.region 0 [
 o1 6 (.move (.const (.bool false))) 0] []) (.ret)) (.skip))) (.seq (.region 5 [
 o1 124 (.move (tm 7)) 0,
 o1 125 (.fieldAddr 0 (tm 4)) 0,
 o1 126 (.load false 1 (tm 125)) 0,
 o1 127 (.fieldAddr 1 (tm 4)) 0,
 o1 128 (.load false 1 (tm 127)) 0,
 o1 129 (.fieldAddr 2 (tm 4)) 0,
 o1 130 (.load true 4 (tm 129)) 0,
 o1 131 (.fieldAddr 6 (tm 4)) 0,
 o1 132 (.load false 1 (tm 131)) 0,
 o1 133 (.call (.func 63) [(true,(tm 124)),(false,(tm 126)),(false,(tm 128)),(false,(tm 130)),(false,(tm 132))] false 4) 0,
 o1 123 (.move (tm 133)) 4,
 o1 134 (.extract (tm 123) 0) 4,
 o1 135 (.extract (tm 123) 1) 4,
 o1 17 (.alloc [.int .i64 (0),.int .i64 (0),.zsl]) 4,
 ⟨none,.store 3 (tm 17) (tm 134),none,5,none⟩,
 o1 18 (.move (tm 135)) 5] []) (.seq (.region 5 [
 o1 137 (.move (tm 15)) 0,
 o1 138 (.fieldAddr 0 (tm 4)) 0,
 o1 139 (.load false 1 (tm 138)) 0,
 o1 140 (.fieldAddr 1 (tm 4)) 0,
 o1 141 (.load false 1 (tm 140)) 0,
 o1 142 (.fieldAddr 2 (tm 4)) 0,
 o1 143 (.load true 4 (tm 142)) 0,
 o1 144 (.fieldAddr 6 (tm 4)) 0,
 o1 145 (.load false 1 (tm 144)) 0,
 o1 146 (.call (.func 63) [(true,(tm 137)),(false,(tm 139)),(false,(tm 141)),(false,(tm 143)),(false,(tm 145))] false 4) 0,
 o1 136 (.move (tm 146)) 4,
 o1 147 (.extract (tm 136) 0) 4,
 o1 148 (.extract (tm 136) 1) 4,
 o1 19 (.alloc [.int .i64 (0),.int .i64 (0),.zsl]) 4,
 ⟨none,.store 3 (tm 19) (tm 147),none,5,none⟩,
 o1 20 (.move (tm 148)) 5] []) (.seq (.seq (.region 0 [
 o1 149 (.move (tm 18)) 0,
 o1 150 (.un .not (tm 149)) 0] []) (.cond (tm 150) (.seq (.region 0 [
 o1 6 (.move (.const (.bool true))) 0] []) (.ret)) (.skip))) (.seq (.region 4 [
 o1 152 (.move (tm 15)) 0,
 o1 153 (.fieldAddr 0 (tm 4)) 0,
 o1 154 (.load false 1 (tm 153)) 0,
 o1 155 (.fieldAddr 1 (tm 4)) 0,
 o1 156 (.load false 1 (tm 155)) 0,
 o1 157 (.fieldAddr 2 (tm 4)) 0,
 o1 158 (.load true 4 (tm 157)) 0,
 o1 159 (.fieldAddr 6 (tm 4)) 0,
 o1 160 (.load false 1 (tm 159)) 0,
 o1 161 (.fieldAddr 1 (tm 17)) 0,
 o1 162 (.load false 1 (tm 161)) 0,
 o1 163 (.call (.func 64) [(true,(tm 152)),(false,(tm 154)),(false,(tm 156)),(false,(tm 158)),(false,(tm 160)),(false,(tm 162))] false 4) 0,
 o1 151 (.move (tm 163)) 4,
 o1 164 (.extract (tm 151) 0) 4,
 o1 165 (.extract (tm 151) 1) 4,
 o1 21 (.move (tm 164)) 4,
 o1 22 (.move (tm 165)) 4] []) (.seq (.region 0 [
 o1 166 (.move (tm 20)) 0,
 o1 167 (.move (tm 166)) 0,
 o3 168 (.move (tm 22)) 167 0,
 o1 169 (.pick (tm 167) (tm 168) (.const (.bool false))) 0,
 o1 170 (.move (tm 169)) 0,
 o3 171 (.fieldAddr 1 (tm 19)) 170 0,
 o3 172 (.load false 1 (tm 171)) 170 0,
 o3 173 (.fieldAddr 1 (tm 17)) 170 0,
 o3 174 (.load false 1 (tm 173)) 170 0,
 o3 175 (.bin .leq (tm 172) (tm 174)) 170 0,
 o1 176 (.pick (tm 170) (tm 175) (.const (.bool false))) 0,
 o1 6 (.move (tm 176)) 0] []) (.ret)))))))))))))))),[.tmp 6],true⟩
def s9 : Sig := ⟨(.cons (.v (.pair .spec (.pair (.int .i64) (.pair (.list .run) (.list .booking))))) (.cons (.v (.pair (.int .i64) (.pair (.int .i64) (.pair .res (.int .i64))))) (.cons (.v (.int .u8)) .nil))),[],((.v .bool),[]),[]⟩
def l9_0 (g62 : Spec → Int → (List Run) → (List Booking) → Option Tae) (g63_1 : Int → Int → Res → Int → Int → (List (List Int)) → (List (List Step)) → Option (Tad × Taa)) (g63 : Int → Int → Res → Int → Option Tad) (g64 : Int → Int → Res → Int → Int → Option ((List Share) × (Bool × Unit))) (g64_1 : Int → Int → Res → Int → Int → Int → (List (List Int)) → (List (List Step)) → Option Tak) (at2 : Int) (v7 : Int) (z11 : Tac) (nx38 : Tah → Option Bool) (z39 : Int) (z40 : Tac) (z41 : (Int × (Int × (Res × Int)))) (z42 : Int) (z43 : (List Res)) (z44 : (List (List Int))) (z45 : (List Queue)) (z46 : Int) (z47 : Int) (z48 : Int) (z49 : Int) (z50 : Int) (z51 : Int) (z52 : Int) (z53 : Int) (z54 : Int) (z55 : Int) (z56 : Int) (z57 : Int) (z58 : Int) (z59 : Int) (z60 : Int) (z61 : Int) (z62 : (List (List Int))) (z63 : (List (List Step))) (z64 : (List Run)) (z65 : (List Booking)) : Option Bool :=
 cond (decide (z39 < (List.length z11.2.2.2 : Int)))
 (cond (decide (0 ≤ z39))
 (Option.bind (z11.2.2.2[Int.toNat z39]?) fun y66 =>
 cond (!decide ((IntKind.wrap .i64 (z39 + (List.length z40.2.2.1 : Int))) = (Int.tmod (IntKind.wrap .i64 (at2)) v7)))
 (cond (smallB ((List.length z65) + 1) 32)
 (nx38 (((),(),(),(),IntKind.wrap .i64 (z39 + 1),()),(z40,z41,(z42,(),(),()),(z43,z44,z45,z46,z47,z48,z49,z50,z51,z52,z53,z54,z55,z56,z57,z58,z59,z60,z61,(),(),()),z62,z63,z64,z65 ++ [y66],())))
 (none))
 (nx38 (((),(),(),(),IntKind.wrap .i64 (z39 + 1),()),(z40,z41,(z42,(),(),()),(z43,z44,z45,z46,z47,z48,z49,z50,z51,z52,z53,z54,z55,z56,z57,z58,z59,z60,z61,(),(),()),z62,z63,z64,z65,()))))
 (none))
 (Option.bind (g62 (Spec.mk z43 z44 z45 z46 (Weights.mk z47 z48 z49 z50) z51 z52 z53 z54 z55 z56 z57 z58 z59 z60) z61 z64 z65) (Sum.elim (fun r67 =>
 cond (!decide (r67.2.1 = 0))
 (some false)
 (Option.bind (g63_1 z41.1 z41.2.1 z41.2.2.1 z41.2.2.2 z42 z62 z63) fun r68 =>
 cond (true && ((decide ((List.length r68.2.2.1) = (List.length z62))) && ((decide ((List.length r68.2.2.2.1) = (List.length z63))) && true)))
 (Option.bind (g63 z41.1 z41.2.1 z41.2.2.1 z41.2.2.2) fun r69 =>
 cond (!r68.1.2.1)
 (some true)
 (Option.bind (g64 z41.1 z41.2.1 z41.2.2.1 z41.2.2.2 r68.1.1.2.1) fun r70 =>
 cond r69.2.1
 (cond r70.2.1
 (some (decide (r69.1.2.1 ≤ r68.1.1.2.1)))
 (some false))
 (some false)))
 (none))) (fun r71 =>
 cond (!decide (r71.1.2.1 = 0))
 (some false)
 (Option.bind (g63_1 z41.1 z41.2.1 z41.2.2.1 z41.2.2.2 z42 z62 z63) fun r72 =>
 cond (true && ((decide ((List.length r72.2.2.1) = (List.length z62))) && ((decide ((List.length r72.2.2.2.1) = (List.length z63))) && true)))
 (Option.bind (g63_1 z41.1 z41.2.1 z41.2.2.1 z41.2.2.2 r71.2.1.1 r71.2.2.1 r71.2.2.2.1) fun r73 =>
 cond (true && ((decide ((List.length r73.2.2.1) = (List.length r71.2.2.1))) && ((decide ((List.length r73.2.2.2.1) = (List.length r71.2.2.2.1))) && true)))
 (cond (!r72.1.2.1)
 (some true)
 (Option.bind (g64_1 z41.1 z41.2.1 z41.2.2.1 z41.2.2.2 r72.1.1.2.1 r73.2.1.1 r73.2.2.1 r73.2.2.2.1) fun r74 =>
 cond (true && ((decide ((List.length r74.2.2.1) = (List.length r73.2.2.1))) && ((decide ((List.length r74.2.2.2.1) = (List.length r73.2.2.2.1))) && true)))
 (cond r73.1.2.1
 (cond r74.1.2.1
 (some (decide (r73.1.1.2.1 ≤ r72.1.1.2.1)))
 (some false))
 (some false))
 (none)))
 (none))
 (none)))))
def l9_1 (L : Lp) (g62 : Spec → Int → (List Run) → (List Booking) → Option Tae) (g63_1 : Int → Int → Res → Int → Int → (List (List Int)) → (List (List Step)) → Option (Tad × Taa)) (g63 : Int → Int → Res → Int → Option Tad) (g64 : Int → Int → Res → Int → Int → Option ((List Share) × (Bool × Unit))) (g64_1 : Int → Int → Res → Int → Int → Int → (List (List Int)) → (List (List Step)) → Option Tak) (at2 : Int) (x6 : Tam) (v7 : Int) (nx9 : Tai → Option Bool) (z10 : Int) (z11 : Tac) (z12 : (Int × (Int × (Res × Int)))) (z13 : Int) (z14 : (List Res)) (z15 : (List (List Int))) (z16 : (List Queue)) (z17 : Int) (z18 : Int) (z19 : Int) (z20 : Int) (z21 : Int) (z22 : Int) (z23 : Int) (z24 : Int) (z25 : Int) (z26 : Int) (z27 : Int) (z28 : Int) (z29 : Int) (z30 : Int) (z31 : Int) (z32 : Int) (z33 : (List (List Int))) (z34 : (List (List Step))) (z35 : (List Run)) : Option Bool :=
 cond (decide (z10 < (List.length x6.2.1.2.2.1 : Int)))
 (cond (decide (0 ≤ z10))
 (Option.bind (x6.2.1.2.2.1[Int.toNat z10]?) fun y36 =>
 cond (!decide (z10 = (Int.tmod (IntKind.wrap .i64 (at2)) v7)))
 (cond (smallB ((List.length z35) + 1) 64)
 (nx9 (((),(),(),(),IntKind.wrap .i64 (z10 + 1),()),(z11,z12,(z13,(),(),()),(z14,z15,z16,z17,z18,z19,z20,z21,z22,z23,z24,z25,z26,z27,z28,z29,z30,z31,z32,(),(),()),z33,z34,z35 ++ [y36],())))
 (none))
 (nx9 (((),(),(),(),IntKind.wrap .i64 (z10 + 1),()),(z11,z12,(z13,(),(),()),(z14,z15,z16,z17,z18,z19,z20,z21,z22,z23,z24,z25,z26,z27,z28,z29,z30,z31,z32,(),(),()),z33,z34,z35,()))))
 (none))
 (L (fun (s37 : Tah) nx38 => l9_0 g62 g63_1 g63 g64 g64_1 at2 v7 z11 nx38 s37.1.2.2.2.2.1 s37.2.1 s37.2.2.1 s37.2.2.2.1.1 s37.2.2.2.2.1.1 s37.2.2.2.2.1.2.1 s37.2.2.2.2.1.2.2.1 s37.2.2.2.2.1.2.2.2.1 s37.2.2.2.2.1.2.2.2.2.1 s37.2.2.2.2.1.2.2.2.2.2.1 s37.2.2.2.2.1.2.2.2.2.2.2.1 s37.2.2.2.2.1.2.2.2.2.2.2.2.1 s37.2.2.2.2.1.2.2.2.2.2.2.2.2.1 s37.2.2.2.2.1.2.2.2.2.2.2.2.2.2.1 s37.2.2.2.2.1.2.2.2.2.2.2.2.2.2.2.1 s37.2.2.2.2.1.2.2.2.2.2.2.2.2.2.2.2.1 s37.2.2.2.2.1.2.2.2.2.2.2.2.2.2.2.2.2.1 s37.2.2.2.2.1.2.2.2.2.2.2.2.2.2.2.2.2.2.1 s37.2.2.2.2.1.2.2.2.2.2.2.2.2.2.2.2.2.2.2.1 s37.2.2.2.2.1.2.2.2.2.2.2.2.2.2.2.2.2.2.2.2.1 s37.2.2.2.2.1.2.2.2.2.2.2.2.2.2.2.2.2.2.2.2.2.1 s37.2.2.2.2.1.2.2.2.2.2.2.2.2.2.2.2.2.2.2.2.2.2.1 s37.2.2.2.2.1.2.2.2.2.2.2.2.2.2.2.2.2.2.2.2.2.2.2.1 s37.2.2.2.2.2.1 s37.2.2.2.2.2.2.1 s37.2.2.2.2.2.2.2.1 s37.2.2.2.2.2.2.2.2.1) (((),(),(),(),0,()),(z11,z12,(z13,(),(),()),(z14,z15,z16,z17,z18,z19,z20,z21,z22,z23,z24,z25,z26,z27,z28,z29,z30,z31,z32,(),(),()),z33,z34,z35,[],())))
def l9_2 (g62 : Spec → Int → (List Run) → (List Booking) → Option Tae) (g63_1 : Int → Int → Res → Int → Int → (List (List Int)) → (List (List Step)) → Option (Tad × Taa)) (g63 : Int → Int → Res → Int → Option Tad) (g64 : Int → Int → Res → Int → Int → Option ((List Share) × (Bool × Unit))) (g64_1 : Int → Int → Res → Int → Int → Int → (List (List Int)) → (List (List Step)) → Option Tak) (at2 : Int) (v77 : Int) (z81 : Tac) (nx108 : Tah → Option Bool) (z109 : Int) (z110 : Tac) (z111 : (Int × (Int × (Res × Int)))) (z112 : Int) (z113 : (List Res)) (z114 : (List (List Int))) (z115 : (List Queue)) (z116 : Int) (z117 : Int) (z118 : Int) (z119 : Int) (z120 : Int) (z121 : Int) (z122 : Int) (z123 : Int) (z124 : Int) (z125 : Int) (z126 : Int) (z127 : Int) (z128 : Int) (z129 : Int) (z130 : Int) (z131 : Int) (z132 : (List (List Int))) (z133 : (List (List Step))) (z134 : (List Run)) (z135 : (List Booking)) : Option Bool :=
 cond (decide (z109 < (List.length z81.2.2.2 : Int)))
 (cond (decide (0 ≤ z109))
 (Option.bind (z81.2.2.2[Int.toNat z109]?) fun y136 =>
 cond (!decide ((IntKind.wrap .i64 (z109 + (List.length z110.2.2.1 : Int))) = (Int.tmod (IntKind.wrap .i64 (at2)) v77)))
 (cond (smallB ((List.length z135) + 1) 32)
 (nx108 (((),(),(),(),IntKind.wrap .i64 (z109 + 1),()),(z110,z111,(z112,(),(),()),(z113,z114,z115,z116,z117,z118,z119,z120,z121,z122,z123,z124,z125,z126,z127,z128,z129,z130,z131,(),(),()),z132,z133,z134,z135 ++ [y136],())))
 (none))
 (nx108 (((),(),(),(),IntKind.wrap .i64 (z109 + 1),()),(z110,z111,(z112,(),(),()),(z113,z114,z115,z116,z117,z118,z119,z120,z121,z122,z123,z124,z125,z126,z127,z128,z129,z130,z131,(),(),()),z132,z133,z134,z135,()))))
 (none))
 (Option.bind (g62 (Spec.mk z113 z114 z115 z116 (Weights.mk z117 z118 z119 z120) z121 z122 z123 z124 z125 z126 z127 z128 z129 z130) z131 z134 z135) (Sum.elim (fun r137 =>
 cond (!decide (r137.2.1 = 0))
 (some false)
 (Option.bind (g63_1 z111.1 z111.2.1 z111.2.2.1 z111.2.2.2 z112 z132 z133) fun r138 =>
 cond (true && ((decide ((List.length r138.2.2.1) = (List.length z132))) && ((decide ((List.length r138.2.2.2.1) = (List.length z133))) && true)))
 (Option.bind (g63 z111.1 z111.2.1 z111.2.2.1 z111.2.2.2) fun r139 =>
 cond (!r138.1.2.1)
 (some true)
 (Option.bind (g64 z111.1 z111.2.1 z111.2.2.1 z111.2.2.2 r138.1.1.2.1) fun r140 =>
 cond r139.2.1
 (cond r140.2.1
 (some (decide (r139.1.2.1 ≤ r138.1.1.2.1)))
 (some false))
 (some false)))
 (none))) (fun r141 =>
 cond (!decide (r141.1.2.1 = 0))
 (some false)
 (Option.bind (g63_1 z111.1 z111.2.1 z111.2.2.1 z111.2.2.2 z112 z132 z133) fun r142 =>
 cond (true && ((decide ((List.length r142.2.2.1) = (List.length z132))) && ((decide ((List.length r142.2.2.2.1) = (List.length z133))) && true)))
 (Option.bind (g63_1 z111.1 z111.2.1 z111.2.2.1 z111.2.2.2 r141.2.1.1 r141.2.2.1 r141.2.2.2.1) fun r143 =>
 cond (true && ((decide ((List.length r143.2.2.1) = (List.length r141.2.2.1))) && ((decide ((List.length r143.2.2.2.1) = (List.length r141.2.2.2.1))) && true)))
 (cond (!r142.1.2.1)
 (some true)
 (Option.bind (g64_1 z111.1 z111.2.1 z111.2.2.1 z111.2.2.2 r142.1.1.2.1 r143.2.1.1 r143.2.2.1 r143.2.2.2.1) fun r144 =>
 cond (true && ((decide ((List.length r144.2.2.1) = (List.length r143.2.2.1))) && ((decide ((List.length r144.2.2.2.1) = (List.length r143.2.2.2.1))) && true)))
 (cond r143.1.2.1
 (cond r144.1.2.1
 (some (decide (r143.1.1.2.1 ≤ r142.1.1.2.1)))
 (some false))
 (some false))
 (none)))
 (none))
 (none)))))
def l9_3 (L : Lp) (g62 : Spec → Int → (List Run) → (List Booking) → Option Tae) (g63_1 : Int → Int → Res → Int → Int → (List (List Int)) → (List (List Step)) → Option (Tad × Taa)) (g63 : Int → Int → Res → Int → Option Tad) (g64 : Int → Int → Res → Int → Int → Option ((List Share) × (Bool × Unit))) (g64_1 : Int → Int → Res → Int → Int → Int → (List (List Int)) → (List (List Step)) → Option Tak) (at2 : Int) (x76 : Tam) (v77 : Int) (nx79 : Tai → Option Bool) (z80 : Int) (z81 : Tac) (z82 : (Int × (Int × (Res × Int)))) (z83 : Int) (z84 : (List Res)) (z85 : (List (List Int))) (z86 : (List Queue)) (z87 : Int) (z88 : Int) (z89 : Int) (z90 : Int) (z91 : Int) (z92 : Int) (z93 : Int) (z94 : Int) (z95 : Int) (z96 : Int) (z97 : Int) (z98 : Int) (z99 : Int) (z100 : Int) (z101 : Int) (z102 : Int) (z103 : (List (List Int))) (z104 : (List (List Step))) (z105 : (List Run)) : Option Bool :=
 cond (decide (z80 < (List.length x76.2.1.2.2.1 : Int)))
 (cond (decide (0 ≤ z80))
 (Option.bind (x76.2.1.2.2.1[Int.toNat z80]?) fun y106 =>
 cond (!decide (z80 = (Int.tmod (IntKind.wrap .i64 (at2)) v77)))
 (cond (smallB ((List.length z105) + 1) 64)
 (nx79 (((),(),(),(),IntKind.wrap .i64 (z80 + 1),()),(z81,z82,(z83,(),(),()),(z84,z85,z86,z87,z88,z89,z90,z91,z92,z93,z94,z95,z96,z97,z98,z99,z100,z101,z102,(),(),()),z103,z104,z105 ++ [y106],())))
 (none))
 (nx79 (((),(),(),(),IntKind.wrap .i64 (z80 + 1),()),(z81,z82,(z83,(),(),()),(z84,z85,z86,z87,z88,z89,z90,z91,z92,z93,z94,z95,z96,z97,z98,z99,z100,z101,z102,(),(),()),z103,z104,z105,()))))
 (none))
 (L (fun (s107 : Tah) nx108 => l9_2 g62 g63_1 g63 g64 g64_1 at2 v77 z81 nx108 s107.1.2.2.2.2.1 s107.2.1 s107.2.2.1 s107.2.2.2.1.1 s107.2.2.2.2.1.1 s107.2.2.2.2.1.2.1 s107.2.2.2.2.1.2.2.1 s107.2.2.2.2.1.2.2.2.1 s107.2.2.2.2.1.2.2.2.2.1 s107.2.2.2.2.1.2.2.2.2.2.1 s107.2.2.2.2.1.2.2.2.2.2.2.1 s107.2.2.2.2.1.2.2.2.2.2.2.2.1 s107.2.2.2.2.1.2.2.2.2.2.2.2.2.1 s107.2.2.2.2.1.2.2.2.2.2.2.2.2.2.1 s107.2.2.2.2.1.2.2.2.2.2.2.2.2.2.2.1 s107.2.2.2.2.1.2.2.2.2.2.2.2.2.2.2.2.1 s107.2.2.2.2.1.2.2.2.2.2.2.2.2.2.2.2.2.1 s107.2.2.2.2.1.2.2.2.2.2.2.2.2.2.2.2.2.2.1 s107.2.2.2.2.1.2.2.2.2.2.2.2.2.2.2.2.2.2.2.1 s107.2.2.2.2.1.2.2.2.2.2.2.2.2.2.2.2.2.2.2.2.1 s107.2.2.2.2.1.2.2.2.2.2.2.2.2.2.2.2.2.2.2.2.2.1 s107.2.2.2.2.1.2.2.2.2.2.2.2.2.2.2.2.2.2.2.2.2.2.1 s107.2.2.2.2.1.2.2.2.2.2.2.2.2.2.2.2.2.2.2.2.2.2.2.1 s107.2.2.2.2.2.1 s107.2.2.2.2.2.2.1 s107.2.2.2.2.2.2.2.1 s107.2.2.2.2.2.2.2.2.1) (((),(),(),(),0,()),(z81,z82,(z83,(),(),()),(z84,z85,z86,z87,z88,z89,z90,z91,z92,z93,z94,z95,z96,z97,z98,z99,z100,z101,z102,(),(),()),z103,z104,z105,[],())))
def F9 (L : Lp) (g60 : Option Bool) (g61 : Tac → Option Bool) (g62 : Spec → Int → (List Run) → (List Booking) → Option Tae) (g63_1 : Int → Int → Res → Int → Int → (List (List Int)) → (List (List Step)) → Option (Tad × Taa)) (g63 : Int → Int → Res → Int → Option Tad) (g64 : Int → Int → Res → Int → Int → Option ((List Share) × (Bool × Unit))) (g64_1 : Int → Int → Res → Int → Int → Int → (List (List Int)) → (List (List Step)) → Option Tak) (w0 : Tac) (ax1 : (Int × (Int × (Res × Int)))) (at2 : Int) : Option Bool :=
 Option.bind (g60) fun r3 =>
 cond (!r3)
 (some false)
 (Option.bind (g61 w0) fun r4 =>
 cond (!r4)
 (some true)
 (cond (decide ((IntKind.wrap .i64 ((List.length w0.2.2.1 : Int) + (List.length w0.2.2.2 : Int))) = 0))
 (some true)
 (Option.bind (g62 w0.1 w0.2.1 w0.2.2.1 w0.2.2.2) (Sum.elim (fun r5 =>
 Option.bind (α := (Tam ⊕ Bool))
 (cond (!decide (r5.2.1 = 0))
 (some (.inr true))
 (none)) (Sum.elim (fun x6 =>
 let v7 := IntKind.wrap .i64 ((List.length x6.2.1.2.2.1 : Int) + (List.length x6.2.1.2.2.2 : Int))
 cond (decide (v7 = 0))
 (none)
 (L (fun (s8 : Tai) nx9 => l9_1 L g62 g63_1 g63 g64 g64_1 at2 x6 v7 nx9 s8.1.2.2.2.2.1 s8.2.1 s8.2.2.1 s8.2.2.2.1.1 s8.2.2.2.2.1.1 s8.2.2.2.2.1.2.1 s8.2.2.2.2.1.2.2.1 s8.2.2.2.2.1.2.2.2.1 s8.2.2.2.2.1.2.2.2.2.1 s8.2.2.2.2.1.2.2.2.2.2.1 s8.2.2.2.2.1.2.2.2.2.2.2.1 s8.2.2.2.2.1.2.2.2.2.2.2.2.1 s8.2.2.2.2.1.2.2.2.2.2.2.2.2.1 s8.2.2.2.2.1.2.2.2.2.2.2.2.2.2.1 s8.2.2.2.2.1.2.2.2.2.2.2.2.2.2.2.1 s8.2.2.2.2.1.2.2.2.2.2.2.2.2.2.2.2.1 s8.2.2.2.2.1.2.2.2.2.2.2.2.2.2.2.2.2.1 s8.2.2.2.2.1.2.2.2.2.2.2.2.2.2.2.2.2.2.1 s8.2.2.2.2.1.2.2.2.2.2.2.2.2.2.2.2.2.2.2.1 s8.2.2.2.2.1.2.2.2.2.2.2.2.2.2.2.2.2.2.2.2.1 s8.2.2.2.2.1.2.2.2.2.2.2.2.2.2.2.2.2.2.2.2.2.1 s8.2.2.2.2.1.2.2.2.2.2.2.2.2.2.2.2.2.2.2.2.2.2.1 s8.2.2.2.2.1.2.2.2.2.2.2.2.2.2.2.2.2.2.2.2.2.2.2.1 s8.2.2.2.2.2.1 s8.2.2.2.2.2.2.1 s8.2.2.2.2.2.2.2.1) (((),(),(),(),0,()),(x6.2.1,x6.2.2.1,(x6.2.2.2.1.1,(),(),()),(x6.2.1.1.nodes,x6.2.1.1.parts,x6.2.1.1.queues,x6.2.1.1.users,x6.2.1.1.weights.age,x6.2.1.1.weights.size,x6.2.1.1.weights.qos,x6.2.1.1.weights.share,x6.2.1.1.decay,x6.2.1.1.mode,x6.2.1.1.jobs,x6.2.1.1.ids,x6.2.1.1.versions,x6.2.1.1.linger,x6.2.1.1.keep,x6.2.1.1.inn,x6.2.1.1.out,x6.2.1.1.cache,x6.2.1.2.1,(),(),()),x6.2.2.2.2.1,x6.2.2.2.2.2.1,[],())))) some)) (fun r75 =>
 Option.bind (α := (Tam ⊕ Bool))
 (cond (!decide (r75.1.2.1 = 0))
 (some (.inr false))
 (some (.inl (((),(),(),()),(w0,ax1,(r75.2.1.1,(),(),()),r75.2.2.1,r75.2.2.2.1,()))))) (Sum.elim (fun x76 =>
 let v77 := IntKind.wrap .i64 ((List.length x76.2.1.2.2.1 : Int) + (List.length x76.2.1.2.2.2 : Int))
 cond (decide (v77 = 0))
 (none)
 (L (fun (s78 : Tai) nx79 => l9_3 L g62 g63_1 g63 g64 g64_1 at2 x76 v77 nx79 s78.1.2.2.2.2.1 s78.2.1 s78.2.2.1 s78.2.2.2.1.1 s78.2.2.2.2.1.1 s78.2.2.2.2.1.2.1 s78.2.2.2.2.1.2.2.1 s78.2.2.2.2.1.2.2.2.1 s78.2.2.2.2.1.2.2.2.2.1 s78.2.2.2.2.1.2.2.2.2.2.1 s78.2.2.2.2.1.2.2.2.2.2.2.1 s78.2.2.2.2.1.2.2.2.2.2.2.2.1 s78.2.2.2.2.1.2.2.2.2.2.2.2.2.1 s78.2.2.2.2.1.2.2.2.2.2.2.2.2.2.1 s78.2.2.2.2.1.2.2.2.2.2.2.2.2.2.2.1 s78.2.2.2.2.1.2.2.2.2.2.2.2.2.2.2.2.1 s78.2.2.2.2.1.2.2.2.2.2.2.2.2.2.2.2.2.1 s78.2.2.2.2.1.2.2.2.2.2.2.2.2.2.2.2.2.2.1 s78.2.2.2.2.1.2.2.2.2.2.2.2.2.2.2.2.2.2.2.1 s78.2.2.2.2.1.2.2.2.2.2.2.2.2.2.2.2.2.2.2.2.1 s78.2.2.2.2.1.2.2.2.2.2.2.2.2.2.2.2.2.2.2.2.2.1 s78.2.2.2.2.1.2.2.2.2.2.2.2.2.2.2.2.2.2.2.2.2.2.1 s78.2.2.2.2.1.2.2.2.2.2.2.2.2.2.2.2.2.2.2.2.2.2.2.1 s78.2.2.2.2.2.1 s78.2.2.2.2.2.2.1 s78.2.2.2.2.2.2.2.1) (((),(),(),(),0,()),(x76.2.1,x76.2.2.1,(x76.2.2.2.1.1,(),(),()),(x76.2.1.1.nodes,x76.2.1.1.parts,x76.2.1.1.queues,x76.2.1.1.users,x76.2.1.1.weights.age,x76.2.1.1.weights.size,x76.2.1.1.weights.qos,x76.2.1.1.weights.share,x76.2.1.1.decay,x76.2.1.1.mode,x76.2.1.1.jobs,x76.2.1.1.ids,x76.2.1.1.versions,x76.2.1.1.linger,x76.2.1.1.keep,x76.2.1.1.inn,x76.2.1.1.out,x76.2.1.1.cache,x76.2.1.2.1,(),(),()),x76.2.2.2.2.1,x76.2.2.2.2.2.1,[],())))) some))))))
theorem e9 (L : Lp) (g60 : Option Bool) (g61 : Tac → Option Bool) (g62 : Spec → Int → (List Run) → (List Booking) → Option Tae) (g63_1 : Int → Int → Res → Int → Int → (List (List Int)) → (List (List Step)) → Option (Tad × Taa)) (g63 : Int → Int → Res → Int → Option Tad) (g64 : Int → Int → Res → Int → Int → Option ((List Share) × (Bool × Unit))) (g64_1 : Int → Int → Res → Int → Int → Int → (List (List Int)) → (List (List Step)) → Option Tak) (x : s9.args.den) (h : denH s9.heap) : nrun [⟨60,s60,fun x h => g60 ⟩,⟨61,s61,fun x h => g61 x.1⟩,⟨62,s62,fun x h => g62 x.1 x.2.1 x.2.2.1 x.2.2.2.1⟩,⟨63,s63_1,fun x h => g63_1 x.2.1 x.2.2.1 x.2.2.2.1 x.2.2.2.2.1 h.1.1 h.2.1 h.2.2.1⟩,⟨63,s63,fun x h => g63 x.2.1 x.2.2.1 x.2.2.2.1 x.2.2.2.2.1⟩,⟨64,s64,fun x h => g64 x.2.1 x.2.2.1 x.2.2.2.1 x.2.2.2.2.1 x.2.2.2.2.2.1⟩,⟨64,s64_1,fun x h => g64_1 x.2.1 x.2.2.1 x.2.2.2.1 x.2.2.2.2.1 x.2.2.2.2.2.1 h.1.1 h.2.1 h.2.2.1⟩] L n9 s9 x h = F9 L g60 g61 g62 g63_1 g63 g64 g64_1 x.1 x.2.1 x.2.2.1 := by kernel_rfl
def f9 : Tac → (Int × (Int × (Res × Int))) → Int → Option Bool := F9 (@LN LOOPS) f60 f61 f62 f63_1 f63 f64 f64_1
@[reducible] def t9 : Ent := ⟨9,s9,fun x h => f9 x.1 x.2.1 x.2.2.1⟩
theorem k9 : chkNF Try.prog Try.f9 n9 = true := by kernel_rfl
theorem ok9 : NOk Try.prog t9 := NOk.body (T := [t60,t61,t62,t63_1,t63,t64,t64_1]) mixed (nall_cons ok60 (nall_cons ok61 (nall_cons ok62 (nall_cons ok63_1 (nall_cons ok63 (nall_cons ok64 (nall_cons ok64_1 nall_nil))))))) (oneEach_of (by kernel_rfl)) Try.func9 k9 (by kernel_rfl) (fun x h => e9 _ _ _ _ _ _ _ _ x h)
def F52 (L : Lp)  (a0 : Res) (b1 : Res) : Option Res :=
 some (Res.mk (IntKind.wrap .i64 (a0.cpu + b1.cpu)) (IntKind.wrap .i64 (a0.mem + b1.mem)) (IntKind.wrap .i64 (a0.gpu + b1.gpu)) (IntKind.wrap .i64 (a0.lic + b1.lic)))
def f52 : Res → Res → Option Res := F52 (@LN LOOPS) 
def s53 : Sig := ⟨(.cons (.v .res) (.cons (.v (.int .i64)) .nil)),[],((.v .res),[]),[]⟩
def l53_0 (g52 : Res → Res → Option Res) (an1 : Int) (nx3 : (Tal × (Res × (Res × (Res × Unit)))) → Option Res) (i4 : Int) (z5 : Res) (z6 : Res) (z7 : Res) : Option Res :=
 cond (decide (i4 < an1))
 (Option.bind (g52 z7 z5) fun r8 =>
 nx3 (((),(),(),IntKind.wrap .i64 (i4 + 1),()),(z5,z6,r8,())))
 (some z7)
def F53 (L : Lp) (g52 : Res → Res → Option Res) (need0 : Res) (an1 : Int) : Option Res :=
 L (fun (s2 : (Tal × (Res × (Res × (Res × Unit))))) nx3 => l53_0 g52 an1 nx3 s2.1.2.2.2.1 s2.2.1 s2.2.2.1 s2.2.2.2.1) (((),(),(),0,()),(need0,Res.mk 0 0 0 0,Res.mk 0 0 0 0,()))
def f53 : Res → Int → Option Res := F53 (@LN LOOPS) f52
@[reducible] def t53 : Ent := ⟨53,s53,fun x h => f53 x.1 x.2.1⟩
def s10 : Sig := ⟨(.cons (.v (.pair .spec (.pair (.int .i64) (.pair (.list .run) (.list .booking))))) (.cons (.v (.pair (.int .i64) (.pair (.int .i64) (.pair .res (.int .i64))))) .nil)),[],((.v .bool),[]),[]⟩
end NM
end Go.Proofs.Ytmnhkpekmgobbaa
end
section
namespace Go.Proofs.Ytmnhkpekmgobbaa
namespace NM
open AM
def resOk (a : Res) : Bool := decide (0 ≤ a.cpu ∧ a.cpu ≤ 1048576 ∧ 0 ≤ a.mem ∧ a.mem ≤ 1048576 ∧ 0 ≤ a.gpu ∧ a.gpu ≤ 1048576 ∧ 0 ≤ a.lic ∧ a.lic ≤ 1048576)
def asc (e : Int) : Int → List Int → Bool
 | _, [] => true
 | a, n :: l => decide (a < n) && decide (n < e) && asc e n l
def nodesOk (s : Spec) : Bool := decide (1 ≤ s.nodes.length ∧ s.nodes.length ≤ 16) && s.nodes.all resOk
def partsOk (s : Spec) : Bool := decide (1 ≤ s.parts.length ∧ s.parts.length ≤ 8) && s.parts.all fun p => decide (1 ≤ p.length) && asc s.nodes.length (-1) p
def queueOk (s : Spec) (q : Queue) : Bool := decide (0 ≤ q.part ∧ q.part < s.parts.length) && asc s.users (-1) q.users && decide (1 ≤ q.maxJobs ∧ q.maxJobs ≤ 256 ∧ 1 ≤ q.maxRun ∧ q.maxRun ≤ 256 ∧ 1 ≤ q.maxUser ∧ q.maxUser ≤ 256 ∧ 0 ≤ q.qos ∧ q.qos ≤ 100)
def queuesOk (s : Spec) : Bool := decide (1 ≤ s.queues.length ∧ s.queues.length ≤ 8) && s.queues.all (queueOk s)
def weightsOk (w : Weights) : Bool := decide (0 ≤ w.age ∧ w.age ≤ 1000 ∧ 0 ≤ w.size ∧ w.size ≤ 1000 ∧ 0 ≤ w.qos ∧ w.qos ≤ 1000 ∧ 0 ≤ w.share ∧ w.share ≤ 1000)
theorem p_numbers (a : Res) : f160 a = some (a.cpu, a.mem, a.gpu, a.lic) := rfl
theorem p_vecRightS (a : Res) : f108 a = some (resOk a) := by
 unfold f108 F108
 simp only [p_numbers, Option.bind_some, cond_somes]
 congr 1
 rw [Bool.eq_iff_iff]
 simp [resOk]
theorem p_nodesRight (s : Spec) (hs : Rng.P s) : f205 s = some (nodesOk s) := by
 unfold f205 F205
 rw [all_loop s.nodes (fun z => ((z, ()), ())) resOk true hs.1.1]
 · simp only [cond_somes, nodesOk, Bool.and_true]
   congr 1
   cases s.nodes.all resOk <;> rw [Bool.eq_iff_iff] <;> simp <;> omega
 · intro next
   simp [l205_0]
 · intro z x next h0 h1 h2 h3
   simp only [l205_0, h0, h1, h2, h3, decide_true, cond_true, Option.bind_some, p_vecRightS]
   cases resOk x <;> rfl
theorem p_ascending (l : List Int) (hl : l.length ≤ maxLen) (e : Int) : f221 l e = some (asc e (-1) l) := by
 unfold f221 F221
 rw [list_loop l (fun b z => ((b, z, ()), ())) (fun b x => cond (decide (x ≤ b) || decide (e ≤ x)) (.inr (some false)) (.inl x)) (fun _ => some true) hl]
 · generalize (-1 : Int) = a
   clear hl
   induction l generalizing a with
   | nil => rfl
   | cons n l ih =>
     simp only [runL, asc]
     by_cases h1 : n ≤ a
     · simp [h1]; omega
     · by_cases h2 : e ≤ n
       · simp [h1, h2]; omega
       · have h3 : a < n := by omega
         have h4 : n < e := by omega
         simp [h1, h2, h3, h4, ih]
 · intro b next
   simp [l221_0]
 · intro b z x next h0 h1 h2 h3
   simp only [l221_0, h0, h1, h2, h3, decide_true, cond_true, Option.bind_some]
   by_cases h4 : x ≤ b <;> by_cases h5 : e ≤ x <;> simp [h4, h5]
theorem p_partsRight (s : Spec) (hs : Rng.P s) : f207 s = some (partsOk s) := by
 unfold f207 F207
 rw [all_loop s.parts (fun z => (((), z, ()), (s, ()))) (fun p => decide (1 ≤ p.length) && asc s.nodes.length (-1) p) true hs.2.1.1]
 · simp only [cond_somes, partsOk, Bool.and_true]
   congr 1
   cases s.parts.all _ <;> rw [Bool.eq_iff_iff] <;> simp <;> omega
 · intro next
   simp [l207_0]
 · intro z x next h0 h1 h2 h3
   have hx := (hs.2.1.2 x (List.mem_of_getElem? h2)).1
   simp only [l207_0, h0, h1, h2, h3, decide_true, cond_true, Option.bind_some, p_ascending x hx]
   by_cases h4 : x.length < 1
   · have : x = [] := List.eq_nil_of_length_eq_zero (by omega)
     simp [this]
   · have h5 : 1 ≤ x.length := by omega
     have h6 : ¬ ((x.length : Int) < 1) := by omega
     simp only [h5, h6, decide_true, decide_false, cond_false, Bool.true_and]
     cases asc s.nodes.length (-1) x <;> rfl
theorem p_queuesRight (s : Spec) (hs : Rng.P s) : f210 s = some (queuesOk s) := by
 unfold f210 F210
 rw [all_loop s.queues (fun z => (((), z, ()), (s, ()))) (queueOk s) true hs.2.2.1.1]
 · simp only [cond_somes, queuesOk, Bool.and_true]
   congr 1
   cases s.queues.all _ <;> rw [Bool.eq_iff_iff] <;> simp <;> omega
 · intro next
   simp [l210_0]
 · intro z x next h0 h1 h2 h3
   have hx : x.users.length ≤ maxLen := (hs.2.2.1.2 x (List.mem_of_getElem? h2)).2.1.1
   simp only [l210_0, h0, h1, h2, h3, decide_true, cond_true, Option.bind_some, p_ascending _ hx, chk0 next, chk1]
   congr 1
   simp only [queueOk]
   cases asc s.users (-1) x.users <;> rw [Bool.eq_iff_iff] <;> simp <;> omega
theorem p_weightsRight (w : Weights) : f212 w = some (weightsOk w) := by
 unfold f212 F212
 simp only [cond_somes]
 congr 1
 rw [Bool.eq_iff_iff]
 simp [weightsOk]
def inRg (n lo hi : Int) : Bool := decide (lo ≤ n) && decide (n ≤ hi)
theorem p_c1 (s : Spec) (hs : Rng.P s) : f204 s.nodes s.parts s.queues s.users s.weights.age s.weights.size s.weights.qos s.weights.share s.decay s.mode s.jobs s.ids s.versions s.linger s.keep s.inn s.out s.cache = some (nodesOk s) := (congrArg (fun o => Option.bind o fun r => some r) (p_nodesRight s hs)).trans rfl
theorem p_c2 (s : Spec) (hs : Rng.P s) : f206 s.nodes s.parts s.queues s.users s.weights.age s.weights.size s.weights.qos s.weights.share s.decay s.mode s.jobs s.ids s.versions s.linger s.keep s.inn s.out s.cache = some (partsOk s) := (congrArg (fun o => Option.bind o fun r => some r) (p_partsRight s hs)).trans rfl
theorem p_c3 (s : Spec) (hs : Rng.P s) : f209 s.nodes s.parts s.queues s.users s.weights.age s.weights.size s.weights.qos s.weights.share s.decay s.mode s.jobs s.ids s.versions s.linger s.keep s.inn s.out s.cache = some (queuesOk s) := (congrArg (fun o => Option.bind o fun r => some r) (p_queuesRight s hs)).trans rfl
theorem p_c4 (s : Spec) : f211 s.nodes s.parts s.queues s.users s.weights.age s.weights.size s.weights.qos s.weights.share s.decay s.mode s.jobs s.ids s.versions s.linger s.keep s.inn s.out s.cache = some (weightsOk s.weights) := (congrArg (fun o => Option.bind o fun r => some r) (p_weightsRight s.weights)).trans rfl
theorem p_c5 (s : Spec) : f213 s.nodes s.parts s.queues s.users s.weights.age s.weights.size s.weights.qos s.weights.share s.decay s.mode s.jobs s.ids s.versions s.linger s.keep s.inn s.out s.cache = some (decide (s.mode = 1) || decide (s.mode = 2)) := by
 unfold f213 F213
 simp only [cond_somes, Bool.cond_true_left]
theorem p_within (lo n hi : Int) : f222 lo n hi = some (inRg n lo hi) := by
 unfold f222 F222
 simp only [cond_somes, Bool.cond_false_right, inRg]
def flaw (s : Spec) : List UInt8 := cond (!(nodesOk s)) [78, 111, 100, 101, 115] (cond (!(partsOk s)) [80, 97, 114, 116, 115] (cond (!(inRg s.users 1 8)) [85, 115, 101, 114, 115] (cond (!(queuesOk s)) [81, 117, 101, 117, 101, 115] (cond (!(weightsOk s.weights)) [87, 101, 105, 103, 104, 116, 115] (cond (!(inRg s.decay 1 16)) [68, 101, 99, 97, 121] (cond (!(decide (s.mode = 1) || decide (s.mode = 2))) [77, 111, 100, 101] (cond (!(inRg s.jobs 1 256)) [74, 111, 98, 115] (cond (!(inRg s.ids 1 1048576)) [73, 100, 115] (cond (!(inRg s.versions 1 65536)) [86, 101, 114, 115, 105, 111, 110, 115] (cond (!(inRg s.linger 0 65536)) [76, 105, 110, 103, 101, 114] (cond (!(inRg s.keep 1 16)) [75, 101, 101, 112] (cond (!(inRg s.inn 1 8)) [73, 110] (cond (!(inRg s.out 1 16)) [79, 117, 116] (cond (!(inRg s.cache 0 16)) [67, 97, 99, 104, 101] ([])))))))))))))))
def specOk (s : Spec) : Bool := nodesOk s && (partsOk s && (inRg s.users 1 8 && (queuesOk s && (weightsOk s.weights && (inRg s.decay 1 16 && ((decide (s.mode = 1) || decide (s.mode = 2)) && (inRg s.jobs 1 256 && (inRg s.ids 1 1048576 && (inRg s.versions 1 65536 && (inRg s.linger 0 65536 && (inRg s.keep 1 16 && (inRg s.inn 1 8 && (inRg s.out 1 16 && (inRg s.cache 0 16))))))))))))))
theorem p_Flaw (s : Spec) (hs : Rng.P s) : f156 s = some (flaw s) := by
 unfold f156 F156
 rw [show f184 s = some _ from rfl]
 simp only [Option.bind_some, p_c1 s hs, p_c2 s hs, p_c3 s hs, p_c4 s, p_c5 s, p_within, cond_somes]
 rfl
theorem flaw_bits (b0 b1 b2 b3 b4 b5 b6 b7 b8 b9 b10 b11 b12 b13 b14 : Bool) : decide (cond (!b0) [78, 111, 100, 101, 115] (cond (!b1) [80, 97, 114, 116, 115] (cond (!b2) [85, 115, 101, 114, 115] (cond (!b3) [81, 117, 101, 117, 101, 115] (cond (!b4) [87, 101, 105, 103, 104, 116, 115] (cond (!b5) [68, 101, 99, 97, 121] (cond (!b6) [77, 111, 100, 101] (cond (!b7) [74, 111, 98, 115] (cond (!b8) [73, 100, 115] (cond (!b9) [86, 101, 114, 115, 105, 111, 110, 115] (cond (!b10) [76, 105, 110, 103, 101, 114] (cond (!b11) [75, 101, 101, 112] (cond (!b12) [73, 110] (cond (!b13) [79, 117, 116] (cond (!b14) [67, 97, 99, 104, 101] ([]))))))))))))))) = ([] : List UInt8)) = (b0 && (b1 && (b2 && (b3 && (b4 && (b5 && (b6 && (b7 && (b8 && (b9 && (b10 && (b11 && (b12 && (b13 && (b14))))))))))))))) := by
 cases b0; exact rfl
 cases b1; exact rfl
 cases b2; exact rfl
 cases b3; exact rfl
 cases b4; exact rfl
 cases b5; exact rfl
 cases b6; exact rfl
 cases b7; exact rfl
 cases b8; exact rfl
 cases b9; exact rfl
 cases b10; exact rfl
 cases b11; exact rfl
 cases b12; exact rfl
 cases b13; exact rfl
 cases b14; exact rfl
 rfl
theorem p_SpecRight (s : Spec) (hs : Rng.P s) : f103 s = some (specOk s) := by
 unfold f103 F103
 rw [p_Flaw s hs]
 simp only [Option.bind_some, flaw, specOk]
 exact congrArg some (flaw_bits _ _ _ _ _ _ _ _ _ _ _ _ _ _ _)
def fewB (s : Spec) : Bool := decide (s.nodes.length ≤ 40 ∧ s.parts.length ≤ 20 ∧ s.queues.length ≤ 20) && (s.parts.all (fun p => decide (p.length ≤ 40)) && s.queues.all (fun q => decide (q.users.length ≤ 40)))
theorem r_Few (s : Spec) (hs : Rng.P s) : f44 s = some (fewB s) := by
 unfold f44 F44
 rw [all_loop s.parts (fun z => (((), z, ()), (s, ()))) (fun p => decide (p.length ≤ 40)) (s.queues.all (fun q => decide (q.users.length ≤ 40))) hs.2.1.1]
 · simp only [cond_somes, fewB]
   congr 1
   cases s.parts.all _ <;> cases s.queues.all _ <;> rw [Bool.eq_iff_iff] <;> simp <;> omega
 · intro next
   simp only [l44_1, Int.lt_irrefl, decide_false, cond_false]
   rw [all_loop s.queues (fun z => ((z, ()), ())) (fun q => decide (q.users.length ≤ 40)) true hs.2.2.1.1]
   · simp
   · intro next
     simp [l44_0]
   · intro z x next h0 h1 h2 h3
     simp only [l44_0, h0, h1, h2, h3, decide_true, cond_true, Option.bind_some, chk0 next]
     congr 1
     rw [Bool.eq_iff_iff]; simp; omega
 · intro z x next h0 h1 h2 h3
   simp only [l44_1, h0, h1, h2, h3, decide_true, cond_true, Option.bind_some, chk0 next]
   congr 1
   rw [Bool.eq_iff_iff]; simp; omega
theorem loop_run {σ ω : Type} {f : σ → (σ → Option ω) → Option ω} {r : Option ω} (n : Nat) (hn : n < LOOPS) (s : Nat → σ) (hs : ∀ i, i < n → ∀ next, f (s i) next = next (s (i + 1))) (hend : ∀ next, f (s n) next = r) : LN LOOPS f (s 0) = r := by
 have key : ∀ m i, i ≤ n → n - i < m → loopN f m (s i) = r := by
   intro m
   induction m with
   | zero => intro i _ h; omega
   | succ m ih =>
     intro i hi hm
     simp only [loopN]
     rcases Nat.lt_or_ge i n with h | h
     · rw [hs i h]
       exact ih (i + 1) h (by omega)
     · have : i = n := by omega
       subst this
       exact hend _
 exact key LOOPS 0 (Nat.zero_le _) (by omega)
def zRes (a : Res) : Bool := (decide (a.cpu = 0)) && ((decide (a.mem = 0)) && ((decide (a.gpu = 0)) && ((decide (a.lic = 0)) && true)))
def stepC (x y n : Int) : Int := if 0 < y then min n (x / y) else n
def countI (a b : Res) : Int := if resOk a = true ∧ resOk b = true ∧ zRes b = false then stepC a.lic b.lic (stepC a.gpu b.gpu (stepC a.mem b.mem (stepC a.cpu b.cpu 64))) else 0
theorem div_wrap {x y : Int} (hx : 0 ≤ x) (hx2 : x ≤ 1048576) (hy : 0 < y) : IntKind.wrap .i64 (Int.tdiv x y) = x / y := by
 rw [Int.tdiv_eq_ediv_of_nonneg hx]
 have h1 := Int.ediv_nonneg hx (Int.le_of_lt hy)
 have h2 := Int.ediv_le_self y hx
 exact wi (by omega) (by omega)
theorem min_if (a n : Int) : (if a < n then a else n) = min n a := by
 rw [Int.min_def]
 split <;> split <;> omega
def accC (a b : Res) : Nat → Int
 | 0 => 64
 | 1 => stepC a.cpu b.cpu 64
 | 2 => stepC a.mem b.mem (stepC a.cpu b.cpu 64)
 | 3 => stepC a.gpu b.gpu (stepC a.mem b.mem (stepC a.cpu b.cpu 64))
 | _ => stepC a.lic b.lic (stepC a.gpu b.gpu (stepC a.mem b.mem (stepC a.cpu b.cpu 64)))
theorem p_Count (a b : Res) : f190 a b = some (countI a b) := by
 unfold f190 F190
 simp only [p_vecRightS, p_numbers, Option.bind_some]
 unfold countI
 cases ha : resOk a with
 | false => simp
 | true =>
   cases hb : resOk b with
   | false => simp
   | true =>
     change cond (!true) _ (cond (!true) _ (cond (zRes b) _ _)) = _
     cases hz : zRes b with
     | true => simp
     | false =>
       simp only [Bool.not_true, cond_false, true_and, if_true]
       simp only [resOk, decide_eq_true_eq] at ha hb
       refine loop_run 4 (by decide) (fun i => ((accC a b i, (), (), (i : Int), ()), ((a.cpu, a.mem, a.gpu, a.lic), (b.cpu, b.mem, b.gpu, b.lic), ()))) (fun i hi next => ?_) (fun next => ?_)
       · match i, hi with
         | 0, _ =>
           by_cases hy : 0 < b.cpu
           · simp [l190_0, hy, accC, stepC, div_wrap ha.1 ha.2.1 hy, min_if, wi, show b.cpu ≠ 0 by omega]
           · simp [l190_0, hy, accC, stepC, wi]
         | 1, _ =>
           by_cases hy : 0 < b.mem
           · simp [l190_0, hy, accC, div_wrap ha.2.2.1 ha.2.2.2.1 hy, min_if, wi, show b.mem ≠ 0 by omega]
             simp [stepC, hy]
           · simp [l190_0, hy, accC, wi]
             simp [stepC, hy]
         | 2, _ =>
           by_cases hy : 0 < b.gpu
           · simp [l190_0, hy, accC, div_wrap ha.2.2.2.2.1 ha.2.2.2.2.2.1 hy, min_if, wi, show b.gpu ≠ 0 by omega]
             simp [stepC, hy]
           · simp [l190_0, hy, accC, wi]
             simp [stepC, hy]
         | 3, _ =>
           by_cases hy : 0 < b.lic
           · simp [l190_0, hy, accC, div_wrap ha.2.2.2.2.2.2.1 ha.2.2.2.2.2.2.2 hy, min_if, wi, show b.lic ≠ 0 by omega]
             simp [stepC, hy]
           · simp [l190_0, hy, accC, wi]
             simp [stepC, hy]
       · simp [l190_0, accC]
theorem stepC_nonneg {x y n : Int} (hx : 0 ≤ x) (hn : 0 ≤ n) : 0 ≤ stepC x y n := by
 unfold stepC
 split
 · rename_i h
   have := Int.ediv_nonneg hx (Int.le_of_lt h)
   omega
 · exact hn
theorem stepC_le {x y n : Int} : stepC x y n ≤ n := by
 unfold stepC
 split <;> omega
theorem countI_nonneg (a b : Res) : 0 ≤ countI a b := by
 unfold countI
 split
 · rename_i h
   have h1 := h.1
   simp only [resOk, decide_eq_true_eq] at h1
   exact stepC_nonneg h1.2.2.2.2.2.2.1 (stepC_nonneg h1.2.2.2.2.1 (stepC_nonneg h1.2.2.1 (stepC_nonneg h1.1 (by omega))))
 · omega
theorem countI_le (a b : Res) : countI a b ≤ 64 := by
 unfold countI
 split
 · exact Int.le_trans stepC_le (Int.le_trans stepC_le (Int.le_trans stepC_le stepC_le))
 · omega
theorem asc_mem {e : Int} : ∀ {l : List Int} {a : Int}, asc e a l = true → ∀ x, x ∈ l → a < x ∧ x < e
 | [], _, _, x, hx => by cases hx
 | n :: l, a, h, x, hx => by
   simp only [asc, Bool.and_eq_true, decide_eq_true_eq] at h
   rcases List.mem_cons.1 hx with rfl | hx
   · exact h.1
   · have := asc_mem h.2 x hx
     omega
theorem asc_len {e : Int} : ∀ {l : List Int} {a : Int}, asc e a l = true → l = [] ∨ (l.length : Int) + a < e
 | [], _, _ => .inl rfl
 | n :: l, a, h => by
   simp only [asc, Bool.and_eq_true, decide_eq_true_eq] at h
   right
   rcases asc_len h.2 with rfl | h2
   · simp only [List.length_cons, List.length_nil]; omega
   · simp only [List.length_cons]; omega
def z0 : Res := ⟨0, 0, 0, 0⟩
end NM
end Go.Proofs.Ytmnhkpekmgobbaa
end
