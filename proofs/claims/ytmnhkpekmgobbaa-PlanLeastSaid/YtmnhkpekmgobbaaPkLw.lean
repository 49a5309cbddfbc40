/-
  What the proof of PlanLeast leans on, part 23. (Many texts laid together by program.)
-/
import Derived.Test.YtmnhkpekmgobbaaPkLv
set_option linter.unnecessarySimpa false
set_option linter.unusedSimpArgs false
set_option linter.unusedVariables false
section
set_option maxRecDepth 100000
set_option maxHeartbeats 4000000
namespace Go.Proofs.Ytmnhkpekmgobbaa
namespace NM
open AM Go.RowKit
def n60 : NFunc := ⟨51,.seq (.region 0 [
 o1 0 (.move (.const (.bool false))) 0] []) (.seq (.region 5 [
 o1 8 (.call (.func 101) [] false 4) 0,
 o1 1 (.alloc [.zsl,.zsl,.zsl,.int .i64 (0),.int .i64 (0),.int .i64 (0),.int .i64 (0),.int .i64 (0),.int .i64 (0),.int .i64 (0),.int .i64 (0),.int .i64 (0),.int .i64 (0),.int .i64 (0),.int .i64 (0),.int .i64 (0),.int .i64 (0),.int .i64 (0)]) 4,
 ⟨none,.store 18 (tm 1) (tm 8),none,5,none⟩] []) (.seq (.region 7 [
 o1 10 (.load true 18 (tm 1)) 0,
 o1 11 (.build [.int .i64 (0),.int .i64 (0),.int .i64 (0),.int .i64 (0)] [(0,1,(ki 3))]) 0,
 o1 12 (.build [.int .i64 (0),.int .i64 (0)] [(0,1,(ki 0)),(1,1,(ki 1))]) 0,
 o1 13 (.buildSlice 2 1 true [.int .i64 (0),.int .i64 (0)] [(0,(tm 12))]) 0,
 o1 14 (.build [.int .i64 (0),.int .i64 (0),.int .i64 (0),.int .i64 (0),.zsl,.int .i64 (0)] [(0,4,(tm 11)),(4,1,(tm 13)),(5,1,(ki 5))]) 1,
 o1 15 (.buildSlice 6 1 true [.int .i64 (0),.int .i64 (0),.int .i64 (0),.int .i64 (0),.zsl,.int .i64 (0)] [(0,(tm 14))]) 1,
 o1 16 (.build [.int .i64 (0),.int .i64 (0),.int .i64 (0),.int .i64 (0)] [(0,1,(ki 1)),(1,1,(ki 1)),(2,1,(ki 0)),(3,1,(ki 9))]) 2,
 o1 17 (.buildSlice 4 1 true [.int .i64 (0),.int .i64 (0),.int .i64 (0),.int .i64 (0)] [(0,(tm 16))]) 2,
 o1 18 (.call (.func 62) [(false,(tm 10)),(false,(ki 0)),(false,(tm 15)),(false,(tm 17))] false 4) 3,
 o1 9 (.move (tm 18)) 7,
 o1 19 (.extract (tm 9) 0) 7,
 o1 20 (.extract (tm 9) 1) 7,
 o1 2 (.move (tm 19)) 7,
 o1 3 (.move (tm 20)) 7] []) (.seq (.region 5 [
 o1 22 (.move (tm 2)) 0,
 o1 23 (.build [.int .i64 (0),.int .i64 (0),.int .i64 (0),.int .i64 (0)] [(0,1,(ki 2))]) 0,
 o1 24 (.call (.func 63) [(true,(tm 22)),(false,(ki 0)),(false,(ki 1)),(false,(tm 23)),(false,(ki 3))] false 4) 0,
 o1 21 (.move (tm 24)) 4,
 o1 25 (.extract (tm 21) 0) 4,
 o1 26 (.extract (tm 21) 1) 4,
 o1 4 (.alloc [.int .i64 (0),.int .i64 (0),.zsl]) 4,
 ⟨none,.store 3 (tm 4) (tm 25),none,5,none⟩,
 o1 5 (.move (tm 26)) 5] []) (.seq (.region 5 [
 o1 28 (.move (tm 2)) 0,
 o1 29 (.build [.int .i64 (0),.int .i64 (0),.int .i64 (0),.int .i64 (0)] [(0,1,(ki 1))]) 0,
 o1 30 (.call (.func 63) [(true,(tm 28)),(false,(ki 0)),(false,(ki 1)),(false,(tm 29)),(false,(ki 3))] false 4) 0,
 o1 27 (.move (tm 30)) 4,
 o1 31 (.extract (tm 27) 0) 4,
 o1 32 (.extract (tm 27) 1) 4,
 o1 6 (.alloc [.int .i64 (0),.int .i64 (0),.zsl]) 4,
 ⟨none,.store 3 (tm 6) (tm 31),none,5,none⟩,
 o1 7 (.move (tm 32)) 5] []) (.seq (.region 0 [
 o1 33 (.move (tm 3)) 0,
 o1 34 (.bin .eql (tm 33) (ki 0)) 0,
 o1 35 (.move (tm 34)) 0,
 o3 36 (.move (tm 5)) 35 0,
 o1 37 (.pick (tm 35) (tm 36) (.const (.bool false))) 0,
 o1 38 (.move (tm 37)) 0,
 o3 39 (.fieldAddr 1 (tm 4)) 38 0,
 o3 40 (.load false 1 (tm 39)) 38 0,
 o3 41 (.bin .eql (tm 40) (ki 5)) 38 0,
 o1 42 (.pick (tm 38) (tm 41) (.const (.bool false))) 0,
 o1 43 (.move (tm 42)) 0,
 o3 44 (.move (tm 7)) 43 0,
 o1 45 (.pick (tm 43) (tm 44) (.const (.bool false))) 0,
 o1 46 (.move (tm 45)) 0,
 o3 47 (.fieldAddr 1 (tm 6)) 46 0,
 o3 48 (.load false 1 (tm 47)) 46 0,
 o3 49 (.bin .eql (tm 48) (ki 0)) 46 0,
 o1 50 (.pick (tm 46) (tm 49) (.const (.bool false))) 0,
 o1 0 (.move (tm 50)) 0] []) (.ret)))))),[.tmp 0],true⟩
def s60 : Sig := ⟨.nil,[],((.v .bool),[]),[]⟩
def F60 (L : Lp) (g101 : Option Spec) (g62 : Spec → Int → (List Run) → (List Booking) → Option Tae) (g63 : Int → Int → Res → Int → Option Tag) (g63_1 : Int → Int → Res → Int → Int → (List (List Int)) → (List (List Step)) → Option (Tag × Taa))  : Option Bool :=
 Option.bind (g101) fun r0 =>
 Option.bind (g62 r0 0 [Run.mk (Res.mk 3 0 0 0) [Share.mk 0 1] 5] [Booking.mk 1 1 0 9]) (Sum.elim (fun r1 =>
 Option.bind (g63 0 1 (Res.mk 2 0 0 0) 3) fun r2 =>
 Option.bind (g63 0 1 (Res.mk 1 0 0 0) 3) fun r3 =>
 cond (decide (r1.2.1 = 0))
 (cond r2.2.1
 (cond (decide (r2.1.2.1 = 5))
 (cond r3.2.1
 (some (decide (r3.1.2.1 = 0)))
 (some false))
 (some false))
 (some false))
 (some false)) (fun r4 =>
 Option.bind (g63_1 0 1 (Res.mk 2 0 0 0) 3 r4.2.1.1 r4.2.2.1 r4.2.2.2.1) fun r5 =>
 cond (true && ((decide ((List.length r5.2.2.1) = (List.length r4.2.2.1))) && ((decide ((List.length r5.2.2.2.1) = (List.length r4.2.2.2.1))) && true)))
 (Option.bind (g63_1 0 1 (Res.mk 1 0 0 0) 3 r5.2.1.1 r5.2.2.1 r5.2.2.2.1) fun r6 =>
 cond (true && ((decide ((List.length r6.2.2.1) = (List.length r5.2.2.1))) && ((decide ((List.length r6.2.2.2.1) = (List.length r5.2.2.2.1))) && true)))
 (cond (decide (r4.1.2.1 = 0))
 (cond r5.1.2.1
 (cond (decide (r5.1.1.2.1 = 5))
 (cond r6.1.2.1
 (some (decide (r6.1.1.2.1 = 0)))
 (some false))
 (some false))
 (some false))
 (some false))
 (none))
 (none)))
theorem e60 (L : Lp) (g101 : Option Spec) (g62 : Spec → Int → (List Run) → (List Booking) → Option Tae) (g63 : Int → Int → Res → Int → Option Tag) (g63_1 : Int → Int → Res → Int → Int → (List (List Int)) → (List (List Step)) → Option (Tag × Taa)) (x : s60.args.den) (h : denH s60.heap) : nrun [⟨101,s101,fun x h => g101 ⟩,⟨62,s62,fun x h => g62 x.1 x.2.1 x.2.2.1 x.2.2.2.1⟩,⟨63,s63,fun x h => g63 x.2.1 x.2.2.1 x.2.2.2.1 x.2.2.2.2.1⟩,⟨63,s63_1,fun x h => g63_1 x.2.1 x.2.2.1 x.2.2.2.1 x.2.2.2.2.1 h.1.1 h.2.1 h.2.2.1⟩] L n60 s60 x h = F60 L g101 g62 g63 g63_1  := by kernel_rfl
def f60 : Option Bool := F60 (@LN LOOPS) f101 f62 f63 f63_1
@[reducible] def t60 : Ent := ⟨60,s60,fun x h => f60 ⟩
theorem k60 : chkNF Try.prog Try.f60 n60 = true := by kernel_rfl
theorem ok60 : NOk Try.prog t60 := NOk.body (T := [t101,t62,t63,t63_1]) mixed (nall_cons ok101 (nall_cons ok62 (nall_cons ok63 (nall_cons ok63_1 nall_nil)))) (oneEach_of (by kernel_rfl)) Try.func60 k60 (by kernel_rfl) (fun x h => e60 _ _ _ _ _ x h)
def n44 : NFunc := ⟨46,.seq (.region 1 [
 o1 1 (.box 18 (tm 0)) 0,
 o1 2 (.move (.const (.bool false))) 1] []) (.seq (.seq (.region 0 [
 o1 7 (.fieldAddr 0 (tm 1)) 0,
 o1 8 (.load false 1 (tm 7)) 0,
 o1 9 (.len (tm 8)) 0,
 o1 10 (.bin .gtr (tm 9) (ki 40)) 0,
 o1 11 (.move (tm 10)) 0,
 o2 12 (.fieldAddr 1 (tm 1)) 11 0,
 o2 13 (.load false 1 (tm 12)) 11 0,
 o2 14 (.len (tm 13)) 11 0,
 o2 15 (.bin .gtr (tm 14) (ki 20)) 11 0,
 o1 16 (.pick (tm 11) (.const (.bool true)) (tm 15)) 0,
 o1 17 (.move (tm 16)) 0,
 o2 18 (.fieldAddr 2 (tm 1)) 17 0,
 o2 19 (.load false 1 (tm 18)) 17 0,
 o2 20 (.len (tm 19)) 17 0,
 o2 21 (.bin .gtr (tm 20) (ki 20)) 17 0,
 o1 22 (.pick (tm 17) (.const (.bool true)) (tm 21)) 0] []) (.cond (tm 22) (.seq (.region 0 [
 o1 2 (.move (.const (.bool false))) 0] []) (.ret)) (.skip))) (.seq (.seq (.region 0 [
 o1 23 (.fieldAddr 1 (tm 1)) 0,
 o1 24 (.load false 1 (tm 23)) 0,
 o1 25 (.len (tm 24)) 0,
 o1 26 (.move (ki 0)) 0] []) (.block 0 (.loop [1,24,25,26] ⟨[(1,(.ptr 0 0 0)),(26,vI)],[24,25],[.one false .spec]⟩ (.seq (.region 0 [
 o1 27 (.bin .lss (tm 26) (tm 25)) 0] []) (.seq (.cond (tm 27) (.skip) (.exit 0)) (.seq (.block 1 (.seq (.region 0 [
 o1 28 (.indexSl 1 (tm 24) (tm 26)) 0,
 o1 29 (.load false 1 (tm 28)) 0,
 o1 4 (.move (tm 29)) 0] []) (.seq (.region 0 [
 o1 30 (.move (tm 4)) 0,
 o1 31 (.len (tm 30)) 0,
 o1 32 (.bin .gtr (tm 31) (ki 40)) 0] []) (.cond (tm 32) (.seq (.region 0 [
 o1 2 (.move (.const (.bool false))) 0] []) (.ret)) (.skip))))) (.region 0 [
 o1 33 (.bin .add (tm 26) (ki 1)) 0,
 o1 26 (.move (tm 33)) 0] []))))))) (.seq (.seq (.region 0 [
 o1 34 (.fieldAddr 2 (tm 1)) 0,
 o1 35 (.load false 1 (tm 34)) 0,
 o1 36 (.len (tm 35)) 0,
 o1 37 (.move (ki 0)) 0] []) (.block 2 (.loop [35,36,37] ⟨[(37,vI)],[35,36],[]⟩ (.seq (.region 0 [
 o1 38 (.bin .lss (tm 37) (tm 36)) 0] []) (.seq (.cond (tm 38) (.skip) (.exit 2)) (.seq (.block 3 (.seq (.region 1 [
 o1 39 (.indexSl 6 (tm 35) (tm 37)) 0,
 o1 40 (.load true 6 (tm 39)) 0,
 o1 6 (.alloc [.int .i64 (0),.zsl,.int .i64 (0),.int .i64 (0),.int .i64 (0),.int .i64 (0)]) 0,
 ⟨none,.store 6 (tm 6) (tm 40),none,1,none⟩] []) (.seq (.region 0 [
 o1 41 (.fieldAddr 1 (tm 6)) 0,
 o1 42 (.load false 1 (tm 41)) 0,
 o1 43 (.len (tm 42)) 0,
 o1 44 (.bin .gtr (tm 43) (ki 40)) 0] []) (.cond (tm 44) (.seq (.region 0 [
 o1 2 (.move (.const (.bool false))) 0] []) (.ret)) (.skip))))) (.region 0 [
 o1 45 (.bin .add (tm 37) (ki 1)) 0,
 o1 37 (.move (tm 45)) 0] []))))))) (.seq (.region 0 [
 o1 2 (.move (.const (.bool true))) 0] []) (.ret))))),[.tmp 2],true⟩
def s44 : Sig := ⟨(.cons (.v .spec) .nil),[],((.v .bool),[]),[]⟩
def l44_0 (z4 : Spec) (nx7 : ((Int × Unit) × Unit) → Option Bool) (z8 : Int) : Option Bool :=
 cond (decide (z8 < (List.length z4.queues : Int)))
 (cond (decide (0 ≤ z8))
 (Option.bind (z4.queues[Int.toNat z8]?) fun y9 =>
 cond (decide (40 < (List.length y9.users : Int)))
 (some false)
 (nx7 ((IntKind.wrap .i64 (z8 + 1),()),())))
 (none))
 (some true)
def l44_1 (L : Lp) (as0 : Spec) (nx2 : Tan → Option Bool) (z3 : Int) (z4 : Spec) : Option Bool :=
 cond (decide (z3 < (List.length as0.parts : Int)))
 (cond (decide (0 ≤ z3))
 (Option.bind (as0.parts[Int.toNat z3]?) fun y5 =>
 cond (decide (40 < (List.length y5 : Int)))
 (some false)
 (nx2 (((),IntKind.wrap .i64 (z3 + 1),()),(z4,()))))
 (none))
 (L (fun (s6 : ((Int × Unit) × Unit)) nx7 => l44_0 z4 nx7 s6.1.1) ((0,()),()))
def F44 (L : Lp)  (as0 : Spec) : Option Bool :=
 cond (decide (40 < (List.length as0.nodes : Int)))
 (some false)
 (cond (decide (20 < (List.length as0.parts : Int)))
 (some false)
 (cond (decide (20 < (List.length as0.queues : Int)))
 (some false)
 (L (fun (s1 : Tan) nx2 => l44_1 L as0 nx2 s1.1.2.1 s1.2.1) (((),0,()),(as0,())))))
theorem e44 (L : Lp)  (x : s44.args.den) (h : denH s44.heap) : nrun [] L n44 s44 x h = F44 L  x.1 := by kernel_rfl
def f44 : Spec → Option Bool := F44 (@LN LOOPS) 
@[reducible] def t44 : Ent := ⟨44,s44,fun x h => f44 x.1⟩
theorem k44 : chkNF Try.prog Try.f44 n44 = true := by kernel_rfl
theorem ok44 : NOk Try.prog t44 := NOk.body (T := []) mixed nall_nil (oneEach_of (by kernel_rfl)) Try.func44 k44 (by kernel_rfl) (fun x h => e44 _  x h)
def n61 : NFunc := ⟨33,.seq (.region 1 [
 o1 1 (.box 21 (tm 0)) 0,
 o1 2 (.move (.const (.bool false))) 1] []) (.seq (.seq (.region 4 [
 o1 5 (.fieldAddr 0 (tm 1)) 0,
 o1 6 (.load true 18 (tm 5)) 0,
 o1 7 (.call (.func 44) [(false,(tm 6))] false 4) 0,
 o1 8 (.un .not (tm 7)) 4,
 o1 9 (.move (tm 8)) 4,
 o2 10 (.fieldAddr 19 (tm 1)) 9 4,
 o2 11 (.load false 1 (tm 10)) 9 4,
 o2 12 (.len (tm 11)) 9 4,
 o2 13 (.bin .gtr (tm 12) (ki 12)) 9 4,
 o1 14 (.pick (tm 9) (.const (.bool true)) (tm 13)) 4,
 o1 15 (.move (tm 14)) 4,
 o2 16 (.fieldAddr 20 (tm 1)) 15 4,
 o2 17 (.load false 1 (tm 16)) 15 4,
 o2 18 (.len (tm 17)) 15 4,
 o2 19 (.bin .gtr (tm 18) (ki 20)) 15 4,
 o1 20 (.pick (tm 15) (.const (.bool true)) (tm 19)) 4] []) (.cond (tm 20) (.seq (.region 0 [
 o1 2 (.move (.const (.bool false))) 0] []) (.ret)) (.skip))) (.seq (.seq (.region 0 [
 o1 21 (.fieldAddr 19 (tm 1)) 0,
 o1 22 (.load false 1 (tm 21)) 0,
 o1 23 (.len (tm 22)) 0,
 o1 24 (.move (ki 0)) 0] []) (.block 0 (.loop [22,23,24] ⟨[(24,vI)],[22,23],[]⟩ (.seq (.region 0 [
 o1 25 (.bin .lss (tm 24) (tm 23)) 0] []) (.seq (.cond (tm 25) (.skip) (.exit 0)) (.seq (.block 1 (.seq (.region 1 [
 o1 26 (.indexSl 6 (tm 22) (tm 24)) 0,
 o1 27 (.load true 6 (tm 26)) 0,
 o1 4 (.alloc [.int .i64 (0),.int .i64 (0),.int .i64 (0),.int .i64 (0),.zsl,.int .i64 (0)]) 0,
 ⟨none,.store 6 (tm 4) (tm 27),none,1,none⟩] []) (.seq (.region 0 [
 o1 28 (.fieldAddr 4 (tm 4)) 0,
 o1 29 (.load false 1 (tm 28)) 0,
 o1 30 (.len (tm 29)) 0,
 o1 31 (.bin .gtr (tm 30) (ki 40)) 0] []) (.cond (tm 31) (.seq (.region 0 [
 o1 2 (.move (.const (.bool false))) 0] []) (.ret)) (.skip))))) (.region 0 [
 o1 32 (.bin .add (tm 24) (ki 1)) 0,
 o1 24 (.move (tm 32)) 0] []))))))) (.seq (.region 0 [
 o1 2 (.move (.const (.bool true))) 0] []) (.ret)))),[.tmp 2],true⟩
def s61 : Sig := ⟨(.cons (.v (.pair .spec (.pair (.int .i64) (.pair (.list .run) (.list .booking))))) .nil),[],((.v .bool),[]),[]⟩
def l61_0 (w0 : Tai) (nx3 : ((Int × Unit) × Unit) → Option Bool) (z4 : Int) : Option Bool :=
 cond (decide (z4 < (List.length w0.2.2.1 : Int)))
 (cond (decide (0 ≤ z4))
 (Option.bind (w0.2.2.1[Int.toNat z4]?) fun y5 =>
 cond (decide (40 < (List.length y5.shares : Int)))
 (some false)
 (nx3 ((IntKind.wrap .i64 (z4 + 1),()),())))
 (none))
 (some true)
def F61 (L : Lp) (g44 : Spec → Option Bool) (w0 : Tai) : Option Bool :=
 Option.bind (g44 w0.1) fun r1 =>
 cond (!r1)
 (some false)
 (cond (decide (12 < (List.length w0.2.2.1 : Int)))
 (some false)
 (cond (decide (20 < (List.length w0.2.2.2 : Int)))
 (some false)
 (L (fun (s2 : ((Int × Unit) × Unit)) nx3 => l61_0 w0 nx3 s2.1.1) ((0,()),()))))
theorem e61 (L : Lp) (g44 : Spec → Option Bool) (x : s61.args.den) (h : denH s61.heap) : nrun [⟨44,s44,fun x h => g44 x.1⟩] L n61 s61 x h = F61 L g44 x.1 := by kernel_rfl
def f61 : Tai → Option Bool := F61 (@LN LOOPS) f44
@[reducible] def t61 : Ent := ⟨61,s61,fun x h => f61 x.1⟩
theorem k61 : chkNF Try.prog Try.f61 n61 = true := by kernel_rfl
theorem ok61 : NOk Try.prog t61 := NOk.body (T := [t44]) mixed (nall_cons ok44 nall_nil) (oneEach_of (by kernel_rfl)) Try.func61 k61 (by kernel_rfl) (fun x h => e61 _ _ x h)
def n65 : NFunc := ⟨33,.seq (.region 0 [
 o1 2 (.move (ki 0)) 0] []) (.seq (.region 0 [
 o1 3 (.move (ki 0)) 0] []) (.seq (.seq (.region 0 [
 o1 4 (.move (ki 0)) 0] []) (.block 0 (.loop [0,3,4] ⟨[(3,vI),(4,vI)],[0],[]⟩ (.seq (.seq (.region 0 [
 o1 5 (.move (tm 4)) 0,
 o1 6 (.move (tm 0)) 0,
 o1 7 (.len (tm 6)) 0,
 o1 8 (.bin .lss (tm 5) (tm 7)) 0] []) (.cond (tm 8) (.skip) (.exit 0))) (.seq (.block 1 (.seq (.region 0 [
 o1 11 (.move (tm 0)) 0,
 o1 12 (.move (tm 4)) 0,
 o1 13 (.indexSl 2 (tm 11) (tm 12)) 0,
 o1 14 (.fieldAddr 1 (tm 13)) 0,
 o1 15 (.load false 1 (tm 14)) 0,
 o1 16 (.bin .gtr (tm 15) (ki 64)) 0] []) (.cond (tm 16) (.region 0 [
 o1 17 (.move (tm 3)) 0,
 o1 18 (.bin .add (tm 17) (ki 64)) 0,
 o1 3 (.move (tm 18)) 0] []) (.seq (.region 0 [
 o1 19 (.move (tm 0)) 0,
 o1 20 (.move (tm 4)) 0,
 o1 21 (.indexSl 2 (tm 19) (tm 20)) 0,
 o1 22 (.fieldAddr 1 (tm 21)) 0,
 o1 23 (.load false 1 (tm 22)) 0,
 o1 24 (.bin .gtr (tm 23) (ki 0)) 0] []) (.cond (tm 24) (.region 0 [
 o1 25 (.move (tm 3)) 0,
 o1 26 (.move (tm 0)) 0,
 o1 27 (.move (tm 4)) 0,
 o1 28 (.indexSl 2 (tm 26) (tm 27)) 0,
 o1 29 (.fieldAddr 1 (tm 28)) 0,
 o1 30 (.load false 1 (tm 29)) 0,
 o1 31 (.bin .add (tm 25) (tm 30)) 0,
 o1 3 (.move (tm 31)) 0] []) (.skip)))))) (.region 0 [
 o1 9 (.move (tm 4)) 0,
 o1 10 (.bin .add (tm 9) (ki 1)) 0,
 o1 4 (.move (tm 10)) 0] [])))))) (.seq (.region 0 [
 o1 32 (.move (tm 3)) 0,
 o1 2 (.move (tm 32)) 0] []) (.ret)))),[.tmp 2],true⟩
def s65 : Sig := ⟨(.cons (.v (.list .share)) .nil),[],((.v (.int .i64)),[]),[]⟩
def l65_0 (al0 : (List Share)) (nx2 : ((Int × (Int × Unit)) × Unit) → Option Int) (zn3 : Int) (i4 : Int) : Option Int :=
 cond (decide (i4 < (List.length al0 : Int)))
 (cond (decide (0 ≤ i4))
 (Option.bind (al0[Int.toNat i4]?) fun y5 =>
 cond (decide (64 < y5.many))
 (nx2 ((IntKind.wrap .i64 (zn3 + 64),IntKind.wrap .i64 (i4 + 1),()),()))
 (cond (decide (0 ≤ i4))
 (Option.bind (al0[Int.toNat i4]?) fun y6 =>
 cond (decide (0 < y6.many))
 (cond (decide (0 ≤ i4))
 (Option.bind (al0[Int.toNat i4]?) fun y7 =>
 nx2 ((IntKind.wrap .i64 (zn3 + y7.many),IntKind.wrap .i64 (i4 + 1),()),()))
 (none))
 (nx2 ((zn3,IntKind.wrap .i64 (i4 + 1),()),())))
 (none)))
 (none))
 (some zn3)
def F65 (L : Lp)  (al0 : (List Share)) : Option Int :=
 L (fun (s1 : ((Int × (Int × Unit)) × Unit)) nx2 => l65_0 al0 nx2 s1.1.1 s1.1.2.1) ((0,0,()),())
theorem e65 (L : Lp)  (x : s65.args.den) (h : denH s65.heap) : nrun [] L n65 s65 x h = F65 L  x.1 := by kernel_rfl
def f65 : (List Share) → Option Int := F65 (@LN LOOPS) 
@[reducible] def t65 : Ent := ⟨65,s65,fun x h => f65 x.1⟩
theorem k65 : chkNF Try.prog Try.f65 n65 = true := by kernel_rfl
theorem ok65 : NOk Try.prog t65 := NOk.body (T := []) mixed nall_nil (oneEach_of (by kernel_rfl)) Try.func65 k65 (by kernel_rfl) (fun x h => e65 _  x h)
def n130 : NFunc := ⟨24,.seq (.region 1 [
 o1 4 (.alloc [.int .i64 (0),.int .i64 (0),.int .i64 (0),.int .i64 (0)]) 0] []) (.seq (.seq (.region 4 [
 o1 5 (.move (tm 0)) 0,
 o1 6 (.call (.func 169) [(false,(tm 5))] false 4) 0,
 o1 7 (.un .not (tm 6)) 4,
 o1 8 (.move (tm 7)) 4,
 o2 9 (.move (tm 1)) 8 4,
 o2 10 (.move (tm 0)) 8 4,
 o2 11 (.indexSl 5 (tm 10) (ki 0)) 8 4,
 o2 12 (.fieldAddr 0 (tm 11)) 8 4,
 o2 13 (.load false 1 (tm 12)) 8 4,
 o2 14 (.bin .lss (tm 9) (tm 13)) 8 4,
 o1 15 (.pick (tm 8) (.const (.bool true)) (tm 14)) 4] []) (.cond (tm 15) (.seq (.region 0 [
 o1 16 (.build [.int .i64 (0),.int .i64 (0),.int .i64 (0),.int .i64 (0)] []) 0,
 ⟨none,.store 4 (tm 4) (tm 16),none,0,none⟩] []) (.ret)) (.skip))) (.seq (.region 4 [
 o1 17 (.move (tm 0)) 0,
 o1 18 (.move (tm 0)) 0,
 o1 19 (.move (tm 1)) 0,
 o1 20 (.call (.func 172) [(false,(tm 18)),(false,(tm 19))] false 4) 0,
 o1 21 (.indexSl 5 (tm 17) (tm 20)) 4,
 o1 22 (.fieldAddr 1 (tm 21)) 4,
 o1 23 (.load true 4 (tm 22)) 4,
 ⟨none,.store 4 (tm 4) (tm 23),none,4,none⟩] []) (.ret))),[.cell true 4 4],true⟩
def s130 : Sig := ⟨(.cons (.v (.list .step)) (.cons (.v (.int .i64)) .nil)),[],((.v .res),[]),[]⟩
def F130 (L : Lp) (g169 : (List Step) → Option Bool) (g172 : (List Step) → Int → Option Int) (al0 : (List Step)) (at1 : Int) : Option Res :=
 Option.bind (g169 al0) fun r2 =>
 cond (!r2)
 (some (Res.mk 0 0 0 0))
 (Option.bind (al0[0]?) fun y3 =>
 cond (decide (at1 < y3.at_))
 (some (Res.mk 0 0 0 0))
 (Option.bind (g172 al0 at1) fun r4 =>
 cond (decide (0 ≤ r4))
 (Option.bind (al0[Int.toNat r4]?) fun y5 =>
 some y5.free)
 (none)))
theorem e130 (L : Lp) (g169 : (List Step) → Option Bool) (g172 : (List Step) → Int → Option Int) (x : s130.args.den) (h : denH s130.heap) : nrun [⟨169,s169,fun x h => g169 x.1⟩,⟨172,s172,fun x h => g172 x.1 x.2.1⟩] L n130 s130 x h = F130 L g169 g172 x.1 x.2.1 := by kernel_rfl
def f130 : (List Step) → Int → Option Res := F130 (@LN LOOPS) f169 f172
@[reducible] def t130 : Ent := ⟨130,s130,fun x h => f130 x.1 x.2.1⟩
theorem k130 : chkNF Try.prog Try.f130 n130 = true := by kernel_rfl
theorem ok130 : NOk Try.prog t130 := NOk.body (T := [t169,t172]) mixed (nall_cons ok169 (nall_cons ok172 nall_nil)) (oneEach_of (by kernel_rfl)) Try.func130 k130 (by kernel_rfl) (fun x h => e130 _ _ _ x h)
def n66 : NFunc := ⟨42,.seq (.region 0 [
 o1 4 (.move (.const (.zsl))) 0] []) (.seq (.seq (.region 0 [
 o1 8 (.move (tm 0)) 0,
 o1 9 (.eqP false (tm 8) (.const (.nilp))) 0,
 o1 10 (.move (tm 9)) 0,
 o2 11 (.move (tm 1)) 10 0,
 o2 12 (.move (tm 0)) 10 0,
 o2 13 (.nilCheck (tm 12)) 10 0,
 o2 14 (.fieldAddr 0 (tm 13)) 10 0,
 o2 15 (.load false 1 (tm 14)) 10 0,
 o2 16 (.bin .lss (tm 11) (tm 15)) 10 0,
 o1 17 (.pick (tm 10) (.const (.bool true)) (tm 16)) 0] []) (.cond (tm 17) (.seq (.region 0 [
 o1 4 (.move (.const (.zsl))) 0] []) (.ret)) (.skip))) (.seq (.region 1 [
 o1 18 (.move (tm 0)) 0,
 o1 19 (.nilCheck (tm 18)) 0,
 o1 20 (.fieldAddr 2 (tm 19)) 0,
 o1 21 (.load false 1 (tm 20)) 0,
 o1 22 (.len (tm 21)) 0,
 o1 23 (.makeSlice 4 32 true [.int .i64 (0),.int .i64 (0),.int .i64 (0),.int .i64 (0)] (tm 22) (tm 22)) 0,
 o1 5 (.move (tm 23)) 1] [⟨23,some .res,none⟩]) (.seq (.seq (.region 0 [
 o1 24 (.move (tm 0)) 0,
 o1 25 (.nilCheck (tm 24)) 0,
 o1 26 (.fieldAddr 2 (tm 25)) 0,
 o1 27 (.load false 1 (tm 26)) 0,
 o1 28 (.len (tm 27)) 0,
 o1 29 (.move (ki 0)) 0] []) (.block 0 (.loop [1,5,27,28,29] ⟨[(5,(.slw 3 4)),(27,(.slw 2 1)),(29,vI)],[1,28],[.cell false (.cons vI (.cons (.slw 1 1) (.cons (.slw 2 1) .nil))),.typed (.list (.int .i64)),.typed (.list .step),.typed .res]⟩ (.seq (.region 0 [
 o1 30 (.bin .lss (tm 29) (tm 28)) 0] []) (.seq (.cond (tm 30) (.skip) (.exit 0)) (.seq (.block 1 (.seq (.region 0 [
 o1 31 (.move (tm 29)) 0,
 o1 32 (.indexSl 1 (tm 27) (tm 29)) 0,
 o1 33 (.load false 1 (tm 32)) 0,
 o1 6 (.move (tm 31)) 0,
 o1 7 (.move (tm 33)) 0] []) (.region 4 [
 o1 34 (.move (tm 5)) 0,
 o1 35 (.move (tm 6)) 0,
 o1 36 (.move (tm 7)) 0,
 o1 37 (.move (tm 1)) 0,
 o1 38 (.call (.func 130) [(false,(tm 36)),(false,(tm 37))] false 4) 0,
 o1 39 (.indexSl 4 (tm 34) (tm 35)) 4,
 ⟨none,.store 4 (tm 39) (tm 38),none,4,none⟩] []))) (.region 0 [
 o1 40 (.bin .add (tm 29) (ki 1)) 0,
 o1 29 (.move (tm 40)) 0] []))))))) (.seq (.region 0 [
 o1 41 (.move (tm 5)) 0,
 o1 4 (.move (tm 41)) 0] []) (.ret))))),[.tmp 4],true⟩
def s66 : Sig := ⟨(.cons (.ptr 0 0 0) (.cons (.v (.int .i64)) .nil)),[.cell false (.cons (.v (.int .i64)) (.cons (.slw 1 1) (.cons (.slw 2 1) .nil))),.typed (.list (.int .i64)),.typed (.list .step)],((.v (.list .res)),[.cell false (.cons (.v (.int .i64)) (.cons (.slw 1 1) (.cons (.slw 2 1) .nil))),.typed (.list (.int .i64)),.typed (.list .step)]),[]⟩
def l66_0 (g130 : (List Step) → Int → Option Res) (at0 : Int) (a3 : (List (List Step))) (nx5 : ((Unit × (Unit × (Int × Unit))) × ((Int × (Unit × (Unit × Unit))) × ((List (List Int)) × ((List (List Step)) × ((List Res) × Unit))))) → Option ((List Res) × Taa)) (z6 : Int) (z7 : Int) (z8 : (List (List Int))) (z9 : (List (List Step))) (z10 : (List Res)) : Option ((List Res) × Taa) :=
 cond (decide (z6 < (List.length a3 : Int)))
 (cond (decide (0 ≤ z6))
 (cond (decide ((Int.toNat z6) < (List.length z9)))
 (Option.bind (z9[Int.toNat z6]?) fun y11 =>
 Option.bind (g130 y11 at0) fun r12 =>
 cond (decide (0 ≤ z6))
 (cond (decide ((Int.toNat z6) < (List.length z10)))
 (Option.bind (z10[Int.toNat z6]?) fun y13 =>
 nx5 (((),(),IntKind.wrap .i64 (z6 + 1),()),((z7,(),(),()),z8,z9,List.set z10 (Int.toNat z6) r12,())))
 (none))
 (none))
 (none))
 (none))
 (some (z10,((z7,(),(),()),z8,z9,())))
def F66 (L : Lp) (g130 : (List Step) → Int → Option Res) (at0 : Int) (a1 : Int) (a2 : (List (List Int))) (a3 : (List (List Step))) : Option ((List Res) × Taa) :=
 cond (decide (at0 < a1))
 (some ([],((a1,(),(),()),a2,a3,())))
 (cond (decide (0 ≤ (List.length a3 : Int)))
 (cond (decide (0 ≤ (List.length a3 : Int)))
 (cond ((decide ((Int.toNat (List.length a3 : Int)) ≤ (Int.toNat (List.length a3 : Int)))) && ((decide ((Int.toNat (List.length a3 : Int)) * 32 ≤ 1099511627776)) && (decide ((Int.toNat (List.length a3 : Int)) ≤ 4294967296))))
 (L (fun (s4 : ((Unit × (Unit × (Int × Unit))) × ((Int × (Unit × (Unit × Unit))) × ((List (List Int)) × ((List (List Step)) × ((List Res) × Unit)))))) nx5 => l66_0 g130 at0 a3 nx5 s4.1.2.2.1 s4.2.1.1 s4.2.2.1 s4.2.2.2.1 s4.2.2.2.2.1) (((),(),0,()),((a1,(),(),()),a2,a3,(List.replicate (Int.toNat (List.length a3 : Int)) (Res.mk 0 0 0 0) : List Res),())))
 (none))
 (none))
 (none))
theorem e66 (L : Lp) (g130 : (List Step) → Int → Option Res) (x : s66.args.den) (h : denH s66.heap) : nrun [⟨130,s130,fun x h => g130 x.1 x.2.1⟩] L n66 s66 x h = F66 L g130 x.2.1 h.1.1 h.2.1 h.2.2.1 := by kernel_rfl
def f66 : Int → Int → (List (List Int)) → (List (List Step)) → Option ((List Res) × Taa) := F66 (@LN LOOPS) f130
@[reducible] def t66 : Ent := ⟨66,s66,fun x h => f66 x.2.1 h.1.1 h.2.1 h.2.2.1⟩
theorem k66 : chkNF Try.prog Try.f66 n66 = true := by kernel_rfl
theorem ok66 : NOk Try.prog t66 := NOk.body (T := [t130]) mixed (nall_cons ok130 nall_nil) (oneEach_of (by kernel_rfl)) Try.func66 k66 (by kernel_rfl) (fun x h => e66 _ _ x h)
def n52 : NFunc := ⟨26,.seq (.region 3 [
 o1 2 (.box 4 (tm 0)) 0,
 o1 3 (.box 4 (tm 1)) 1,
 o1 4 (.alloc [.int .i64 (0),.int .i64 (0),.int .i64 (0),.int .i64 (0)]) 2] []) (.seq (.region 0 [
 o1 5 (.fieldAddr 0 (tm 2)) 0,
 o1 6 (.load false 1 (tm 5)) 0,
 o1 7 (.fieldAddr 0 (tm 3)) 0,
 o1 8 (.load false 1 (tm 7)) 0,
 o1 9 (.bin .add (tm 6) (tm 8)) 0,
 o1 10 (.fieldAddr 1 (tm 2)) 0,
 o1 11 (.load false 1 (tm 10)) 0,
 o1 12 (.fieldAddr 1 (tm 3)) 0,
 o1 13 (.load false 1 (tm 12)) 0,
 o1 14 (.bin .add (tm 11) (tm 13)) 0,
 o1 15 (.fieldAddr 2 (tm 2)) 0,
 o1 16 (.load false 1 (tm 15)) 0,
 o1 17 (.fieldAddr 2 (tm 3)) 0,
 o1 18 (.load false 1 (tm 17)) 0,
 o1 19 (.bin .add (tm 16) (tm 18)) 0,
 o1 20 (.fieldAddr 3 (tm 2)) 0,
 o1 21 (.load false 1 (tm 20)) 0,
 o1 22 (.fieldAddr 3 (tm 3)) 0,
 o1 23 (.load false 1 (tm 22)) 0,
 o1 24 (.bin .add (tm 21) (tm 23)) 0,
 o1 25 (.build [.int .i64 (0),.int .i64 (0),.int .i64 (0),.int .i64 (0)] [(0,1,(tm 9)),(1,1,(tm 14)),(2,1,(tm 19)),(3,1,(tm 24))]) 0,
 ⟨none,.store 4 (tm 4) (tm 25),none,0,none⟩] []) (.ret)),[.cell true 4 4],true⟩
def s52 : Sig := ⟨(.cons (.v .res) (.cons (.v .res) .nil)),[],((.v .res),[]),[]⟩
def F52 (L : Lp)  (a0 : Res) (b1 : Res) : Option Res :=
 some (Res.mk (IntKind.wrap .i64 (a0.cpu + b1.cpu)) (IntKind.wrap .i64 (a0.mem + b1.mem)) (IntKind.wrap .i64 (a0.gpu + b1.gpu)) (IntKind.wrap .i64 (a0.lic + b1.lic)))
theorem e52 (L : Lp)  (x : s52.args.den) (h : denH s52.heap) : nrun [] L n52 s52 x h = F52 L  x.1 x.2.1 := by kernel_rfl
def f52 : Res → Res → Option Res := F52 (@LN LOOPS) 
@[reducible] def t52 : Ent := ⟨52,s52,fun x h => f52 x.1 x.2.1⟩
theorem k52 : chkNF Try.prog Try.f52 n52 = true := by kernel_rfl
theorem ok52 : NOk Try.prog t52 := NOk.body (T := []) mixed nall_nil (oneEach_of (by kernel_rfl)) Try.func52 k52 (by kernel_rfl) (fun x h => e52 _  x h)
def n53 : NFunc := ⟨17,.seq (.region 2 [
 o1 2 (.box 4 (tm 0)) 0,
 o1 4 (.alloc [.int .i64 (0),.int .i64 (0),.int .i64 (0),.int .i64 (0)]) 1] []) (.seq (.region 1 [
 o1 7 (.build [.int .i64 (0),.int .i64 (0),.int .i64 (0),.int .i64 (0)] []) 0,
 o1 5 (.alloc [.int .i64 (0),.int .i64 (0),.int .i64 (0),.int .i64 (0)]) 0,
 ⟨none,.store 4 (tm 5) (tm 7),none,1,none⟩] []) (.seq (.seq (.region 0 [
 o1 6 (.move (ki 0)) 0] []) (.block 0 (.loop [1,2,4,5,6] ⟨[(2,(.ptr 0 0 0)),(4,(.ptr 1 0 0)),(5,(.ptr 2 0 0)),(6,vI)],[1],[.one false .res,.one false .res,.one false .res]⟩ (.seq (.seq (.region 0 [
 o1 8 (.move (tm 6)) 0,
 o1 9 (.move (tm 1)) 0,
 o1 10 (.bin .lss (tm 8) (tm 9)) 0] []) (.cond (tm 10) (.skip) (.exit 0))) (.seq (.block 1 (.region 4 [
 o1 13 (.load true 4 (tm 5)) 0,
 o1 14 (.load true 4 (tm 2)) 0,
 o1 15 (.call (.func 52) [(false,(tm 13)),(false,(tm 14))] false 4) 0,
 ⟨none,.store 4 (tm 5) (tm 15),none,4,none⟩] [])) (.region 0 [
 o1 11 (.move (tm 6)) 0,
 o1 12 (.bin .add (tm 11) (ki 1)) 0,
 o1 6 (.move (tm 12)) 0] [])))))) (.seq (.region 0 [
 o1 16 (.load true 4 (tm 5)) 0,
 ⟨none,.store 4 (tm 4) (tm 16),none,0,none⟩] []) (.ret)))),[.cell true 4 4],true⟩
def s53 : Sig := ⟨(.cons (.v .res) (.cons (.v (.int .i64)) .nil)),[],((.v .res),[]),[]⟩
def l53_0 (g52 : Res → Res → Option Res) (an1 : Int) (nx3 : (Tak × (Res × (Res × (Res × Unit)))) → Option Res) (i4 : Int) (z5 : Res) (z6 : Res) (z7 : Res) : Option Res :=
 cond (decide (i4 < an1))
 (Option.bind (g52 z7 z5) fun r8 =>
 nx3 (((),(),(),IntKind.wrap .i64 (i4 + 1),()),(z5,z6,r8,())))
 (some z7)
def F53 (L : Lp) (g52 : Res → Res → Option Res) (need0 : Res) (an1 : Int) : Option Res :=
 L (fun (s2 : (Tak × (Res × (Res × (Res × Unit))))) nx3 => l53_0 g52 an1 nx3 s2.1.2.2.2.1 s2.2.1 s2.2.2.1 s2.2.2.2.1) (((),(),(),0,()),(need0,Res.mk 0 0 0 0,Res.mk 0 0 0 0,()))
theorem e53 (L : Lp) (g52 : Res → Res → Option Res) (x : s53.args.den) (h : denH s53.heap) : nrun [⟨52,s52,fun x h => g52 x.1 x.2.1⟩] L n53 s53 x h = F53 L g52 x.1 x.2.1 := by kernel_rfl
def f53 : Res → Int → Option Res := F53 (@LN LOOPS) f52
@[reducible] def t53 : Ent := ⟨53,s53,fun x h => f53 x.1 x.2.1⟩
theorem k53 : chkNF Try.prog Try.f53 n53 = true := by kernel_rfl
theorem ok53 : NOk Try.prog t53 := NOk.body (T := [t52]) mixed (nall_cons ok52 nall_nil) (oneEach_of (by kernel_rfl)) Try.func53 k53 (by kernel_rfl) (fun x h => e53 _ _ x h)
def n67 : NFunc := ⟨31,.seq (.region 2 [
 o1 2 (.box 4 (tm 0)) 0,
 o1 3 (.box 4 (tm 1)) 1,
 o1 4 (.move (.const (.bool false))) 2] []) (.seq (.region 0 [
 o1 5 (.fieldAddr 0 (tm 2)) 0,
 o1 6 (.load false 1 (tm 5)) 0,
 o1 7 (.fieldAddr 0 (tm 3)) 0,
 o1 8 (.load false 1 (tm 7)) 0,
 o1 9 (.bin .leq (tm 6) (tm 8)) 0,
 o1 10 (.move (tm 9)) 0,
 o3 11 (.fieldAddr 1 (tm 2)) 10 0,
 o3 12 (.load false 1 (tm 11)) 10 0,
 o3 13 (.fieldAddr 1 (tm 3)) 10 0,
 o3 14 (.load false 1 (tm 13)) 10 0,
 o3 15 (.bin .leq (tm 12) (tm 14)) 10 0,
 o1 16 (.pick (tm 10) (tm 15) (.const (.bool false))) 0,
 o1 17 (.move (tm 16)) 0,
 o3 18 (.fieldAddr 2 (tm 2)) 17 0,
 o3 19 (.load false 1 (tm 18)) 17 0,
 o3 20 (.fieldAddr 2 (tm 3)) 17 0,
 o3 21 (.load false 1 (tm 20)) 17 0,
 o3 22 (.bin .leq (tm 19) (tm 21)) 17 0,
 o1 23 (.pick (tm 17) (tm 22) (.const (.bool false))) 0,
 o1 24 (.move (tm 23)) 0,
 o3 25 (.fieldAddr 3 (tm 2)) 24 0,
 o3 26 (.load false 1 (tm 25)) 24 0,
 o3 27 (.fieldAddr 3 (tm 3)) 24 0,
 o3 28 (.load false 1 (tm 27)) 24 0,
 o3 29 (.bin .leq (tm 26) (tm 28)) 24 0,
 o1 30 (.pick (tm 24) (tm 29) (.const (.bool false))) 0,
 o1 4 (.move (tm 30)) 0] []) (.ret)),[.tmp 4],true⟩
def s67 : Sig := ⟨(.cons (.v .res) (.cons (.v .res) .nil)),[],((.v .bool),[]),[]⟩
def F67 (L : Lp)  (a0 : Res) (b1 : Res) : Option Bool :=
 cond (decide (a0.cpu ≤ b1.cpu))
 (cond (decide (a0.mem ≤ b1.mem))
 (cond (decide (a0.gpu ≤ b1.gpu))
 (some (decide (a0.lic ≤ b1.lic)))
 (some false))
 (some false))
 (some false)
theorem e67 (L : Lp)  (x : s67.args.den) (h : denH s67.heap) : nrun [] L n67 s67 x h = F67 L  x.1 x.2.1 := by kernel_rfl
def f67 : Res → Res → Option Bool := F67 (@LN LOOPS) 
@[reducible] def t67 : Ent := ⟨67,s67,fun x h => f67 x.1 x.2.1⟩
theorem k67 : chkNF Try.prog Try.f67 n67 = true := by kernel_rfl
theorem ok67 : NOk Try.prog t67 := NOk.body (T := []) mixed nall_nil (oneEach_of (by kernel_rfl)) Try.func67 k67 (by kernel_rfl) (fun x h => e67 _  x h)
def n10 : NFunc := ⟨157,.seq (.region 2 [
 o1 2 (.box 21 (tm 0)) 0,
 o1 3 (.box 7 (tm 1)) 1,
 o1 4 (.move (.const (.bool false))) 2] []) (.seq (.seq (.region 4 [
 o1 16 (.call (.func 60) [] false 4) 0,
 o1 17 (.un .not (tm 16)) 4] []) (.cond (tm 17) (.seq (.region 0 [
 o1 4 (.move (.const (.bool false))) 0] []) (.ret)) (.skip))) (.seq (.seq (.region 4 [
 o1 18 (.load true 21 (tm 2)) 0,
 o1 19 (.call (.func 61) [(false,(tm 18))] false 4) 0,
 o1 20 (.un .not (tm 19)) 4,
 o1 21 (.move (tm 20)) 4,
 o2 22 (.fieldAddr 6 (tm 3)) 21 4,
 o2 23 (.load false 1 (tm 22)) 21 4,
 o2 24 (.bin .gtr (tm 23) (ki 40)) 21 4,
 o1 25 (.pick (tm 21) (.const (.bool true)) (tm 24)) 4] []) (.cond (tm 25) (.seq (.region 0 [
 o1 4 (.move (.const (.bool true))) 0] []) (.ret)) (.skip))) (.seq (.region 4 [
 o1 27 (.fieldAddr 0 (tm 2)) 0,
 o1 28 (.load true 18 (tm 27)) 0,
 o1 29 (.fieldAddr 18 (tm 2)) 0,
 o1 30 (.load false 1 (tm 29)) 0,
 o1 31 (.fieldAddr 19 (tm 2)) 0,
 o1 32 (.load false 1 (tm 31)) 0,
 o1 33 (.fieldAddr 20 (tm 2)) 0,
 o1 34 (.load false 1 (tm 33)) 0,
 o1 35 (.call (.func 62) [(false,(tm 28)),(false,(tm 30)),(false,(tm 32)),(false,(tm 34))] false 4) 0,
 o1 26 (.move (tm 35)) 4,
 o1 36 (.extract (tm 26) 0) 4,
 o1 37 (.extract (tm 26) 1) 4,
 o1 5 (.move (tm 36)) 4,
 o1 6 (.move (tm 37)) 4] []) (.seq (.join [2,3,5] [] ⟨[(2,(.ptr 0 0 0)),(3,(.ptr 1 0 0)),(5,(.ptr 2 0 0))],[],[.one false (.pair .spec (.pair (.int .i64) (.pair (.list .run) (.list .booking)))),.one false (.pair (.int .i64) (.pair (.int .i64) (.pair .res (.int .i64)))),.cell false (.cons vI (.cons (.slw 3 1) (.cons (.slw 4 1) .nil))),.typed (.list (.int .i64)),.typed (.list .step)]⟩ (.seq (.region 0 [
 o1 38 (.move (tm 6)) 0,
 o1 39 (.bin .neq (tm 38) (ki 0)) 0] []) (.cond (tm 39) (.seq (.region 0 [
 o1 40 (.move (tm 5)) 0,
 o1 41 (.eqP false (tm 40) (.const (.nilp))) 0,
 o1 4 (.move (tm 41)) 0] []) (.ret)) (.skip)))) (.seq (.region 5 [
 o1 43 (.move (tm 5)) 0,
 o1 44 (.fieldAddr 0 (tm 3)) 0,
 o1 45 (.load false 1 (tm 44)) 0,
 o1 46 (.fieldAddr 1 (tm 3)) 0,
 o1 47 (.load false 1 (tm 46)) 0,
 o1 48 (.fieldAddr 2 (tm 3)) 0,
 o1 49 (.load true 4 (tm 48)) 0,
 o1 50 (.fieldAddr 6 (tm 3)) 0,
 o1 51 (.load false 1 (tm 50)) 0,
 o1 52 (.call (.func 63) [(true,(tm 43)),(false,(tm 45)),(false,(tm 47)),(false,(tm 49)),(false,(tm 51))] false 4) 0,
 o1 42 (.move (tm 52)) 4,
 o1 53 (.extract (tm 42) 0) 4,
 o1 54 (.extract (tm 42) 1) 4,
 o1 7 (.alloc [.int .i64 (0),.int .i64 (0),.zsl]) 4,
 ⟨none,.store 3 (tm 7) (tm 53),none,5,none⟩,
 o1 8 (.move (tm 54)) 5] []) (.seq (.seq (.region 0 [
 o1 55 (.move (tm 8)) 0,
 o1 56 (.un .not (tm 55)) 0] []) (.cond (tm 56) (.seq (.region 0 [
 o1 57 (.fieldAddr 2 (tm 7)) 0,
 o1 58 (.load false 1 (tm 57)) 0,
 o1 59 (.len (tm 58)) 0,
 o1 60 (.bin .eql (tm 59) (ki 0)) 0,
 o1 4 (.move (tm 60)) 0] []) (.ret)) (.skip))) (.seq (.seq (.region 4 [
 o4 61 (.fieldAddr 1 (tm 7)) 0 [],
 o4 62 (.load false 1 (tm 61)) 0 [],
 o4 63 (.fieldAddr 18 (tm 2)) 0 [],
 o4 64 (.load false 1 (tm 63)) 0 [],
 o4 65 (.bin .lss (tm 62) (tm 64)) 0 [],
 o4 66 (.move (tm 65)) 0 [],
 ⟨(some 67),.fieldAddr 2 (tm 7),(some (66,false)),0,(some ([],none))⟩,
 ⟨(some 68),.load false 1 (tm 67),(some (66,false)),0,(some ([],none))⟩,
 ⟨(some 69),.call (.func 65) [(false,(tm 68))] true 4,(some (66,false)),0,(some ([],none))⟩,
 ⟨(some 70),.fieldAddr 1 (tm 3),(some (66,false)),4,(some ([],none))⟩,
 ⟨(some 71),.load false 1 (tm 70),(some (66,false)),4,(some ([],none))⟩,
 ⟨(some 72),.bin .neq (tm 69) (tm 71),(some (66,false)),4,(some ([0,1,2,3],none))⟩,
 o4 73 (.pick (tm 66) (.const (.bool true)) (tm 72)) 4 [0,1,2,3]] []) (.cond (tm 73) (.seq (.region 0 [
 o1 4 (.move (.const (.bool false))) 0] []) (.ret)) (.skip))) (.seq (.seq (.region 0 [
 o1 74 (.fieldAddr 1 (tm 7)) 0,
 o1 75 (.load false 1 (tm 74)) 0,
 o1 9 (.move (tm 75)) 0] []) (.block 0 (.loop [2,3,5,7,9] ⟨[(2,(.ptr 0 0 0)),(3,(.ptr 1 0 0)),(5,(.ptr 2 0 0)),(7,(.ptr 3 0 0)),(9,vI)],[],[.one false (.pair .spec (.pair (.int .i64) (.pair (.list .run) (.list .booking)))),.one false (.pair (.int .i64) (.pair (.int .i64) (.pair .res (.int .i64)))),.cell false (.cons vI (.cons (.slw 4 1) (.cons (.slw 5 1) .nil))),.one false (.pair (.int .i64) (.pair (.int .i64) (.list .share))),.typed (.list (.int .i64)),.typed (.list .step)]⟩ (.seq (.seq (.region 0 [
 o1 76 (.move (tm 9)) 0,
 o1 77 (.fieldAddr 1 (tm 7)) 0,
 o1 78 (.load false 1 (tm 77)) 0,
 o1 79 (.fieldAddr 6 (tm 3)) 0,
 o1 80 (.load false 1 (tm 79)) 0,
 o1 81 (.bin .add (tm 78) (tm 80)) 0,
 o1 82 (.bin .lss (tm 76) (tm 81)) 0] []) (.cond (tm 82) (.skip) (.exit 0))) (.seq (.block 1 (.seq (.region 4 [
 o1 85 (.move (tm 5)) 0,
 o1 86 (.move (tm 9)) 0,
 o1 87 (.call (.func 66) [(true,(tm 85)),(false,(tm 86))] false 4) 0,
 o1 10 (.move (tm 87)) 4] []) (.seq (.region 0 [
 o1 88 (.fieldAddr 2 (tm 7)) 0,
 o1 89 (.load false 1 (tm 88)) 0,
 o1 90 (.len (tm 89)) 0,
 o1 91 (.move (ki 0)) 0] []) (.block 2 (.loop [2,3,5,7,9,10,89,90,91] ⟨[(2,(.ptr 0 0 0)),(3,(.ptr 1 0 0)),(5,(.ptr 2 0 0)),(7,(.ptr 3 0 0)),(91,vI)],[9,10,89,90],[.one false (.pair .spec (.pair (.int .i64) (.pair (.list .run) (.list .booking)))),.one false (.pair (.int .i64) (.pair (.int .i64) (.pair .res (.int .i64)))),.cell false (.cons vI (.cons (.slw 4 1) (.cons (.slw 5 1) .nil))),.one false (.pair (.int .i64) (.pair (.int .i64) (.list .share))),.typed (.list (.int .i64)),.typed (.list .step)]⟩ (.seq (.region 0 [
 o1 92 (.bin .lss (tm 91) (tm 90)) 0] []) (.seq (.cond (tm 92) (.skip) (.exit 2)) (.seq (.block 3 (.seq (.region 1 [
 o1 93 (.indexSl 2 (tm 89) (tm 91)) 0,
 o1 94 (.load true 2 (tm 93)) 0,
 o1 12 (.alloc [.int .i64 (0),.int .i64 (0)]) 0,
 ⟨none,.store 2 (tm 12) (tm 94),none,1,none⟩] []) (.seq (.region 8 [
 o4 95 (.fieldAddr 0 (tm 12)) 0 [],
 o4 96 (.load false 1 (tm 95)) 0 [],
 o4 97 (.bin .lss (tm 96) (ki 0)) 0 [],
 o4 98 (.move (tm 97)) 0 [],
 ⟨(some 99),.fieldAddr 0 (tm 12),(some (98,false)),0,(some ([],none))⟩,
 ⟨(some 100),.load false 1 (tm 99),(some (98,false)),0,(some ([],none))⟩,
 ⟨(some 101),.move (tm 10),(some (98,false)),0,(some ([],none))⟩,
 ⟨(some 102),.len (tm 101),(some (98,false)),0,(some ([],none))⟩,
 ⟨(some 103),.bin .geq (tm 100) (tm 102),(some (98,false)),0,(some ([],none))⟩,
 o4 104 (.pick (tm 98) (.const (.bool true)) (tm 103)) 0 [],
 o4 105 (.move (tm 104)) 0 [],
 ⟨(some 106),.fieldAddr 1 (tm 12),(some (105,false)),0,(some ([],none))⟩,
 ⟨(some 107),.load false 1 (tm 106),(some (105,false)),0,(some ([],none))⟩,
 ⟨(some 108),.bin .lss (tm 107) (ki 1),(some (105,false)),0,(some ([],none))⟩,
 o4 109 (.pick (tm 105) (.const (.bool true)) (tm 108)) 0 [],
 o4 110 (.move (tm 109)) 0 [],
 ⟨(some 111),.fieldAddr 1 (tm 12),(some (110,false)),0,(some ([],none))⟩,
 ⟨(some 112),.load false 1 (tm 111),(some (110,false)),0,(some ([],none))⟩,
 ⟨(some 113),.bin .gtr (tm 112) (ki 64),(some (110,false)),0,(some ([],none))⟩,
 o4 114 (.pick (tm 110) (.const (.bool true)) (tm 113)) 0 [],
 o4 115 (.move (tm 114)) 0 [],
 ⟨(some 116),.fieldAddr 2 (tm 3),(some (115,false)),0,(some ([],none))⟩,
 ⟨(some 117),.load true 4 (tm 116),(some (115,false)),0,(some ([],none))⟩,
 ⟨(some 118),.fieldAddr 1 (tm 12),(some (115,false)),0,(some ([],none))⟩,
 ⟨(some 119),.load false 1 (tm 118),(some (115,false)),0,(some ([],none))⟩,
 ⟨(some 120),.call (.func 53) [(false,(tm 117)),(false,(tm 119))] true 4,(some (115,false)),0,(some ([],none))⟩,
 ⟨(some 121),.move (tm 10),(some (115,false)),4,(some ([],none))⟩,
 ⟨(some 122),.fieldAddr 0 (tm 12),(some (115,false)),4,(some ([],none))⟩,
 ⟨(some 123),.load false 1 (tm 122),(some (115,false)),4,(some ([],none))⟩,
 ⟨(some 124),.indexSl 4 (tm 121) (tm 123),(some (115,false)),4,(some ([],none))⟩,
 ⟨(some 125),.load true 4 (tm 124),(some (115,false)),4,(some ([],none))⟩,
 ⟨(some 126),.call (.func 67) [(false,(tm 120)),(false,(tm 125))] false 4,(some (115,false)),4,(some ([0,1,2,3],none))⟩,
 ⟨(some 127),.un .not (tm 126),(some (115,false)),8,(some ([0,1,2,3,4,5,6,7],none))⟩,
 o4 128 (.pick (tm 115) (.const (.bool true)) (tm 127)) 8 [0,1,2,3,4,5,6,7]] []) (.cond (tm 128) (.seq (.region 0 [
 o1 4 (.move (.const (.bool false))) 0] []) (.ret)) (.skip))))) (.region 0 [
 o1 129 (.bin .add (tm 91) (ki 1)) 0,
 o1 91 (.move (tm 129)) 0] []))))))))) (.region 0 [
 o1 83 (.move (tm 9)) 0,
 o1 84 (.bin .add (tm 83) (ki 1)) 0,
 o1 9 (.move (tm 84)) 0] [])))))) (.seq (.seq (.region 0 [
 o1 130 (.fieldAddr 18 (tm 2)) 0,
 o1 131 (.load false 1 (tm 130)) 0,
 o1 132 (.fieldAddr 1 (tm 7)) 0,
 o1 133 (.load false 1 (tm 132)) 0,
 o1 134 (.bin .sub (tm 133) (ki 60)) 0,
 o1 135 (.minmax true (tm 131) (tm 134)) 0,
 o1 13 (.move (tm 135)) 0] []) (.block 4 (.loop [3,5,7,13] ⟨[(3,(.ptr 0 0 0)),(5,(.ptr 1 0 0)),(7,(.ptr 2 0 0)),(13,vI)],[],[.one false (.pair (.int .i64) (.pair (.int .i64) (.pair .res (.int .i64)))),.cell false (.cons vI (.cons (.slw 3 1) (.cons (.slw 4 1) .nil))),.one false (.pair (.int .i64) (.pair (.int .i64) (.list .share))),.typed (.list (.int .i64)),.typed (.list .step)]⟩ (.seq (.seq (.region 0 [
 o1 136 (.move (tm 13)) 0,
 o1 137 (.fieldAddr 1 (tm 7)) 0,
 o1 138 (.load false 1 (tm 137)) 0,
 o1 139 (.bin .lss (tm 136) (tm 138)) 0] []) (.cond (tm 139) (.skip) (.exit 4))) (.seq (.block 5 (.seq (.region 4 [
 o1 143 (.move (tm 5)) 0,
 o1 144 (.fieldAddr 0 (tm 3)) 0,
 o1 145 (.load false 1 (tm 144)) 0,
 o1 146 (.fieldAddr 1 (tm 3)) 0,
 o1 147 (.load false 1 (tm 146)) 0,
 o1 148 (.fieldAddr 2 (tm 3)) 0,
 o1 149 (.load true 4 (tm 148)) 0,
 o1 150 (.fieldAddr 6 (tm 3)) 0,
 o1 151 (.load false 1 (tm 150)) 0,
 o1 152 (.move (tm 13)) 0,
 o1 153 (.call (.func 64) [(true,(tm 143)),(false,(tm 145)),(false,(tm 147)),(false,(tm 149)),(false,(tm 151)),(false,(tm 152))] false 4) 0,
 o1 142 (.move (tm 153)) 4,
 o1 154 (.extract (tm 142) 0) 4,
 o1 155 (.extract (tm 142) 1) 4,
 o1 14 (.move (tm 154)) 4,
 o1 15 (.move (tm 155)) 4] []) (.seq (.region 0 [
 o1 156 (.move (tm 15)) 0] []) (.cond (tm 156) (.seq (.region 0 [
 o1 4 (.move (.const (.bool false))) 0] []) (.ret)) (.skip))))) (.region 0 [
 o1 140 (.move (tm 13)) 0,
 o1 141 (.bin .add (tm 140) (ki 1)) 0,
 o1 13 (.move (tm 141)) 0] [])))))) (.seq (.region 0 [
 o1 4 (.move (.const (.bool true))) 0] []) (.ret))))))))))),[.tmp 4],true⟩
def s10 : Sig := ⟨(.cons (.v (.pair .spec (.pair (.int .i64) (.pair (.list .run) (.list .booking))))) (.cons (.v (.pair (.int .i64) (.pair (.int .i64) (.pair .res (.int .i64))))) .nil)),[],((.v .bool),[]),[]⟩
def l10_0 (g53 : Res → Int → Option Res) (g67 : Res → Res → Option Bool) (nx9 : (Tab → Option Bool)) (zt10 : Int) (z14 : (Int × (Int × (List Share)))) (r17 : ((List Res) × Taa)) (nx19 : Tab → Option Bool) (z20 : Int) (z21 : Tai) (z22 : (Int × (Int × (Res × Int)))) (z23 : Int) (z24 : (Int × (Int × (List Share)))) (z25 : (List (List Int))) (z26 : (List (List Step))) : Option Bool :=
 cond (decide (z20 < (List.length z14.2.2 : Int)))
 (cond (decide (0 ≤ z20))
 (Option.bind (z14.2.2[Int.toNat z20]?) fun y27 =>
 cond (decide (y27.node < 0))
 (some false)
 (cond (decide ((List.length r17.1 : Int) ≤ y27.node))
 (some false)
 (cond (decide (y27.many < 1))
 (some false)
 (cond (decide (64 < y27.many))
 (some false)
 (Option.bind (g53 z22.2.2.1 y27.many) fun r28 =>
 cond (decide (0 ≤ y27.node))
 (Option.bind (r17.1[Int.toNat y27.node]?) fun y29 =>
 Option.bind (g67 r28 y29) fun r30 =>
 cond (!r30)
 (some false)
 (nx19 (((),(),(),(),IntKind.wrap .i64 (z20 + 1),()),(z21,z22,(z23,(),(),()),z24,z25,z26,()))))
 (none))))))
 (none))
 (nx9 (((),(),(),(),IntKind.wrap .i64 (zt10 + 1),()),(z21,z22,(z23,(),(),()),z24,z25,z26,())))
def l10_1 (g64_1 : Int → Int → Res → Int → Int → Int → (List (List Int)) → (List (List Step)) → Option Taj) (nx33 : Taf → Option Bool) (zt34 : Int) (z35 : (Int × (Int × (Res × Int)))) (z36 : Int) (z37 : (Int × (Int × (List Share)))) (z38 : (List (List Int))) (z39 : (List (List Step))) : Option Bool :=
 cond (decide (zt34 < z37.2.1))
 (Option.bind (g64_1 z35.1 z35.2.1 z35.2.2.1 z35.2.2.2 zt34 z36 z38 z39) fun r40 =>
 cond (true && ((decide ((List.length r40.2.2.1) = (List.length z38))) && ((decide ((List.length r40.2.2.2.1) = (List.length z39))) && true)))
 (cond r40.1.2.1
 (some false)
 (nx33 (((),(),(),IntKind.wrap .i64 (zt34 + 1),()),(z35,(r40.2.1.1,(),(),()),z37,r40.2.2.1,r40.2.2.2.1,()))))
 (none))
 (some true)
def l10_2 (L : Lp) (g66 : Int → Int → (List (List Int)) → (List (List Step)) → Option ((List Res) × Taa)) (g53 : Res → Int → Option Res) (g67 : Res → Res → Option Bool) (g64_1 : Int → Int → Res → Int → Int → Int → (List (List Int)) → (List (List Step)) → Option Taj) (nx9 : Tab → Option Bool) (zt10 : Int) (z11 : Tai) (z12 : (Int × (Int × (Res × Int)))) (z13 : Int) (z14 : (Int × (Int × (List Share)))) (z15 : (List (List Int))) (z16 : (List (List Step))) : Option Bool :=
 cond (decide (zt10 < (IntKind.wrap .i64 (z14.2.1 + z12.2.2.2))))
 (Option.bind (g66 zt10 z13 z15 z16) fun r17 =>
 cond (true && ((decide ((List.length r17.2.2.1) = (List.length z15))) && ((decide ((List.length r17.2.2.2.1) = (List.length z16))) && true)))
 (L (fun (s18 : Tab) nx19 => l10_0 g53 g67 nx9 zt10 z14 r17 nx19 s18.1.2.2.2.2.1 s18.2.1 s18.2.2.1 s18.2.2.2.1.1 s18.2.2.2.2.1 s18.2.2.2.2.2.1 s18.2.2.2.2.2.2.1) (((),(),(),(),0,()),(z11,z12,(r17.2.1.1,(),(),()),z14,r17.2.2.1,r17.2.2.2.1,())))
 (none))
 (let v31 := if (IntKind.wrap .i64 (z14.2.1 - 60)) > z11.2.1 then (IntKind.wrap .i64 (z14.2.1 - 60)) else z11.2.1
 L (fun (s32 : Taf) nx33 => l10_1 g64_1 nx33 s32.1.2.2.2.1 s32.2.1 s32.2.2.1.1 s32.2.2.2.1 s32.2.2.2.2.1 s32.2.2.2.2.2.1) (((),(),(),v31,()),(z12,(z13,(),(),()),z14,z15,z16,())))
def l10_3 (g53 : Res → Int → Option Res) (g67 : Res → Res → Option Bool) (nx46 : (Tab → Option Bool)) (zt47 : Int) (z51 : (Int × (Int × (List Share)))) (r54 : ((List Res) × Taa)) (nx56 : Tab → Option Bool) (z57 : Int) (z58 : Tai) (z59 : (Int × (Int × (Res × Int)))) (z60 : Int) (z61 : (Int × (Int × (List Share)))) (z62 : (List (List Int))) (z63 : (List (List Step))) : Option Bool :=
 cond (decide (z57 < (List.length z51.2.2 : Int)))
 (cond (decide (0 ≤ z57))
 (Option.bind (z51.2.2[Int.toNat z57]?) fun y64 =>
 cond (decide (y64.node < 0))
 (some false)
 (cond (decide ((List.length r54.1 : Int) ≤ y64.node))
 (some false)
 (cond (decide (y64.many < 1))
 (some false)
 (cond (decide (64 < y64.many))
 (some false)
 (Option.bind (g53 z59.2.2.1 y64.many) fun r65 =>
 cond (decide (0 ≤ y64.node))
 (Option.bind (r54.1[Int.toNat y64.node]?) fun y66 =>
 Option.bind (g67 r65 y66) fun r67 =>
 cond (!r67)
 (some false)
 (nx56 (((),(),(),(),IntKind.wrap .i64 (z57 + 1),()),(z58,z59,(z60,(),(),()),z61,z62,z63,()))))
 (none))))))
 (none))
 (nx46 (((),(),(),(),IntKind.wrap .i64 (zt47 + 1),()),(z58,z59,(z60,(),(),()),z61,z62,z63,())))
def l10_4 (g64_1 : Int → Int → Res → Int → Int → Int → (List (List Int)) → (List (List Step)) → Option Taj) (nx70 : Taf → Option Bool) (zt71 : Int) (z72 : (Int × (Int × (Res × Int)))) (z73 : Int) (z74 : (Int × (Int × (List Share)))) (z75 : (List (List Int))) (z76 : (List (List Step))) : Option Bool :=
 cond (decide (zt71 < z74.2.1))
 (Option.bind (g64_1 z72.1 z72.2.1 z72.2.2.1 z72.2.2.2 zt71 z73 z75 z76) fun r77 =>
 cond (true && ((decide ((List.length r77.2.2.1) = (List.length z75))) && ((decide ((List.length r77.2.2.2.1) = (List.length z76))) && true)))
 (cond r77.1.2.1
 (some false)
 (nx70 (((),(),(),IntKind.wrap .i64 (zt71 + 1),()),(z72,(r77.2.1.1,(),(),()),z74,r77.2.2.1,r77.2.2.2.1,()))))
 (none))
 (some true)
def l10_5 (L : Lp) (g66 : Int → Int → (List (List Int)) → (List (List Step)) → Option ((List Res) × Taa)) (g53 : Res → Int → Option Res) (g67 : Res → Res → Option Bool) (g64_1 : Int → Int → Res → Int → Int → Int → (List (List Int)) → (List (List Step)) → Option Taj) (nx46 : Tab → Option Bool) (zt47 : Int) (z48 : Tai) (z49 : (Int × (Int × (Res × Int)))) (z50 : Int) (z51 : (Int × (Int × (List Share)))) (z52 : (List (List Int))) (z53 : (List (List Step))) : Option Bool :=
 cond (decide (zt47 < (IntKind.wrap .i64 (z51.2.1 + z49.2.2.2))))
 (Option.bind (g66 zt47 z50 z52 z53) fun r54 =>
 cond (true && ((decide ((List.length r54.2.2.1) = (List.length z52))) && ((decide ((List.length r54.2.2.2.1) = (List.length z53))) && true)))
 (L (fun (s55 : Tab) nx56 => l10_3 g53 g67 nx46 zt47 z51 r54 nx56 s55.1.2.2.2.2.1 s55.2.1 s55.2.2.1 s55.2.2.2.1.1 s55.2.2.2.2.1 s55.2.2.2.2.2.1 s55.2.2.2.2.2.2.1) (((),(),(),(),0,()),(z48,z49,(r54.2.1.1,(),(),()),z51,r54.2.2.1,r54.2.2.2.1,())))
 (none))
 (let v68 := if (IntKind.wrap .i64 (z51.2.1 - 60)) > z48.2.1 then (IntKind.wrap .i64 (z51.2.1 - 60)) else z48.2.1
 L (fun (s69 : Taf) nx70 => l10_4 g64_1 nx70 s69.1.2.2.2.1 s69.2.1 s69.2.2.1.1 s69.2.2.2.1 s69.2.2.2.2.1 s69.2.2.2.2.2.1) (((),(),(),v68,()),(z49,(z50,(),(),()),z51,z52,z53,())))
def F10 (L : Lp) (g60 : Option Bool) (g61 : Tai → Option Bool) (g62 : Spec → Int → (List Run) → (List Booking) → Option Tae) (g63_1 : Int → Int → Res → Int → Int → (List (List Int)) → (List (List Step)) → Option (Tag × Taa)) (g65 : (List Share) → Option Int) (g66 : Int → Int → (List (List Int)) → (List (List Step)) → Option ((List Res) × Taa)) (g53 : Res → Int → Option Res) (g67 : Res → Res → Option Bool) (g64_1 : Int → Int → Res → Int → Int → Int → (List (List Int)) → (List (List Step)) → Option Taj) (w0 : Tai) (ax1 : (Int × (Int × (Res × Int)))) : Option Bool :=
 Option.bind (g60) fun r2 =>
 cond (!r2)
 (some false)
 (Option.bind (g61 w0) fun r3 =>
 cond (!r3)
 (some true)
 (cond (decide (40 < ax1.2.2.2))
 (some true)
 (Option.bind (g62 w0.1 w0.2.1 w0.2.2.1 w0.2.2.2) (Sum.elim (fun r4 =>
 Option.bind (α := (((Unit × (Unit × (Unit × Unit))) × (Tai × ((Int × (Int × (Res × Int))) × Taa))) ⊕ Bool))
 (cond (!decide (r4.2.1 = 0))
 (some (.inr true))
 (none)) (Sum.elim (fun x5 =>
 Option.bind (g63_1 x5.2.2.1.1 x5.2.2.1.2.1 x5.2.2.1.2.2.1 x5.2.2.1.2.2.2 x5.2.2.2.1.1 x5.2.2.2.2.1 x5.2.2.2.2.2.1) fun r6 =>
 cond (true && ((decide ((List.length r6.2.2.1) = (List.length x5.2.2.2.2.1))) && ((decide ((List.length r6.2.2.2.1) = (List.length x5.2.2.2.2.2.1))) && true)))
 (cond (!r6.1.2.1)
 (some (decide ((List.length r6.1.1.2.2 : Int) = 0)))
 (cond (decide (r6.1.1.2.1 < x5.2.1.2.1))
 (some false)
 (Option.bind (g65 r6.1.1.2.2) fun r7 =>
 cond (!decide (r7 = x5.2.2.1.2.1))
 (some false)
 (L (fun (s8 : Tab) nx9 => l10_2 L g66 g53 g67 g64_1 nx9 s8.1.2.2.2.2.1 s8.2.1 s8.2.2.1 s8.2.2.2.1.1 s8.2.2.2.2.1 s8.2.2.2.2.2.1 s8.2.2.2.2.2.2.1) (((),(),(),(),r6.1.1.2.1,()),(x5.2.1,x5.2.2.1,(r6.2.1.1,(),(),()),r6.1.1,r6.2.2.1,r6.2.2.2.1,()))))))
 (none)) some)) (fun r41 =>
 Option.bind (α := (((Unit × (Unit × (Unit × Unit))) × (Tai × ((Int × (Int × (Res × Int))) × Taa))) ⊕ Bool))
 (cond (!decide (r41.1.2.1 = 0))
 (some (.inr false))
 (some (.inl (((),(),(),()),(w0,ax1,(r41.2.1.1,(),(),()),r41.2.2.1,r41.2.2.2.1,()))))) (Sum.elim (fun x42 =>
 Option.bind (g63_1 x42.2.2.1.1 x42.2.2.1.2.1 x42.2.2.1.2.2.1 x42.2.2.1.2.2.2 x42.2.2.2.1.1 x42.2.2.2.2.1 x42.2.2.2.2.2.1) fun r43 =>
 cond (true && ((decide ((List.length r43.2.2.1) = (List.length x42.2.2.2.2.1))) && ((decide ((List.length r43.2.2.2.1) = (List.length x42.2.2.2.2.2.1))) && true)))
 (cond (!r43.1.2.1)
 (some (decide ((List.length r43.1.1.2.2 : Int) = 0)))
 (cond (decide (r43.1.1.2.1 < x42.2.1.2.1))
 (some false)
 (Option.bind (g65 r43.1.1.2.2) fun r44 =>
 cond (!decide (r44 = x42.2.2.1.2.1))
 (some false)
 (L (fun (s45 : Tab) nx46 => l10_5 L g66 g53 g67 g64_1 nx46 s45.1.2.2.2.2.1 s45.2.1 s45.2.2.1 s45.2.2.2.1.1 s45.2.2.2.2.1 s45.2.2.2.2.2.1 s45.2.2.2.2.2.2.1) (((),(),(),(),r43.1.1.2.1,()),(x42.2.1,x42.2.2.1,(r43.2.1.1,(),(),()),r43.1.1,r43.2.2.1,r43.2.2.2.1,()))))))
 (none)) some))))))
theorem e10 (L : Lp) (g60 : Option Bool) (g61 : Tai → Option Bool) (g62 : Spec → Int → (List Run) → (List Booking) → Option Tae) (g63_1 : Int → Int → Res → Int → Int → (List (List Int)) → (List (List Step)) → Option (Tag × Taa)) (g65 : (List Share) → Option Int) (g66 : Int → Int → (List (List Int)) → (List (List Step)) → Option ((List Res) × Taa)) (g53 : Res → Int → Option Res) (g67 : Res → Res → Option Bool) (g64_1 : Int → Int → Res → Int → Int → Int → (List (List Int)) → (List (List Step)) → Option Taj) (x : s10.args.den) (h : denH s10.heap) : nrun [⟨60,s60,fun x h => g60 ⟩,⟨61,s61,fun x h => g61 x.1⟩,⟨62,s62,fun x h => g62 x.1 x.2.1 x.2.2.1 x.2.2.2.1⟩,⟨63,s63_1,fun x h => g63_1 x.2.1 x.2.2.1 x.2.2.2.1 x.2.2.2.2.1 h.1.1 h.2.1 h.2.2.1⟩,⟨65,s65,fun x h => g65 x.1⟩,⟨66,s66,fun x h => g66 x.2.1 h.1.1 h.2.1 h.2.2.1⟩,⟨53,s53,fun x h => g53 x.1 x.2.1⟩,⟨67,s67,fun x h => g67 x.1 x.2.1⟩,⟨64,s64_1,fun x h => g64_1 x.2.1 x.2.2.1 x.2.2.2.1 x.2.2.2.2.1 x.2.2.2.2.2.1 h.1.1 h.2.1 h.2.2.1⟩] L n10 s10 x h = F10 L g60 g61 g62 g63_1 g65 g66 g53 g67 g64_1 x.1 x.2.1 := by kernel_rfl
def f10 : Tai → (Int × (Int × (Res × Int))) → Option Bool := F10 (@LN LOOPS) f60 f61 f62 f63_1 f65 f66 f53 f67 f64_1
@[reducible] def t10 : Ent := ⟨10,s10,fun x h => f10 x.1 x.2.1⟩
theorem k10 : chkNF Try.prog Try.f10 n10 = true := by kernel_rfl
theorem ok10 : NOk Try.prog t10 := NOk.body (T := [t60,t61,t62,t63_1,t65,t66,t53,t67,t64_1]) mixed (nall_cons ok60 (nall_cons ok61 (nall_cons ok62 (nall_cons ok63_1 (nall_cons ok65 (nall_cons ok66 (nall_cons ok53 (nall_cons ok67 (nall_cons ok64_1 nall_nil))))))))) (oneEach_of (by kernel_rfl)) Try.func10 k10 (by kernel_rfl) (fun x h => e10 _ _ _ _ _ _ _ _ _ _ x h)
end NM
end Go.Proofs.Ytmnhkpekmgobbaa
end
