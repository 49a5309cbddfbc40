/-
  What the proof of LotSays leans on, part 21. (Many texts laid together by program.)
-/
import Derived.Test.YtpogjlhgbdpnbaaGreatDoorPkSt
set_option linter.unnecessarySimpa false
set_option linter.unusedSimpArgs false
set_option linter.unusedVariables false
section
set_option maxRecDepth 100000
set_option maxHeartbeats 4000000
namespace Go.Proofs.YtpogjlhgbdpnbaaGreatDoor
namespace NM
open AM Go.RowKit
def n13 : NFunc := ⟨41,.seq (.region 1 [
 o1 2 (.alloc [iz,iz,iz,iz,iz,iz,iz,iz,iz,iz,iz,iz,iz,iz,.zsl,iz,iz,iz,iz,.zsl,iz,.bool false,iz,.bool false]) 0,
 o1 3 (.move (ki 0)) 1] []) (.seq (.region 5 [
 oM 8 0 0,
 o1 9 (.call (fc 36) [(vv 8),(false,(.const (.str [32])))] false 4) 0,
 o1 10 (.build [.zsl,.bool false] [(0,1,(tm 9))]) 4,
 o1 11 (.box 2 (tm 10)) 4,
 oM 4 11 5] []) (.seq (.region 5 [
 oM 12 4 0,
 o1 13 (.call (fc 37) [(vw 12)] false 4) 0,
 o1 5 (.alloc [iz,iz,iz,iz,iz,iz,iz,iz,iz,iz,iz,iz,iz,iz,.zsl,iz,iz,iz,iz,.zsl,iz,.bool false,iz,.bool false]) 4,
 oS 24 5 13 5] []) (.seq (.seq (.region 0 [
 oM 14 4 0,
 o1 15 (.nilCheck (tm 14)) 0,
 oF 16 1 15 0,
 oL 17 16 0,
 oM 18 17 0,
 oN 19 4 18 0,
 o2 20 (.nilCheck (tm 19)) 18 0,
 o2 21 (.fieldAddr 0 (tm 20)) 18 0,
 o2 22 (.load false 1 (tm 21)) 18 0,
 o2 23 (.len (tm 22)) 18 0,
 o2 24 (.bin .gtr (tm 23) (ki 0)) 18 0,
 o1 25 (.pick (tm 18) kt (tm 24)) 0] []) (.cond (tm 25) (.seq (.region 0 [
 o1 26 (.build [iz,iz,iz,iz,iz,iz,iz,iz,iz,iz,iz,iz,iz,iz,.zsl,iz,iz,iz,iz,.zsl,iz,.bool false,iz,.bool false] []) 0,
 oS 24 2 26 0,
 o1 3 (.move (ki 11)) 0] []) (.ret)) (.skip))) (.seq (.seq (.region 4 [
 oT 28 24 5 0,
 o1 29 (.call (fc 9) [(vv 28)] false 4) 0,
 oM 27 29 4,
 oX 30 27 0 4,
 oX 31 27 1 4,
 oM 6 30 4,
 oM 7 31 4] []) (.seq (.region 0 [
 oM 32 7 0,
 oC 33 .neq 32 0 0,
 oM 34 33 0,
 oN 35 6 34 0,
 oN 36 0 34 0,
 o2 37 (.bin .neq (tm 35) (tm 36)) 34 0,
 o1 38 (.pick (tm 34) kt (tm 37)) 0] []) (.cond (tm 38) (.seq (.region 0 [
 o1 39 (.build [iz,iz,iz,iz,iz,iz,iz,iz,iz,iz,iz,iz,iz,iz,.zsl,iz,iz,iz,iz,.zsl,iz,.bool false,iz,.bool false] []) 0,
 oS 24 2 39 0,
 o1 3 (.move (ki 11)) 0] []) (.ret)) (.skip)))) (.seq (.region 0 [
 oT 40 24 5 0,
 oS 24 2 40 0,
 o1 3 (.move (ki 0)) 0] []) (.ret)))))),[.cell true 24 2,.tmp 3],true⟩
def s13 : Sig := ⟨(.cons (.v .str) .nil),[],((.tup (.cons (.v (.pair (.int .i64) (.pair (.int .i64) (.pair .request (.pair (.list (.int .u8)) (.pair (.int .i64) (.pair .bool (.pair (.int .i64) .bool)))))))) (.cons (.v (.int .i64)) .nil))),[]),[]⟩
def F13 (L : Lp) (g36 : (List UInt8) → (List UInt8) → Option (List (List UInt8))) (g37 : ((List (List UInt8)) × Bool) → Option ((Int × (Int × (Request × ((List Int) × (Int × (Bool × (Int × Bool))))))) × (((List (List UInt8)) × Bool) × Unit))) (g9 : (Int × (Int × (Request × ((List Int) × (Int × (Bool × (Int × Bool))))))) → Option ((List UInt8) × (Int × Unit))) (line0 : (List UInt8)) : Option ((Int × (Int × (Request × ((List Int) × (Int × (Bool × (Int × Bool))))))) × (Int × Unit)) :=
 Option.bind (g36 line0 ([32] : List UInt8)) fun r1 =>
 Option.bind (g37 (r1,false)) fun r2 =>
 cond r2.2.1.2
 (some ((0,(0,(Request.mk 0 0 0 0 0 0 (Res.mk 0 0 0 0) 0 0 [] 0 0 0 0,([],(0,(false,(0,false))))))),11,()))
 (cond (decide (0 < (List.length r2.2.1.1 : Int)))
 (some ((0,(0,(Request.mk 0 0 0 0 0 0 (Res.mk 0 0 0 0) 0 0 [] 0 0 0 0,([],(0,(false,(0,false))))))),11,()))
 (Option.bind (g9 r2.1) fun r3 =>
 cond (!decide (r3.2.1 = 0))
 (some ((0,(0,(Request.mk 0 0 0 0 0 0 (Res.mk 0 0 0 0) 0 0 [] 0 0 0 0,([],(0,(false,(0,false))))))),11,()))
 (cond (!decide (r3.1 = line0))
 (some ((0,(0,(Request.mk 0 0 0 0 0 0 (Res.mk 0 0 0 0) 0 0 [] 0 0 0 0,([],(0,(false,(0,false))))))),11,()))
 (some (r2.1,0,())))))
theorem e13 (L : Lp) (g36 : (List UInt8) → (List UInt8) → Option (List (List UInt8))) (g37 : ((List (List UInt8)) × Bool) → Option ((Int × (Int × (Request × ((List Int) × (Int × (Bool × (Int × Bool))))))) × (((List (List UInt8)) × Bool) × Unit))) (g9 : (Int × (Int × (Request × ((List Int) × (Int × (Bool × (Int × Bool))))))) → Option ((List UInt8) × (Int × Unit))) (x : s13.args.den) (h : denH s13.heap) : nrun [⟨36,s36,fun x h => g36 x.1 x.2.1⟩,⟨37,s37,fun x h => g37 h.1⟩,⟨9,s9,fun x h => g9 x.1⟩] L n13 s13 x h = F13 L g36 g37 g9 x.1 := by kernel_rfl
def f13 : (List UInt8) → Option ((Int × (Int × (Request × ((List Int) × (Int × (Bool × (Int × Bool))))))) × (Int × Unit)) := F13 (@LN LOOPS) f36 f37 f9
@[reducible] def t13 : Ent := ⟨13,s13,fun x h => f13 x.1⟩
theorem k13 : chkNF Tryz.prog Tryz.f13 n13 = true := by kernel_rfl
theorem ok13 : NOk Tryz.prog t13 := NOk.body (T := [t36,t37,t9]) mixed (nall_cons ok36 (nall_cons ok37 (nall_cons ok9 nall_nil))) (oneEach_of (by kernel_rfl)) Tryz.func13 k13 (by kernel_rfl) (fun x h => e13 _ _ _ _ x h)
def n67 : NFunc := ⟨36,.seq (.region 1 [
 o1 1 (.box 17 (tm 0)) 0,
 o1 2 (.move (.const (.zsl))) 1] []) (.seq (.region 1 [
 oF 3 2 1 0,
 oL 4 3 0,
 oF 5 3 1 0,
 oL 6 5 0,
 oF 7 4 1 0,
 oL 8 7 0,
 oF 9 5 1 0,
 oL 10 9 0,
 oF 11 6 1 0,
 oF 12 0 11 0,
 oL 13 12 0,
 oF 14 6 1 0,
 oF 15 1 14 0,
 oL 16 15 0,
 oF 17 6 1 0,
 oF 18 2 17 0,
 oL 19 18 0,
 oF 20 6 1 0,
 oF 21 3 20 0,
 oL 22 21 0,
 oF 23 10 1 0,
 oL 24 23 0,
 oF 25 11 1 0,
 oL 26 25 0,
 oF 27 13 1 0,
 oL 28 27 0,
 oF 29 14 1 0,
 oL 30 29 0,
 oF 31 15 1 0,
 oL 32 31 0,
 oF 33 16 1 0,
 oL 34 33 0,
 o1 35 (.buildSlice 1 15 true [iz] [(0,(ki 0)),(1,(tm 4)),(2,(tm 6)),(3,(tm 8)),(4,(tm 10)),(5,(tm 13)),(6,(tm 16)),(7,(tm 19)),(8,(tm 22)),(9,(tm 24)),(10,(tm 26)),(11,(tm 28)),(12,(tm 30)),(13,(tm 32)),(14,(tm 34))]) 0,
 oM 2 35 1] []) (.ret)),[.tmp 2],true⟩
def s67 : Sig := ⟨(.cons (.v .request) .nil),[],((.v (.list (.int .i64))),[]),[]⟩
def F67 (L : Lp)  (ar0 : Request) : Option (List Int) :=
 some [0,ar0.job,ar0.version,ar0.queue,ar0.many,ar0.need.cpu,ar0.need.mem,ar0.need.gpu,ar0.need.lic,ar0.wall,ar0.tasks,ar0.node,ar0.fro,ar0.to,ar0.id]
theorem e67 (L : Lp)  (x : s67.args.den) (h : denH s67.heap) : nrun [] L n67 s67 x h = F67 L  x.1 := by kernel_rfl
def f67 : Request → Option (List Int) := F67 (@LN LOOPS) 
@[reducible] def t67 : Ent := ⟨67,s67,fun x h => f67 x.1⟩
theorem k67 : chkNF Tryz.prog Tryz.f67 n67 = true := by kernel_rfl
theorem ok67 : NOk Tryz.prog t67 := NOk.body (T := []) mixed nall_nil (oneEach_of (by kernel_rfl)) Tryz.func67 k67 (by kernel_rfl) (fun x h => e67 _  x h)
def n30 : NFunc := ⟨65,.seq (.region 2 [
 o1 2 (.box 17 (tm 0)) 0,
 o1 3 (.box 17 (tm 1)) 1,
 o1 4 (.move kf) 2] []) (.seq (.seq (.region 0 [
 oF 9 0 2 0,
 oL 10 9 0,
 oF 11 0 3 0,
 oL 12 11 0,
 oB 13 .neq 10 12 0,
 oM 14 13 0,
 o2 15 (.fieldAddr 1 (tm 2)) 14 0,
 o2 16 (.load false 1 (tm 15)) 14 0,
 o2 17 (.fieldAddr 1 (tm 3)) 14 0,
 o2 18 (.load false 1 (tm 17)) 14 0,
 o2 19 (.bin .neq (tm 16) (tm 18)) 14 0,
 o1 20 (.pick (tm 14) kt (tm 19)) 0,
 oM 21 20 0,
 o2 22 (.fieldAddr 12 (tm 2)) 21 0,
 o2 23 (.load false 1 (tm 22)) 21 0,
 o2 24 (.len (tm 23)) 21 0,
 o2 25 (.fieldAddr 12 (tm 3)) 21 0,
 o2 26 (.load false 1 (tm 25)) 21 0,
 o2 27 (.len (tm 26)) 21 0,
 o2 28 (.bin .neq (tm 24) (tm 27)) 21 0,
 o1 29 (.pick (tm 21) kt (tm 28)) 0] []) (.cond (tm 29) (.seq (.region 0 [
 o1 4 (.move kf) 0] []) (.ret)) (.skip))) (.seq (.seq (.region 0 [
 o1 5 (.move (ki 0)) 0] []) (.block 0 (.loop [2,3,5] ⟨[(2,(.ptr 0 0 0)),(3,(.ptr 1 0 0)),(5,vI)],[],[.one false .request,.one false .request]⟩ (.seq (.seq (.region 0 [
 oM 30 5 0,
 oF 31 12 2 0,
 oL 32 31 0,
 o1 33 (.len (tm 32)) 0,
 oB 34 .lss 30 33 0] []) (.cond (tm 34) (.skip) (.exit 0))) (.seq (.block 1 (.seq (.region 0 [
 o4 37 (.fieldAddr 12 (tm 2)) 0 [],
 o4 38 (.load false 1 (tm 37)) 0 [],
 o4 39 (.move (tm 5)) 0 [],
 o4 40 (.indexSl 2 (tm 38) (tm 39)) 0 [],
 o4 41 (.load true 2 (tm 40)) 0 [],
 o4 42 (.fieldAddr 12 (tm 3)) 0 [],
 o4 43 (.load false 1 (tm 42)) 0 [],
 o4 44 (.move (tm 5)) 0 [],
 o4 45 (.indexSl 2 (tm 43) (tm 44)) 0 [],
 o4 46 (.load true 2 (tm 45)) 0 [],
 o4 47 (.eqAgg (true,[.int .i64,.bool]) (tm 41) (tm 46)) 0 []] []) (.cond (tm 47) (.seq (.region 0 [
 o1 4 (.move kf) 0] []) (.ret)) (.skip)))) (.region 0 [
 oM 35 5 0,
 oC 36 .add 35 1 0,
 oM 5 36 0] [])))))) (.seq (.region 4 [
 oT 48 17 2 0,
 o1 49 (.call (fc 67) [(vv 48)] false 4) 0,
 oM 6 49 4] []) (.seq (.region 4 [
 oT 50 17 3 0,
 o1 51 (.call (fc 67) [(vv 50)] false 4) 0,
 oM 7 51 4] []) (.seq (.seq (.region 0 [
 o1 8 (.move (ki 0)) 0] []) (.block 2 (.loopU [6,7,8] 16 (.seq (.seq (.region 0 [
 oM 52 8 0,
 oC 53 .lss 52 15 0] []) (.cond (tm 53) (.skip) (.exit 2))) (.seq (.block 3 (.seq (.region 0 [
 o4 56 (.move (tm 6)) 0 [],
 o4 57 (.move (tm 8)) 0 [],
 o4 58 (.indexSl 1 (tm 56) (tm 57)) 0 [],
 o4 59 (.load false 1 (tm 58)) 0 [],
 o4 60 (.move (tm 7)) 0 [],
 o4 61 (.move (tm 8)) 0 [],
 o4 62 (.indexSl 1 (tm 60) (tm 61)) 0 [],
 o4 63 (.load false 1 (tm 62)) 0 [],
 o4 64 (.bin .neq (tm 59) (tm 63)) 0 []] []) (.cond (tm 64) (.seq (.region 0 [
 o1 4 (.move kf) 0] []) (.ret)) (.skip)))) (.region 0 [
 oM 54 8 0,
 oC 55 .add 54 1 0,
 oM 8 55 0] [])))))) (.seq (.region 0 [
 o1 4 (.move kt) 0] []) (.ret))))))),[.tmp 4],true⟩
def s30 : Sig := ⟨(.cons (.v .request) (.cons (.v .request) .nil)),[],((.v .bool),[]),[]⟩
def l30_0 (g67 : Request → Option (List Int)) (nx3 : ((Unit × (Unit × (Int × Unit))) × (Request × (Request × Unit))) → Option Bool) (i4 : Int) (z5 : Request) (z6 : Request) : Option Bool :=
 cond (decide (i4 < (List.length z5.after : Int)))
 (cond (decide (0 ≤ i4))
 (Option.bind (z5.after[Int.toNat i4]?) fun y7 =>
 cond (decide (0 ≤ i4))
 (Option.bind (z6.after[Int.toNat i4]?) fun y8 =>
 cond (!((decide (y7.job = y8.job)) && ((y7.ok == y8.ok) && true)))
 (some false)
 (nx3 (((),(),IntKind.wrap .i64 (i4 + 1),()),(z5,z6,()))))
 (none))
 (none))
 (Option.bind (g67 z5) fun r9 =>
 Option.bind (g67 z6) fun r10 =>
 Option.bind (r9[0]?) fun y11 =>
 Option.bind (r10[0]?) fun y12 =>
 cond (!decide (y11 = y12))
 (some false)
 (Option.bind (r9[1]?) fun y13 =>
 Option.bind (r10[1]?) fun y14 =>
 cond (!decide (y13 = y14))
 (some false)
 (Option.bind (r9[2]?) fun y15 =>
 Option.bind (r10[2]?) fun y16 =>
 cond (!decide (y15 = y16))
 (some false)
 (Option.bind (r9[3]?) fun y17 =>
 Option.bind (r10[3]?) fun y18 =>
 cond (!decide (y17 = y18))
 (some false)
 (Option.bind (r9[4]?) fun y19 =>
 Option.bind (r10[4]?) fun y20 =>
 cond (!decide (y19 = y20))
 (some false)
 (Option.bind (r9[5]?) fun y21 =>
 Option.bind (r10[5]?) fun y22 =>
 cond (!decide (y21 = y22))
 (some false)
 (Option.bind (r9[6]?) fun y23 =>
 Option.bind (r10[6]?) fun y24 =>
 cond (!decide (y23 = y24))
 (some false)
 (Option.bind (r9[7]?) fun y25 =>
 Option.bind (r10[7]?) fun y26 =>
 cond (!decide (y25 = y26))
 (some false)
 (Option.bind (r9[8]?) fun y27 =>
 Option.bind (r10[8]?) fun y28 =>
 cond (!decide (y27 = y28))
 (some false)
 (Option.bind (r9[9]?) fun y29 =>
 Option.bind (r10[9]?) fun y30 =>
 cond (!decide (y29 = y30))
 (some false)
 (Option.bind (r9[10]?) fun y31 =>
 Option.bind (r10[10]?) fun y32 =>
 cond (!decide (y31 = y32))
 (some false)
 (Option.bind (r9[11]?) fun y33 =>
 Option.bind (r10[11]?) fun y34 =>
 cond (!decide (y33 = y34))
 (some false)
 (Option.bind (r9[12]?) fun y35 =>
 Option.bind (r10[12]?) fun y36 =>
 cond (!decide (y35 = y36))
 (some false)
 (Option.bind (r9[13]?) fun y37 =>
 Option.bind (r10[13]?) fun y38 =>
 cond (!decide (y37 = y38))
 (some false)
 (Option.bind (r9[14]?) fun y39 =>
 Option.bind (r10[14]?) fun y40 =>
 cond (!decide (y39 = y40))
 (some false)
 (some true))))))))))))))))
def F30 (L : Lp) (g67 : Request → Option (List Int)) (a0 : Request) (b1 : Request) : Option Bool :=
 cond (!decide (a0.kind = b1.kind))
 (some false)
 (cond (!decide (a0.key = b1.key))
 (some false)
 (cond (!decide ((List.length a0.after : Int) = (List.length b1.after : Int)))
 (some false)
 (L (fun (s2 : ((Unit × (Unit × (Int × Unit))) × (Request × (Request × Unit)))) nx3 => l30_0 g67 nx3 s2.1.2.2.1 s2.2.1 s2.2.2.1) (((),(),0,()),(a0,b1,())))))
theorem e30 (L : Lp) (g67 : Request → Option (List Int)) (x : s30.args.den) (h : denH s30.heap) : nrun [⟨67,s67,fun x h => g67 x.1⟩] L n30 s30 x h = F30 L g67 x.1 x.2.1 := by kernel_rfl
def f30 : Request → Request → Option Bool := F30 (@LN LOOPS) f67
@[reducible] def t30 : Ent := ⟨30,s30,fun x h => f30 x.1 x.2.1⟩
theorem k30 : chkNF Tryz.prog Tryz.f30 n30 = true := by kernel_rfl
theorem ok30 : NOk Tryz.prog t30 := NOk.body (T := [t67]) mixed (nall_cons ok67 nall_nil) (oneEach_of (by kernel_rfl)) Tryz.func30 k30 (by kernel_rfl) (fun x h => e30 _ _ x h)
def n31 : NFunc := ⟨26,.seq (.region 0 [
 o1 4 (.move kf) 0] []) (.seq (.seq (.region 0 [
 oM 6 0 0,
 o1 7 (.len (tm 6)) 0,
 oM 8 1 0,
 o1 9 (.len (tm 8)) 0,
 oB 10 .neq 7 9 0] []) (.cond (tm 10) (.seq (.region 0 [
 o1 4 (.move kf) 0] []) (.ret)) (.skip))) (.seq (.seq (.region 0 [
 o1 5 (.move (ki 0)) 0] []) (.block 0 (.loop [0,1,5] ⟨[(5,vI)],[0,1],[]⟩ (.seq (.seq (.region 0 [
 oM 11 5 0,
 oM 12 0 0,
 o1 13 (.len (tm 12)) 0,
 oB 14 .lss 11 13 0] []) (.cond (tm 14) (.skip) (.exit 0))) (.seq (.block 1 (.seq (.region 0 [
 o4 17 (.move (tm 0)) 0 [],
 o4 18 (.move (tm 5)) 0 [],
 o4 19 (.indexSl 1 (tm 17) (tm 18)) 0 [],
 o4 20 (.load false 1 (tm 19)) 0 [],
 o4 21 (.move (tm 1)) 0 [],
 o4 22 (.move (tm 5)) 0 [],
 o4 23 (.indexSl 1 (tm 21) (tm 22)) 0 [],
 o4 24 (.load false 1 (tm 23)) 0 [],
 o4 25 (.bin .neq (tm 20) (tm 24)) 0 []] []) (.cond (tm 25) (.seq (.region 0 [
 o1 4 (.move kf) 0] []) (.ret)) (.skip)))) (.region 0 [
 oM 15 5 0,
 oC 16 .add 15 1 0,
 oM 5 16 0] [])))))) (.seq (.region 0 [
 o1 4 (.move kt) 0] []) (.ret)))),[.tmp 4],true⟩
def s31 : Sig := ⟨(.cons (.v (.list (.int .u8))) (.cons (.v (.list (.int .u8))) .nil)),[],((.v .bool),[]),[]⟩
def l31_0 (a0 : (List Int)) (b1 : (List Int)) (nx3 : ((Int × Unit) × Unit) → Option Bool) (i4 : Int) : Option Bool :=
 cond (decide (i4 < (List.length a0 : Int)))
 (cond (decide (0 ≤ i4))
 (Option.bind (a0[Int.toNat i4]?) fun y5 =>
 cond (decide (0 ≤ i4))
 (Option.bind (b1[Int.toNat i4]?) fun y6 =>
 cond (!decide (y5 = y6))
 (some false)
 (nx3 ((IntKind.wrap .i64 (i4 + 1),()),())))
 (none))
 (none))
 (some true)
def F31 (L : Lp)  (a0 : (List Int)) (b1 : (List Int)) : Option Bool :=
 cond (!decide ((List.length a0 : Int) = (List.length b1 : Int)))
 (some false)
 (L (fun (s2 : ((Int × Unit) × Unit)) nx3 => l31_0 a0 b1 nx3 s2.1.1) ((0,()),()))
theorem e31 (L : Lp)  (x : s31.args.den) (h : denH s31.heap) : nrun [] L n31 s31 x h = F31 L  x.1 x.2.1 := by kernel_rfl
def f31 : (List Int) → (List Int) → Option Bool := F31 (@LN LOOPS) 
@[reducible] def t31 : Ent := ⟨31,s31,fun x h => f31 x.1 x.2.1⟩
theorem k31 : chkNF Tryz.prog Tryz.f31 n31 = true := by kernel_rfl
theorem ok31 : NOk Tryz.prog t31 := NOk.body (T := []) mixed nall_nil (oneEach_of (by kernel_rfl)) Tryz.func31 k31 (by kernel_rfl) (fun x h => e31 _  x h)
def n11 : NFunc := ⟨59,.seq (.region 2 [
 o1 2 (.box 24 (tm 0)) 0,
 o1 3 (.box 24 (tm 1)) 1,
 o1 4 (.move kf) 2] []) (.seq (.region 8 [
 oF 5 0 2 0,
 oL 6 5 0,
 oF 7 0 3 0,
 oL 8 7 0,
 oB 9 .eql 6 8 0,
 oM 10 9 0,
 o3 11 (.fieldAddr 1 (tm 2)) 10 0,
 o3 12 (.load false 1 (tm 11)) 10 0,
 o3 13 (.fieldAddr 1 (tm 3)) 10 0,
 o3 14 (.load false 1 (tm 13)) 10 0,
 o3 15 (.bin .eql (tm 12) (tm 14)) 10 0,
 o1 16 (.pick (tm 10) (tm 15) kf) 0,
 oM 17 16 0,
 o3 18 (.fieldAddr 2 (tm 2)) 17 0,
 o3 19 (.load true 17 (tm 18)) 17 0,
 o3 20 (.fieldAddr 2 (tm 3)) 17 0,
 o3 21 (.load true 17 (tm 20)) 17 0,
 o3 22 (.call (fc 30) [(vv 19),(vv 21)] false 4) 17 0,
 o1 23 (.pick (tm 17) (tm 22) kf) 4,
 oM 24 23 4,
 o3 25 (.fieldAddr 19 (tm 2)) 24 4,
 o3 26 (.load false 1 (tm 25)) 24 4,
 o3 27 (.fieldAddr 19 (tm 3)) 24 4,
 o3 28 (.load false 1 (tm 27)) 24 4,
 o3 29 (.call (fc 31) [(vv 26),(vv 28)] false 4) 24 4,
 o1 30 (.pick (tm 24) (tm 29) kf) 8,
 oM 31 30 8,
 o3 32 (.fieldAddr 20 (tm 2)) 31 8,
 o3 33 (.load false 1 (tm 32)) 31 8,
 o3 34 (.fieldAddr 20 (tm 3)) 31 8,
 o3 35 (.load false 1 (tm 34)) 31 8,
 o3 36 (.bin .eql (tm 33) (tm 35)) 31 8,
 o1 37 (.pick (tm 31) (tm 36) kf) 8,
 oM 38 37 8,
 o3 39 (.fieldAddr 21 (tm 2)) 38 8,
 o3 40 (.load false 1 (tm 39)) 38 8,
 o3 41 (.fieldAddr 21 (tm 3)) 38 8,
 o3 42 (.load false 1 (tm 41)) 38 8,
 o3 43 (.eqB false (tm 40) (tm 42)) 38 8,
 o1 44 (.pick (tm 38) (tm 43) kf) 8,
 oM 45 44 8,
 o3 46 (.fieldAddr 22 (tm 2)) 45 8,
 o3 47 (.load false 1 (tm 46)) 45 8,
 o3 48 (.fieldAddr 22 (tm 3)) 45 8,
 o3 49 (.load false 1 (tm 48)) 45 8,
 o3 50 (.bin .eql (tm 47) (tm 49)) 45 8,
 o1 51 (.pick (tm 45) (tm 50) kf) 8,
 oM 52 51 8,
 o3 53 (.fieldAddr 23 (tm 2)) 52 8,
 o3 54 (.load false 1 (tm 53)) 52 8,
 o3 55 (.fieldAddr 23 (tm 3)) 52 8,
 o3 56 (.load false 1 (tm 55)) 52 8,
 o3 57 (.eqB false (tm 54) (tm 56)) 52 8,
 o1 58 (.pick (tm 52) (tm 57) kf) 8,
 oM 4 58 8] []) (.ret)),[.tmp 4],true⟩
def s11 : Sig := ⟨(.cons (.v (.pair (.int .i64) (.pair (.int .i64) (.pair .request (.pair (.list (.int .u8)) (.pair (.int .i64) (.pair .bool (.pair (.int .i64) .bool)))))))) (.cons (.v (.pair (.int .i64) (.pair (.int .i64) (.pair .request (.pair (.list (.int .u8)) (.pair (.int .i64) (.pair .bool (.pair (.int .i64) .bool)))))))) .nil)),[],((.v .bool),[]),[]⟩
def F11 (L : Lp) (g30 : Request → Request → Option Bool) (g31 : (List Int) → (List Int) → Option Bool) (a0 : (Int × (Int × (Request × ((List Int) × (Int × (Bool × (Int × Bool)))))))) (b1 : (Int × (Int × (Request × ((List Int) × (Int × (Bool × (Int × Bool)))))))) : Option Bool :=
 cond (decide (a0.1 = b1.1))
 (cond (decide (a0.2.1 = b1.2.1))
 (Option.bind (g30 a0.2.2.1 b1.2.2.1) fun r2 =>
 cond r2
 (Option.bind (g31 a0.2.2.2.1 b1.2.2.2.1) fun r3 =>
 cond r3
 (cond (decide (a0.2.2.2.2.1 = b1.2.2.2.2.1))
 (cond (a0.2.2.2.2.2.1 == b1.2.2.2.2.2.1)
 (cond (decide (a0.2.2.2.2.2.2.1 = b1.2.2.2.2.2.2.1))
 (some (a0.2.2.2.2.2.2.2 == b1.2.2.2.2.2.2.2))
 (some false))
 (some false))
 (some false))
 (some false))
 (some false))
 (some false))
 (some false)
theorem e11 (L : Lp) (g30 : Request → Request → Option Bool) (g31 : (List Int) → (List Int) → Option Bool) (x : s11.args.den) (h : denH s11.heap) : nrun [⟨30,s30,fun x h => g30 x.1 x.2.1⟩,⟨31,s31,fun x h => g31 x.1 x.2.1⟩] L n11 s11 x h = F11 L g30 g31 x.1 x.2.1 := by kernel_rfl
def f11 : (Int × (Int × (Request × ((List Int) × (Int × (Bool × (Int × Bool))))))) → (Int × (Int × (Request × ((List Int) × (Int × (Bool × (Int × Bool))))))) → Option Bool := F11 (@LN LOOPS) f30 f31
@[reducible] def t11 : Ent := ⟨11,s11,fun x h => f11 x.1 x.2.1⟩
theorem k11 : chkNF Tryz.prog Tryz.f11 n11 = true := by kernel_rfl
theorem ok11 : NOk Tryz.prog t11 := NOk.body (T := [t30,t31]) mixed (nall_cons ok30 (nall_cons ok31 nall_nil)) (oneEach_of (by kernel_rfl)) Tryz.func11 k11 (by kernel_rfl) (fun x h => e11 _ _ _ x h)
def n7 : NFunc := ⟨20,.seq (.region 0 [
 o1 0 (.move kf) 0] []) (.seq (.region 5 [
 o1 5 (.call (fc 13) [(false,(.const (.str [115,101,110,100,32,49,32,115,117,98,109,105,116,32,53,32,48,32,50,32,99,112,117,61,52,32,48,58,49,48,58,48,48,32,49,32,51,33])))] false 4) 0,
 oM 4 5 4,
 oX 6 4 0 4,
 oX 7 4 1 4,
 o1 1 (.alloc [iz,iz,iz,iz,iz,iz,iz,iz,iz,iz,iz,iz,iz,iz,.zsl,iz,iz,iz,iz,.zsl,iz,.bool false,iz,.bool false]) 4,
 oS 24 1 6 5,
 oM 2 7 5] []) (.seq (.region 2 [
 o1 8 (.build [iz,iz,iz,iz] [(0,1,(ki 4))]) 0,
 o1 9 (.build [iz,.bool false] [(0,1,(ki 3)),(1,1,kt)]) 0,
 o1 10 (.buildSlice 2 1 true [iz,.bool false] [(0,(tm 9))]) 0,
 o1 11 (.build [iz,iz,iz,iz,iz,iz,iz,iz,iz,iz,iz,iz,.zsl,iz,iz,iz,iz] [(0,1,(ki 1)),(1,1,(ki 5)),(5,1,(ki 2)),(6,4,(tm 8)),(10,1,(ki 600)),(11,1,(ki 1)),(12,1,(tm 10))]) 1,
 o1 3 (.alloc [iz,iz,iz,iz,iz,iz,iz,iz,iz,iz,iz,iz,.zsl,iz,iz,iz,iz]) 1,
 oS 17 3 11 2] []) (.seq (.region 4 [
 oM 12 2 0,
 oC 13 .eql 12 0 0,
 oM 14 13 0,
 o3 15 (.load true 24 (tm 1)) 14 0,
 o3 16 (.load true 17 (tm 3)) 14 0,
 o3 17 (.build [iz,iz,iz,iz,iz,iz,iz,iz,iz,iz,iz,iz,iz,iz,.zsl,iz,iz,iz,iz,.zsl,iz,.bool false,iz,.bool false] [(0,1,(ki 1)),(1,1,(ki 1)),(2,17,(tm 16))]) 14 0,
 o3 18 (.call (fc 11) [(vv 15),(vv 17)] false 4) 14 0,
 o1 19 (.pick (tm 14) (tm 18) kf) 4,
 oM 0 19 4] []) (.ret)))),[.tmp 0],true⟩
def s7 : Sig := ⟨.nil,[],((.v .bool),[]),[]⟩
def F7 (L : Lp) (g13 : (List UInt8) → Option ((Int × (Int × (Request × ((List Int) × (Int × (Bool × (Int × Bool))))))) × (Int × Unit))) (g11 : (Int × (Int × (Request × ((List Int) × (Int × (Bool × (Int × Bool))))))) → (Int × (Int × (Request × ((List Int) × (Int × (Bool × (Int × Bool))))))) → Option Bool)  : Option Bool :=
 Option.bind (g13 ([115,101,110,100,32,49,32,115,117,98,109,105,116,32,53,32,48,32,50,32,99,112,117,61,52,32,48,58,49,48,58,48,48,32,49,32,51,33] : List UInt8)) fun r0 =>
 cond (decide (r0.2.1 = 0))
 (Option.bind (g11 r0.1 (1,(1,(Request.mk 1 5 0 0 0 2 (Res.mk 4 0 0 0) 600 1 [Dep.mk 3 true] 0 0 0 0,([],(0,(false,(0,false)))))))) fun r1 =>
 some r1)
 (some false)
theorem e7 (L : Lp) (g13 : (List UInt8) → Option ((Int × (Int × (Request × ((List Int) × (Int × (Bool × (Int × Bool))))))) × (Int × Unit))) (g11 : (Int × (Int × (Request × ((List Int) × (Int × (Bool × (Int × Bool))))))) → (Int × (Int × (Request × ((List Int) × (Int × (Bool × (Int × Bool))))))) → Option Bool) (x : s7.args.den) (h : denH s7.heap) : nrun [⟨13,s13,fun x h => g13 x.1⟩,⟨11,s11,fun x h => g11 x.1 x.2.1⟩] L n7 s7 x h = F7 L g13 g11  := by kernel_rfl
def f7 : Option Bool := F7 (@LN LOOPS) f13 f11
@[reducible] def t7 : Ent := ⟨7,s7,fun x h => f7 ⟩
def n32 : NFunc := ⟨55,.seq (.region 2 [
 o1 1 (.box 24 (tm 0)) 0,
 o1 2 (.alloc [iz,iz,iz,iz,iz,iz,iz,iz,iz,iz,iz,iz,iz,iz,.zsl,iz,iz,iz,iz,.zsl,iz,.bool false,iz,.bool false]) 1] []) (.seq (.region 1 [
 oF 4 0 1 0,
 oL 5 4 0,
 o1 6 (.build [iz,iz,iz,iz,iz,iz,iz,iz,iz,iz,iz,iz,iz,iz,.zsl,iz,iz,iz,iz,.zsl,iz,.bool false,iz,.bool false] [(0,1,(tm 5))]) 0,
 o1 3 (.alloc [iz,iz,iz,iz,iz,iz,iz,iz,iz,iz,iz,iz,iz,iz,.zsl,iz,iz,iz,iz,.zsl,iz,.bool false,iz,.bool false]) 0,
 oS 24 3 6 1] []) (.seq (.meet [2,3] [] ⟨[(2,(.ptr 0 0 0)),(3,(.ptr 1 0 0))],[],[.cell false (.cons vI (.cons vI (.cons vI (.cons vI (.cons vI (.cons vI (.cons vI (.cons vI (.cons vI (.cons vI (.cons vI (.cons vI (.cons vI (.cons vI (.cons .zsl (.cons vI (.cons vI (.cons vI (.cons vI (.cons .zsl (.cons vI (.cons (.v .bool) (.cons vI (.cons (.v .bool) .nil)))))))))))))))))))))))),.cell false (.cons vI (.cons vI (.cons vI (.cons vI (.cons vI (.cons vI (.cons vI (.cons vI (.cons vI (.cons vI (.cons vI (.cons vI (.cons vI (.cons vI (.cons (.v (.list .dep)) (.cons vI (.cons vI (.cons vI (.cons vI (.cons (.v (.list (.int .u8))) (.cons vI (.cons (.v .bool) (.cons vI (.cons (.v .bool) .nil))))))))))))))))))))))))]⟩ (.seq (.region 0 [
 oF 7 0 1 0,
 oL 8 7 0] []) (.block 0 (.seq (.region 0 [
 oC 10 .eql 8 1 0,
 oM 9 10 0] []) (.cond (tm 9) (.seq (.region 0 [
 oF 11 1 1 0,
 oL 12 11 0,
 oF 13 1 3 0,
 oS 1 13 12 0] []) (.region 0 [
 oF 14 2 1 0,
 oT 15 17 14 0,
 oF 16 2 3 0,
 oS 17 16 15 0] [])) (.seq (.region 0 [
 oC 18 .eql 8 2 0,
 oM 17 18 0] []) (.cond (tm 17) (.seq (.region 0 [
 oF 19 1 1 0,
 oL 20 19 0,
 oF 21 1 3 0,
 oS 1 21 20 0] []) (.region 0 [
 oF 22 19 1 0,
 oL 23 22 0,
 oF 24 19 3 0,
 oS 1 24 23 0] [])) (.seq (.meet [2,3,1,8,25] [] ⟨[(1,(.ptr 0 0 0)),(2,(.ptr 1 0 0)),(3,(.ptr 2 0 0)),(25,(.v .bool))],[8],[.one false (.pair (.int .i64) (.pair (.int .i64) (.pair .request (.pair (.list (.int .u8)) (.pair (.int .i64) (.pair .bool (.pair (.int .i64) .bool))))))),.cell false (.cons vI (.cons vI (.cons vI (.cons vI (.cons vI (.cons vI (.cons vI (.cons vI (.cons vI (.cons vI (.cons vI (.cons vI (.cons vI (.cons vI (.cons .zsl (.cons vI (.cons vI (.cons vI (.cons vI (.cons .zsl (.cons vI (.cons (.v .bool) (.cons vI (.cons (.v .bool) .nil)))))))))))))))))))))))),.cell false (.cons vI (.cons vI (.cons vI (.cons vI (.cons vI (.cons vI (.cons vI (.cons vI (.cons vI (.cons vI (.cons vI (.cons vI (.cons vI (.cons vI (.cons .zsl (.cons vI (.cons vI (.cons vI (.cons vI (.cons .zsl (.cons vI (.cons (.v .bool) (.cons vI (.cons (.v .bool) .nil))))))))))))))))))))))))]⟩ (.seq (.region 0 [
 oC 26 .eql 8 3 0,
 oM 25 26 0] []) (.cond (tm 25) (.skip) (.region 0 [
 oC 27 .eql 8 9 0,
 oM 25 27 0] [])))) (.cond (tm 25) (.seq (.region 0 [
 oF 28 1 1 0,
 oL 29 28 0,
 oF 30 1 3 0,
 oS 1 30 29 0] []) (.seq (.region 0 [
 oF 31 20 1 0,
 oL 32 31 0,
 oF 33 20 3 0,
 oS 1 33 32 0] []) (.region 0 [
 oF 34 21 1 0,
 oL 35 34 0,
 oF 36 21 3 0,
 oS 1 36 35 0] []))) (.seq (.meet [2,3,1,8,37] [] ⟨[(1,(.ptr 0 0 0)),(2,(.ptr 1 0 0)),(3,(.ptr 2 0 0)),(37,(.v .bool))],[8],[.one false (.pair (.int .i64) (.pair (.int .i64) (.pair .request (.pair (.list (.int .u8)) (.pair (.int .i64) (.pair .bool (.pair (.int .i64) .bool))))))),.cell false (.cons vI (.cons vI (.cons vI (.cons vI (.cons vI (.cons vI (.cons vI (.cons vI (.cons vI (.cons vI (.cons vI (.cons vI (.cons vI (.cons vI (.cons .zsl (.cons vI (.cons vI (.cons vI (.cons vI (.cons .zsl (.cons vI (.cons (.v .bool) (.cons vI (.cons (.v .bool) .nil)))))))))))))))))))))))),.cell false (.cons vI (.cons vI (.cons vI (.cons vI (.cons vI (.cons vI (.cons vI (.cons vI (.cons vI (.cons vI (.cons vI (.cons vI (.cons vI (.cons vI (.cons .zsl (.cons vI (.cons vI (.cons vI (.cons vI (.cons .zsl (.cons vI (.cons (.v .bool) (.cons vI (.cons (.v .bool) .nil))))))))))))))))))))))))]⟩ (.seq (.region 0 [
 oC 38 .eql 8 4 0,
 oM 37 38 0] []) (.cond (tm 37) (.skip) (.region 0 [
 oC 39 .eql 8 10 0,
 oM 37 39 0] [])))) (.cond (tm 37) (.seq (.region 0 [
 oF 40 1 1 0,
 oL 41 40 0,
 oF 42 1 3 0,
 oS 1 42 41 0] []) (.region 0 [
 oF 43 20 1 0,
 oL 44 43 0,
 oF 45 20 3 0,
 oS 1 45 44 0] [])) (.seq (.region 0 [
 oC 47 .eql 8 8 0,
 oM 46 47 0] []) (.cond (tm 46) (.seq (.region 0 [
 oF 48 22 1 0,
 oL 49 48 0,
 oF 50 22 3 0,
 oS 1 50 49 0] []) (.region 0 [
 oF 51 23 1 0,
 oL 52 51 0,
 oF 53 23 3 0,
 oS 1 53 52 0] [])) (.skip)))))))))))))) (.seq (.region 0 [
 oT 54 24 3 0,
 oS 24 2 54 0] []) (.ret)))),[.cell true 24 2],true⟩
def s32 : Sig := ⟨(.cons (.v (.pair (.int .i64) (.pair (.int .i64) (.pair .request (.pair (.list (.int .u8)) (.pair (.int .i64) (.pair .bool (.pair (.int .i64) .bool)))))))) .nil),[],((.v (.pair (.int .i64) (.pair (.int .i64) (.pair .request (.pair (.list (.int .u8)) (.pair (.int .i64) (.pair .bool (.pair (.int .i64) .bool)))))))),[]),[]⟩
def F32 (L : Lp)  (ae0 : (Int × (Int × (Request × ((List Int) × (Int × (Bool × (Int × Bool)))))))) : Option (Int × (Int × (Request × ((List Int) × (Int × (Bool × (Int × Bool))))))) :=
 Option.bind (α := ((Unit × (Unit × Unit)) × ((Int × (Int × (Int × (Int × (Int × (Int × (Int × (Int × (Int × (Int × (Int × (Int × (Int × (Int × (Unit × (Int × (Int × (Int × (Int × (Unit × (Int × (Bool × (Int × (Bool × Unit)))))))))))))))))))))))) × ((Int × (Int × (Int × (Int × (Int × (Int × (Int × (Int × (Int × (Int × (Int × (Int × (Int × (Int × ((List Dep) × (Int × (Int × (Int × (Int × ((List Int) × (Int × (Bool × (Int × (Bool × Unit)))))))))))))))))))))))) × Unit))))
 (cond (decide (ae0.1 = 1))
 (some (((),(),()),((0,0,0,0,0,0,0,0,0,0,0,0,0,0,(),0,0,0,0,(),0,false,0,false,()),(ae0.1,ae0.2.1,ae0.2.2.1.kind,ae0.2.2.1.key,ae0.2.2.1.job,ae0.2.2.1.version,ae0.2.2.1.queue,ae0.2.2.1.many,ae0.2.2.1.need.cpu,ae0.2.2.1.need.mem,ae0.2.2.1.need.gpu,ae0.2.2.1.need.lic,ae0.2.2.1.wall,ae0.2.2.1.tasks,ae0.2.2.1.after,ae0.2.2.1.node,ae0.2.2.1.fro,ae0.2.2.1.to,ae0.2.2.1.id,[],0,false,0,false,()),())))
 (cond (decide (ae0.1 = 2))
 (some (((),(),()),((0,0,0,0,0,0,0,0,0,0,0,0,0,0,(),0,0,0,0,(),0,false,0,false,()),(ae0.1,ae0.2.1,0,0,0,0,0,0,0,0,0,0,0,0,[],0,0,0,0,ae0.2.2.2.1,0,false,0,false,()),())))
 (Option.bind (α := ((Unit × (Unit × (Unit × (Bool × Unit)))) × ((Int × (Int × (Request × ((List Int) × (Int × (Bool × (Int × Bool))))))) × ((Int × (Int × (Int × (Int × (Int × (Int × (Int × (Int × (Int × (Int × (Int × (Int × (Int × (Int × (Unit × (Int × (Int × (Int × (Int × (Unit × (Int × (Bool × (Int × (Bool × Unit)))))))))))))))))))))))) × ((Int × (Int × (Int × (Int × (Int × (Int × (Int × (Int × (Int × (Int × (Int × (Int × (Int × (Int × (Unit × (Int × (Int × (Int × (Int × (Unit × (Int × (Bool × (Int × (Bool × Unit)))))))))))))))))))))))) × Unit)))))
 (cond (decide (ae0.1 = 3))
 (some (((),(),(),true,()),(ae0,(0,0,0,0,0,0,0,0,0,0,0,0,0,0,(),0,0,0,0,(),0,false,0,false,()),(ae0.1,0,0,0,0,0,0,0,0,0,0,0,0,0,(),0,0,0,0,(),0,false,0,false,()),())))
 (some (((),(),(),decide (ae0.1 = 9),()),(ae0,(0,0,0,0,0,0,0,0,0,0,0,0,0,0,(),0,0,0,0,(),0,false,0,false,()),(ae0.1,0,0,0,0,0,0,0,0,0,0,0,0,0,(),0,0,0,0,(),0,false,0,false,()),())))) fun x1 =>
 cond x1.1.2.2.2.1
 (some (((),(),()),((x1.2.2.1.1,x1.2.2.1.2.1,x1.2.2.1.2.2.1,x1.2.2.1.2.2.2.1,x1.2.2.1.2.2.2.2.1,x1.2.2.1.2.2.2.2.2.1,x1.2.2.1.2.2.2.2.2.2.1,x1.2.2.1.2.2.2.2.2.2.2.1,x1.2.2.1.2.2.2.2.2.2.2.2.1,x1.2.2.1.2.2.2.2.2.2.2.2.2.1,x1.2.2.1.2.2.2.2.2.2.2.2.2.2.1,x1.2.2.1.2.2.2.2.2.2.2.2.2.2.2.1,x1.2.2.1.2.2.2.2.2.2.2.2.2.2.2.2.1,x1.2.2.1.2.2.2.2.2.2.2.2.2.2.2.2.2.1,(),x1.2.2.1.2.2.2.2.2.2.2.2.2.2.2.2.2.2.2.1,x1.2.2.1.2.2.2.2.2.2.2.2.2.2.2.2.2.2.2.2.1,x1.2.2.1.2.2.2.2.2.2.2.2.2.2.2.2.2.2.2.2.2.1,x1.2.2.1.2.2.2.2.2.2.2.2.2.2.2.2.2.2.2.2.2.2.1,(),x1.2.2.1.2.2.2.2.2.2.2.2.2.2.2.2.2.2.2.2.2.2.2.2.1,x1.2.2.1.2.2.2.2.2.2.2.2.2.2.2.2.2.2.2.2.2.2.2.2.2.1,x1.2.2.1.2.2.2.2.2.2.2.2.2.2.2.2.2.2.2.2.2.2.2.2.2.2.1,x1.2.2.1.2.2.2.2.2.2.2.2.2.2.2.2.2.2.2.2.2.2.2.2.2.2.2.1,()),(x1.2.2.2.1.1,x1.2.1.2.1,x1.2.2.2.1.2.2.1,x1.2.2.2.1.2.2.2.1,x1.2.2.2.1.2.2.2.2.1,x1.2.2.2.1.2.2.2.2.2.1,x1.2.2.2.1.2.2.2.2.2.2.1,x1.2.2.2.1.2.2.2.2.2.2.2.1,x1.2.2.2.1.2.2.2.2.2.2.2.2.1,x1.2.2.2.1.2.2.2.2.2.2.2.2.2.1,x1.2.2.2.1.2.2.2.2.2.2.2.2.2.2.1,x1.2.2.2.1.2.2.2.2.2.2.2.2.2.2.2.1,x1.2.2.2.1.2.2.2.2.2.2.2.2.2.2.2.2.1,x1.2.2.2.1.2.2.2.2.2.2.2.2.2.2.2.2.2.1,[],x1.2.2.2.1.2.2.2.2.2.2.2.2.2.2.2.2.2.2.2.1,x1.2.2.2.1.2.2.2.2.2.2.2.2.2.2.2.2.2.2.2.2.1,x1.2.2.2.1.2.2.2.2.2.2.2.2.2.2.2.2.2.2.2.2.2.1,x1.2.2.2.1.2.2.2.2.2.2.2.2.2.2.2.2.2.2.2.2.2.2.1,[],x1.2.1.2.2.2.2.1,x1.2.1.2.2.2.2.2.1,x1.2.2.2.1.2.2.2.2.2.2.2.2.2.2.2.2.2.2.2.2.2.2.2.2.2.2.1,x1.2.2.2.1.2.2.2.2.2.2.2.2.2.2.2.2.2.2.2.2.2.2.2.2.2.2.2.1,()),())))
 (Option.bind (α := ((Unit × (Unit × (Unit × (Bool × Unit)))) × ((Int × (Int × (Request × ((List Int) × (Int × (Bool × (Int × Bool))))))) × ((Int × (Int × (Int × (Int × (Int × (Int × (Int × (Int × (Int × (Int × (Int × (Int × (Int × (Int × (Unit × (Int × (Int × (Int × (Int × (Unit × (Int × (Bool × (Int × (Bool × Unit)))))))))))))))))))))))) × ((Int × (Int × (Int × (Int × (Int × (Int × (Int × (Int × (Int × (Int × (Int × (Int × (Int × (Int × (Unit × (Int × (Int × (Int × (Int × (Unit × (Int × (Bool × (Int × (Bool × Unit)))))))))))))))))))))))) × Unit)))))
 (cond (decide (ae0.1 = 4))
 (some (((),(),(),true,()),(x1.2.1,(x1.2.2.1.1,x1.2.2.1.2.1,x1.2.2.1.2.2.1,x1.2.2.1.2.2.2.1,x1.2.2.1.2.2.2.2.1,x1.2.2.1.2.2.2.2.2.1,x1.2.2.1.2.2.2.2.2.2.1,x1.2.2.1.2.2.2.2.2.2.2.1,x1.2.2.1.2.2.2.2.2.2.2.2.1,x1.2.2.1.2.2.2.2.2.2.2.2.2.1,x1.2.2.1.2.2.2.2.2.2.2.2.2.2.1,x1.2.2.1.2.2.2.2.2.2.2.2.2.2.2.1,x1.2.2.1.2.2.2.2.2.2.2.2.2.2.2.2.1,x1.2.2.1.2.2.2.2.2.2.2.2.2.2.2.2.2.1,(),x1.2.2.1.2.2.2.2.2.2.2.2.2.2.2.2.2.2.2.1,x1.2.2.1.2.2.2.2.2.2.2.2.2.2.2.2.2.2.2.2.1,x1.2.2.1.2.2.2.2.2.2.2.2.2.2.2.2.2.2.2.2.2.1,x1.2.2.1.2.2.2.2.2.2.2.2.2.2.2.2.2.2.2.2.2.2.1,(),x1.2.2.1.2.2.2.2.2.2.2.2.2.2.2.2.2.2.2.2.2.2.2.2.1,x1.2.2.1.2.2.2.2.2.2.2.2.2.2.2.2.2.2.2.2.2.2.2.2.2.1,x1.2.2.1.2.2.2.2.2.2.2.2.2.2.2.2.2.2.2.2.2.2.2.2.2.2.1,x1.2.2.1.2.2.2.2.2.2.2.2.2.2.2.2.2.2.2.2.2.2.2.2.2.2.2.1,()),(x1.2.2.2.1.1,x1.2.2.2.1.2.1,x1.2.2.2.1.2.2.1,x1.2.2.2.1.2.2.2.1,x1.2.2.2.1.2.2.2.2.1,x1.2.2.2.1.2.2.2.2.2.1,x1.2.2.2.1.2.2.2.2.2.2.1,x1.2.2.2.1.2.2.2.2.2.2.2.1,x1.2.2.2.1.2.2.2.2.2.2.2.2.1,x1.2.2.2.1.2.2.2.2.2.2.2.2.2.1,x1.2.2.2.1.2.2.2.2.2.2.2.2.2.2.1,x1.2.2.2.1.2.2.2.2.2.2.2.2.2.2.2.1,x1.2.2.2.1.2.2.2.2.2.2.2.2.2.2.2.2.1,x1.2.2.2.1.2.2.2.2.2.2.2.2.2.2.2.2.2.1,(),x1.2.2.2.1.2.2.2.2.2.2.2.2.2.2.2.2.2.2.2.1,x1.2.2.2.1.2.2.2.2.2.2.2.2.2.2.2.2.2.2.2.2.1,x1.2.2.2.1.2.2.2.2.2.2.2.2.2.2.2.2.2.2.2.2.2.1,x1.2.2.2.1.2.2.2.2.2.2.2.2.2.2.2.2.2.2.2.2.2.2.1,(),x1.2.2.2.1.2.2.2.2.2.2.2.2.2.2.2.2.2.2.2.2.2.2.2.2.1,x1.2.2.2.1.2.2.2.2.2.2.2.2.2.2.2.2.2.2.2.2.2.2.2.2.2.1,x1.2.2.2.1.2.2.2.2.2.2.2.2.2.2.2.2.2.2.2.2.2.2.2.2.2.2.1,x1.2.2.2.1.2.2.2.2.2.2.2.2.2.2.2.2.2.2.2.2.2.2.2.2.2.2.2.1,()),())))
 (some (((),(),(),decide (ae0.1 = 10),()),(x1.2.1,(x1.2.2.1.1,x1.2.2.1.2.1,x1.2.2.1.2.2.1,x1.2.2.1.2.2.2.1,x1.2.2.1.2.2.2.2.1,x1.2.2.1.2.2.2.2.2.1,x1.2.2.1.2.2.2.2.2.2.1,x1.2.2.1.2.2.2.2.2.2.2.1,x1.2.2.1.2.2.2.2.2.2.2.2.1,x1.2.2.1.2.2.2.2.2.2.2.2.2.1,x1.2.2.1.2.2.2.2.2.2.2.2.2.2.1,x1.2.2.1.2.2.2.2.2.2.2.2.2.2.2.1,x1.2.2.1.2.2.2.2.2.2.2.2.2.2.2.2.1,x1.2.2.1.2.2.2.2.2.2.2.2.2.2.2.2.2.1,(),x1.2.2.1.2.2.2.2.2.2.2.2.2.2.2.2.2.2.2.1,x1.2.2.1.2.2.2.2.2.2.2.2.2.2.2.2.2.2.2.2.1,x1.2.2.1.2.2.2.2.2.2.2.2.2.2.2.2.2.2.2.2.2.1,x1.2.2.1.2.2.2.2.2.2.2.2.2.2.2.2.2.2.2.2.2.2.1,(),x1.2.2.1.2.2.2.2.2.2.2.2.2.2.2.2.2.2.2.2.2.2.2.2.1,x1.2.2.1.2.2.2.2.2.2.2.2.2.2.2.2.2.2.2.2.2.2.2.2.2.1,x1.2.2.1.2.2.2.2.2.2.2.2.2.2.2.2.2.2.2.2.2.2.2.2.2.2.1,x1.2.2.1.2.2.2.2.2.2.2.2.2.2.2.2.2.2.2.2.2.2.2.2.2.2.2.1,()),(x1.2.2.2.1.1,x1.2.2.2.1.2.1,x1.2.2.2.1.2.2.1,x1.2.2.2.1.2.2.2.1,x1.2.2.2.1.2.2.2.2.1,x1.2.2.2.1.2.2.2.2.2.1,x1.2.2.2.1.2.2.2.2.2.2.1,x1.2.2.2.1.2.2.2.2.2.2.2.1,x1.2.2.2.1.2.2.2.2.2.2.2.2.1,x1.2.2.2.1.2.2.2.2.2.2.2.2.2.1,x1.2.2.2.1.2.2.2.2.2.2.2.2.2.2.1,x1.2.2.2.1.2.2.2.2.2.2.2.2.2.2.2.1,x1.2.2.2.1.2.2.2.2.2.2.2.2.2.2.2.2.1,x1.2.2.2.1.2.2.2.2.2.2.2.2.2.2.2.2.2.1,(),x1.2.2.2.1.2.2.2.2.2.2.2.2.2.2.2.2.2.2.2.1,x1.2.2.2.1.2.2.2.2.2.2.2.2.2.2.2.2.2.2.2.2.1,x1.2.2.2.1.2.2.2.2.2.2.2.2.2.2.2.2.2.2.2.2.2.1,x1.2.2.2.1.2.2.2.2.2.2.2.2.2.2.2.2.2.2.2.2.2.2.1,(),x1.2.2.2.1.2.2.2.2.2.2.2.2.2.2.2.2.2.2.2.2.2.2.2.2.1,x1.2.2.2.1.2.2.2.2.2.2.2.2.2.2.2.2.2.2.2.2.2.2.2.2.2.1,x1.2.2.2.1.2.2.2.2.2.2.2.2.2.2.2.2.2.2.2.2.2.2.2.2.2.2.1,x1.2.2.2.1.2.2.2.2.2.2.2.2.2.2.2.2.2.2.2.2.2.2.2.2.2.2.2.1,()),())))) fun x2 =>
 cond x2.1.2.2.2.1
 (some (((),(),()),((x2.2.2.1.1,x2.2.2.1.2.1,x2.2.2.1.2.2.1,x2.2.2.1.2.2.2.1,x2.2.2.1.2.2.2.2.1,x2.2.2.1.2.2.2.2.2.1,x2.2.2.1.2.2.2.2.2.2.1,x2.2.2.1.2.2.2.2.2.2.2.1,x2.2.2.1.2.2.2.2.2.2.2.2.1,x2.2.2.1.2.2.2.2.2.2.2.2.2.1,x2.2.2.1.2.2.2.2.2.2.2.2.2.2.1,x2.2.2.1.2.2.2.2.2.2.2.2.2.2.2.1,x2.2.2.1.2.2.2.2.2.2.2.2.2.2.2.2.1,x2.2.2.1.2.2.2.2.2.2.2.2.2.2.2.2.2.1,(),x2.2.2.1.2.2.2.2.2.2.2.2.2.2.2.2.2.2.2.1,x2.2.2.1.2.2.2.2.2.2.2.2.2.2.2.2.2.2.2.2.1,x2.2.2.1.2.2.2.2.2.2.2.2.2.2.2.2.2.2.2.2.2.1,x2.2.2.1.2.2.2.2.2.2.2.2.2.2.2.2.2.2.2.2.2.2.1,(),x2.2.2.1.2.2.2.2.2.2.2.2.2.2.2.2.2.2.2.2.2.2.2.2.1,x2.2.2.1.2.2.2.2.2.2.2.2.2.2.2.2.2.2.2.2.2.2.2.2.2.1,x2.2.2.1.2.2.2.2.2.2.2.2.2.2.2.2.2.2.2.2.2.2.2.2.2.2.1,x2.2.2.1.2.2.2.2.2.2.2.2.2.2.2.2.2.2.2.2.2.2.2.2.2.2.2.1,()),(x2.2.2.2.1.1,x2.2.1.2.1,x2.2.2.2.1.2.2.1,x2.2.2.2.1.2.2.2.1,x2.2.2.2.1.2.2.2.2.1,x2.2.2.2.1.2.2.2.2.2.1,x2.2.2.2.1.2.2.2.2.2.2.1,x2.2.2.2.1.2.2.2.2.2.2.2.1,x2.2.2.2.1.2.2.2.2.2.2.2.2.1,x2.2.2.2.1.2.2.2.2.2.2.2.2.2.1,x2.2.2.2.1.2.2.2.2.2.2.2.2.2.2.1,x2.2.2.2.1.2.2.2.2.2.2.2.2.2.2.2.1,x2.2.2.2.1.2.2.2.2.2.2.2.2.2.2.2.2.1,x2.2.2.2.1.2.2.2.2.2.2.2.2.2.2.2.2.2.1,[],x2.2.2.2.1.2.2.2.2.2.2.2.2.2.2.2.2.2.2.2.1,x2.2.2.2.1.2.2.2.2.2.2.2.2.2.2.2.2.2.2.2.2.1,x2.2.2.2.1.2.2.2.2.2.2.2.2.2.2.2.2.2.2.2.2.2.1,x2.2.2.2.1.2.2.2.2.2.2.2.2.2.2.2.2.2.2.2.2.2.2.1,[],x2.2.1.2.2.2.2.1,x2.2.2.2.1.2.2.2.2.2.2.2.2.2.2.2.2.2.2.2.2.2.2.2.2.2.1,x2.2.2.2.1.2.2.2.2.2.2.2.2.2.2.2.2.2.2.2.2.2.2.2.2.2.2.1,x2.2.2.2.1.2.2.2.2.2.2.2.2.2.2.2.2.2.2.2.2.2.2.2.2.2.2.2.1,()),())))
 (cond (decide (ae0.1 = 8))
 (some (((),(),()),((x2.2.2.1.1,x2.2.2.1.2.1,x2.2.2.1.2.2.1,x2.2.2.1.2.2.2.1,x2.2.2.1.2.2.2.2.1,x2.2.2.1.2.2.2.2.2.1,x2.2.2.1.2.2.2.2.2.2.1,x2.2.2.1.2.2.2.2.2.2.2.1,x2.2.2.1.2.2.2.2.2.2.2.2.1,x2.2.2.1.2.2.2.2.2.2.2.2.2.1,x2.2.2.1.2.2.2.2.2.2.2.2.2.2.1,x2.2.2.1.2.2.2.2.2.2.2.2.2.2.2.1,x2.2.2.1.2.2.2.2.2.2.2.2.2.2.2.2.1,x2.2.2.1.2.2.2.2.2.2.2.2.2.2.2.2.2.1,(),x2.2.2.1.2.2.2.2.2.2.2.2.2.2.2.2.2.2.2.1,x2.2.2.1.2.2.2.2.2.2.2.2.2.2.2.2.2.2.2.2.1,x2.2.2.1.2.2.2.2.2.2.2.2.2.2.2.2.2.2.2.2.2.1,x2.2.2.1.2.2.2.2.2.2.2.2.2.2.2.2.2.2.2.2.2.2.1,(),x2.2.2.1.2.2.2.2.2.2.2.2.2.2.2.2.2.2.2.2.2.2.2.2.1,x2.2.2.1.2.2.2.2.2.2.2.2.2.2.2.2.2.2.2.2.2.2.2.2.2.1,x2.2.2.1.2.2.2.2.2.2.2.2.2.2.2.2.2.2.2.2.2.2.2.2.2.2.1,x2.2.2.1.2.2.2.2.2.2.2.2.2.2.2.2.2.2.2.2.2.2.2.2.2.2.2.1,()),(x2.2.2.2.1.1,x2.2.2.2.1.2.1,x2.2.2.2.1.2.2.1,x2.2.2.2.1.2.2.2.1,x2.2.2.2.1.2.2.2.2.1,x2.2.2.2.1.2.2.2.2.2.1,x2.2.2.2.1.2.2.2.2.2.2.1,x2.2.2.2.1.2.2.2.2.2.2.2.1,x2.2.2.2.1.2.2.2.2.2.2.2.2.1,x2.2.2.2.1.2.2.2.2.2.2.2.2.2.1,x2.2.2.2.1.2.2.2.2.2.2.2.2.2.2.1,x2.2.2.2.1.2.2.2.2.2.2.2.2.2.2.2.1,x2.2.2.2.1.2.2.2.2.2.2.2.2.2.2.2.2.1,x2.2.2.2.1.2.2.2.2.2.2.2.2.2.2.2.2.2.1,[],x2.2.2.2.1.2.2.2.2.2.2.2.2.2.2.2.2.2.2.2.1,x2.2.2.2.1.2.2.2.2.2.2.2.2.2.2.2.2.2.2.2.2.1,x2.2.2.2.1.2.2.2.2.2.2.2.2.2.2.2.2.2.2.2.2.2.1,x2.2.2.2.1.2.2.2.2.2.2.2.2.2.2.2.2.2.2.2.2.2.2.1,[],x2.2.2.2.1.2.2.2.2.2.2.2.2.2.2.2.2.2.2.2.2.2.2.2.2.1,x2.2.2.2.1.2.2.2.2.2.2.2.2.2.2.2.2.2.2.2.2.2.2.2.2.2.1,x2.2.1.2.2.2.2.2.2.1,x2.2.1.2.2.2.2.2.2.2,()),())))
 (some (((),(),()),((x2.2.2.1.1,x2.2.2.1.2.1,x2.2.2.1.2.2.1,x2.2.2.1.2.2.2.1,x2.2.2.1.2.2.2.2.1,x2.2.2.1.2.2.2.2.2.1,x2.2.2.1.2.2.2.2.2.2.1,x2.2.2.1.2.2.2.2.2.2.2.1,x2.2.2.1.2.2.2.2.2.2.2.2.1,x2.2.2.1.2.2.2.2.2.2.2.2.2.1,x2.2.2.1.2.2.2.2.2.2.2.2.2.2.1,x2.2.2.1.2.2.2.2.2.2.2.2.2.2.2.1,x2.2.2.1.2.2.2.2.2.2.2.2.2.2.2.2.1,x2.2.2.1.2.2.2.2.2.2.2.2.2.2.2.2.2.1,(),x2.2.2.1.2.2.2.2.2.2.2.2.2.2.2.2.2.2.2.1,x2.2.2.1.2.2.2.2.2.2.2.2.2.2.2.2.2.2.2.2.1,x2.2.2.1.2.2.2.2.2.2.2.2.2.2.2.2.2.2.2.2.2.1,x2.2.2.1.2.2.2.2.2.2.2.2.2.2.2.2.2.2.2.2.2.2.1,(),x2.2.2.1.2.2.2.2.2.2.2.2.2.2.2.2.2.2.2.2.2.2.2.2.1,x2.2.2.1.2.2.2.2.2.2.2.2.2.2.2.2.2.2.2.2.2.2.2.2.2.1,x2.2.2.1.2.2.2.2.2.2.2.2.2.2.2.2.2.2.2.2.2.2.2.2.2.2.1,x2.2.2.1.2.2.2.2.2.2.2.2.2.2.2.2.2.2.2.2.2.2.2.2.2.2.2.1,()),(x2.2.2.2.1.1,x2.2.2.2.1.2.1,x2.2.2.2.1.2.2.1,x2.2.2.2.1.2.2.2.1,x2.2.2.2.1.2.2.2.2.1,x2.2.2.2.1.2.2.2.2.2.1,x2.2.2.2.1.2.2.2.2.2.2.1,x2.2.2.2.1.2.2.2.2.2.2.2.1,x2.2.2.2.1.2.2.2.2.2.2.2.2.1,x2.2.2.2.1.2.2.2.2.2.2.2.2.2.1,x2.2.2.2.1.2.2.2.2.2.2.2.2.2.2.1,x2.2.2.2.1.2.2.2.2.2.2.2.2.2.2.2.1,x2.2.2.2.1.2.2.2.2.2.2.2.2.2.2.2.2.1,x2.2.2.2.1.2.2.2.2.2.2.2.2.2.2.2.2.2.1,[],x2.2.2.2.1.2.2.2.2.2.2.2.2.2.2.2.2.2.2.2.1,x2.2.2.2.1.2.2.2.2.2.2.2.2.2.2.2.2.2.2.2.2.1,x2.2.2.2.1.2.2.2.2.2.2.2.2.2.2.2.2.2.2.2.2.2.1,x2.2.2.2.1.2.2.2.2.2.2.2.2.2.2.2.2.2.2.2.2.2.2.1,[],x2.2.2.2.1.2.2.2.2.2.2.2.2.2.2.2.2.2.2.2.2.2.2.2.2.1,x2.2.2.2.1.2.2.2.2.2.2.2.2.2.2.2.2.2.2.2.2.2.2.2.2.2.1,x2.2.2.2.1.2.2.2.2.2.2.2.2.2.2.2.2.2.2.2.2.2.2.2.2.2.2.1,x2.2.2.2.1.2.2.2.2.2.2.2.2.2.2.2.2.2.2.2.2.2.2.2.2.2.2.2.1,()),())))))))) fun x3 =>
 some (x3.2.2.1.1,(x3.2.2.1.2.1,(Request.mk x3.2.2.1.2.2.1 x3.2.2.1.2.2.2.1 x3.2.2.1.2.2.2.2.1 x3.2.2.1.2.2.2.2.2.1 x3.2.2.1.2.2.2.2.2.2.1 x3.2.2.1.2.2.2.2.2.2.2.1 (Res.mk x3.2.2.1.2.2.2.2.2.2.2.2.1 x3.2.2.1.2.2.2.2.2.2.2.2.2.1 x3.2.2.1.2.2.2.2.2.2.2.2.2.2.1 x3.2.2.1.2.2.2.2.2.2.2.2.2.2.2.1) x3.2.2.1.2.2.2.2.2.2.2.2.2.2.2.2.1 x3.2.2.1.2.2.2.2.2.2.2.2.2.2.2.2.2.1 x3.2.2.1.2.2.2.2.2.2.2.2.2.2.2.2.2.2.1 x3.2.2.1.2.2.2.2.2.2.2.2.2.2.2.2.2.2.2.1 x3.2.2.1.2.2.2.2.2.2.2.2.2.2.2.2.2.2.2.2.1 x3.2.2.1.2.2.2.2.2.2.2.2.2.2.2.2.2.2.2.2.2.1 x3.2.2.1.2.2.2.2.2.2.2.2.2.2.2.2.2.2.2.2.2.2.1,(x3.2.2.1.2.2.2.2.2.2.2.2.2.2.2.2.2.2.2.2.2.2.2.1,(x3.2.2.1.2.2.2.2.2.2.2.2.2.2.2.2.2.2.2.2.2.2.2.2.1,(x3.2.2.1.2.2.2.2.2.2.2.2.2.2.2.2.2.2.2.2.2.2.2.2.2.1,(x3.2.2.1.2.2.2.2.2.2.2.2.2.2.2.2.2.2.2.2.2.2.2.2.2.2.1,x3.2.2.1.2.2.2.2.2.2.2.2.2.2.2.2.2.2.2.2.2.2.2.2.2.2.2.1)))))))
theorem e32 (L : Lp)  (x : s32.args.den) (h : denH s32.heap) : nrun [] L n32 s32 x h = F32 L  x.1 := by kernel_rfl
def f32 : (Int × (Int × (Request × ((List Int) × (Int × (Bool × (Int × Bool))))))) → Option (Int × (Int × (Request × ((List Int) × (Int × (Bool × (Int × Bool))))))) := F32 (@LN LOOPS) 
@[reducible] def t32 : Ent := ⟨32,s32,fun x h => f32 x.1⟩
theorem k32 : chkNF Tryz.prog Tryz.f32 n32 = true := by kernel_rfl
theorem ok32 : NOk Tryz.prog t32 := NOk.body (T := []) mixed nall_nil (oneEach_of (by kernel_rfl)) Tryz.func32 k32 (by kernel_rfl) (fun x h => e32 _  x h)
def n33 : NFunc := ⟨9,.seq (.region 0 [
 o1 2 (.move kf) 0] []) (.seq (.region 0 [
 oM 3 0 0,
 oC 4 .geq 3 0 0,
 oM 5 4 0,
 o3 6 (.move (tm 0)) 5 0,
 o3 7 (.bin .leq (tm 6) (ki 281474976710656)) 5 0,
 o1 8 (.pick (tm 5) (tm 7) kf) 0,
 oM 2 8 0] []) (.ret)),[.tmp 2],true⟩
def s33 : Sig := ⟨(.cons (.v (.int .i64)) .nil),[],((.v .bool),[]),[]⟩
def F33 (L : Lp)  (an0 : Int) : Option Bool :=
 cond (decide (0 ≤ an0))
 (some (decide (an0 ≤ 281474976710656)))
 (some false)
theorem e33 (L : Lp)  (x : s33.args.den) (h : denH s33.heap) : nrun [] L n33 s33 x h = F33 L  x.1 := by kernel_rfl
def f33 : Int → Option Bool := F33 (@LN LOOPS) 
@[reducible] def t33 : Ent := ⟨33,s33,fun x h => f33 x.1⟩
theorem k33 : chkNF Tryz.prog Tryz.f33 n33 = true := by kernel_rfl
theorem ok33 : NOk Tryz.prog t33 := NOk.body (T := []) mixed nall_nil (oneEach_of (by kernel_rfl)) Tryz.func33 k33 (by kernel_rfl) (fun x h => e33 _  x h)
def n68 : NFunc := ⟨31,.seq (.region 0 [
 o1 2 (.move (.const (.zsl))) 0] []) (.seq (.seq (.region 0 [
 oM 3 0 0] []) (.block 0 (.seq (.region 0 [
 oC 5 .eql 3 1 0,
 oM 4 5 0] []) (.cond (tm 4) (.seq (.region 1 [
 o1 6 (.buildSlice 1 8 true [iz] [(0,(ki 3)),(1,(ki 4)),(2,(ki 5)),(3,(ki 6)),(4,(ki 7)),(5,(ki 8)),(6,(ki 9)),(7,(ki 10))]) 0,
 oM 2 6 1] []) (.ret)) (.seq (.region 0 [
 oC 8 .eql 3 2 0,
 oM 7 8 0] []) (.cond (tm 7) (.seq (.region 1 [
 o1 9 (.buildSlice 1 8 true [iz] [(0,(ki 1)),(1,(ki 2)),(2,(ki 4)),(3,(ki 5)),(4,(ki 6)),(5,(ki 7)),(6,(ki 8)),(7,(ki 9))]) 0,
 oM 2 9 1] []) (.ret)) (.seq (.meet [3,10] [] ⟨[(10,(.v .bool))],[3],[]⟩ (.seq (.region 0 [
 oC 11 .eql 3 3 0,
 oM 10 11 0] []) (.cond (tm 10) (.skip) (.seq (.region 0 [
 oC 12 .eql 3 4 0,
 oM 10 12 0] []) (.cond (tm 10) (.skip) (.seq (.region 0 [
 oC 13 .eql 3 5 0,
 oM 10 13 0] []) (.cond (tm 10) (.skip) (.region 0 [
 oC 14 .eql 3 6 0,
 oM 10 14 0] [])))))))) (.cond (tm 10) (.seq (.region 1 [
 o1 15 (.buildSlice 1 2 true [iz] [(0,(ki 1)),(1,(ki 2))]) 0,
 oM 2 15 1] []) (.ret)) (.seq (.region 0 [
 oC 17 .eql 3 7 0,
 oM 16 17 0] []) (.cond (tm 16) (.seq (.region 1 [
 o1 18 (.buildSlice 1 3 true [iz] [(0,(ki 1)),(1,(ki 2)),(2,(ki 3))]) 0,
 oM 2 18 1] []) (.ret)) (.seq (.region 0 [
 oC 20 .eql 3 8 0,
 oM 19 20 0] []) (.cond (tm 19) (.seq (.region 1 [
 o1 21 (.buildSlice 1 1 true [iz] [(0,(ki 1))]) 0,
 oM 2 21 1] []) (.ret)) (.seq (.region 0 [
 oC 23 .eql 3 9 0,
 oM 22 23 0] []) (.cond (tm 22) (.seq (.region 1 [
 o1 24 (.buildSlice 1 1 true [iz] [(0,(ki 3))]) 0,
 oM 2 24 1] []) (.ret)) (.seq (.region 0 [
 oC 26 .eql 3 11 0,
 oM 25 26 0] []) (.cond (tm 25) (.seq (.region 1 [
 o1 27 (.buildSlice 1 3 true [iz] [(0,(ki 11)),(1,(ki 12)),(2,(ki 13))]) 0,
 oM 2 27 1] []) (.ret)) (.seq (.region 0 [
 oC 29 .eql 3 12 0,
 oM 28 29 0] []) (.cond (tm 28) (.seq (.region 1 [
 o1 30 (.buildSlice 1 1 true [iz] [(0,(ki 14))]) 0,
 oM 2 30 1] []) (.ret)) (.skip))))))))))))))))))) (.seq (.region 0 [
 o1 2 (.move (.const (.zsl))) 0] []) (.ret))),[.tmp 2],true⟩
def s68 : Sig := ⟨(.cons (.v (.int .i64)) .nil),[],((.v (.list (.int .i64))),[]),[]⟩
def F68 (L : Lp)  (kind0 : Int) : Option (List Int) :=
 cond (decide (kind0 = 1))
 (some [3,4,5,6,7,8,9,10])
 (cond (decide (kind0 = 2))
 (some [1,2,4,5,6,7,8,9])
 (Option.bind (α := ((Bool × Unit) × Unit))
 (cond (decide (kind0 = 3))
 (some ((true,()),()))
 (cond (decide (kind0 = 4))
 (some ((true,()),()))
 (cond (decide (kind0 = 5))
 (some ((true,()),()))
 (some ((decide (kind0 = 6),()),()))))) fun x1 =>
 cond x1.1.1
 (some [1,2])
 (cond (decide (kind0 = 7))
 (some [1,2,3])
 (cond (decide (kind0 = 8))
 (some [1])
 (cond (decide (kind0 = 9))
 (some [3])
 (cond (decide (kind0 = 11))
 (some [11,12,13])
 (cond (decide (kind0 = 12))
 (some [14])
 (some []))))))))
theorem e68 (L : Lp)  (x : s68.args.den) (h : denH s68.heap) : nrun [] L n68 s68 x h = F68 L  x.1 := by kernel_rfl
def f68 : Int → Option (List Int) := F68 (@LN LOOPS) 
@[reducible] def t68 : Ent := ⟨68,s68,fun x h => f68 x.1⟩
theorem k68 : chkNF Tryz.prog Tryz.f68 n68 = true := by kernel_rfl
theorem ok68 : NOk Tryz.prog t68 := NOk.body (T := []) mixed nall_nil (oneEach_of (by kernel_rfl)) Tryz.func68 k68 (by kernel_rfl) (fun x h => e68 _  x h)
def n34 : NFunc := ⟨103,.seq (.region 1 [
 o1 1 (.box 17 (tm 0)) 0,
 o1 2 (.move kf) 1] []) (.seq (.join [1] [] ⟨[(1,(.ptr 0 0 0))],[],[.one false .request]⟩ (.seq (.region 0 [
 oF 9 0 1 0,
 oL 10 9 0,
 oC 11 .lss 10 1 0,
 oM 12 11 0,
 o2 13 (.fieldAddr 0 (tm 1)) 12 0,
 o2 14 (.load false 1 (tm 13)) 12 0,
 o2 15 (.bin .gtr (tm 14) (ki 12)) 12 0,
 o1 16 (.pick (tm 12) kt (tm 15)) 0,
 oM 17 16 0,
 o2 18 (.fieldAddr 1 (tm 1)) 17 0,
 o2 19 (.load false 1 (tm 18)) 17 0,
 o2 20 (.bin .lss (tm 19) (ki 1)) 17 0,
 o1 21 (.pick (tm 17) kt (tm 20)) 0,
 oM 22 21 0,
 o2 23 (.fieldAddr 1 (tm 1)) 22 0,
 o2 24 (.load false 1 (tm 23)) 22 0,
 o2 25 (.bin .gtr (tm 24) (ki 1073741824)) 22 0,
 o1 26 (.pick (tm 22) kt (tm 25)) 0,
 oM 27 26 0,
 o2 28 (.fieldAddr 12 (tm 1)) 27 0,
 o2 29 (.load false 1 (tm 28)) 27 0,
 o2 30 (.len (tm 29)) 27 0,
 o2 31 (.bin .gtr (tm 30) (ki 4)) 27 0,
 o1 32 (.pick (tm 27) kt (tm 31)) 0,
 oM 33 32 0,
 o2 34 (.fieldAddr 0 (tm 1)) 33 0,
 o2 35 (.load false 1 (tm 34)) 33 0,
 o2 36 (.bin .neq (tm 35) (ki 1)) 33 0,
 oN 37 36 33 0,
 o3 38 (.fieldAddr 12 (tm 1)) 37 0,
 o3 39 (.load false 1 (tm 38)) 37 0,
 o3 40 (.len (tm 39)) 37 0,
 o3 41 (.bin .gtr (tm 40) (ki 0)) 37 0,
 o2 42 (.pick (tm 37) (tm 41) kf) 33 0,
 o1 43 (.pick (tm 33) kt (tm 42)) 0] []) (.cond (tm 43) (.seq (.region 0 [
 o1 2 (.move kf) 0] []) (.ret)) (.skip)))) (.seq (.region 4 [
 oT 44 17 1 0,
 o1 45 (.call (fc 67) [(vv 44)] false 4) 0,
 oM 3 45 4] []) (.seq (.region 4 [
 oF 46 0 1 0,
 oL 47 46 0,
 o1 48 (.call (fc 68) [(vv 47)] false 4) 0,
 oM 4 48 4] []) (.seq (.join [1] [] ⟨[(1,(.ptr 0 0 0))],[],[.one false .request]⟩ (.seq (.region 0 [
 o1 5 (.move (ki 1)) 0] []) (.block 0 (.loopU [1,3,4,5] 15 (.seq (.seq (.region 0 [
 oM 49 5 0,
 oC 50 .lss 49 15 0] []) (.cond (tm 50) (.skip) (.exit 0))) (.seq (.block 1 (.seq (.region 0 [
 o1 6 (.move kf) 0] []) (.seq (.seq (.region 0 [
 o1 7 (.move (ki 0)) 0] []) (.block 2 (.loop [1,3,4,5,6,7] ⟨[(1,(.ptr 0 0 0)),(6,(.v .bool)),(7,vI)],[3,4,5],[.one false .request]⟩ (.seq (.seq (.region 0 [
 oM 53 7 0,
 oM 54 4 0,
 o1 55 (.len (tm 54)) 0,
 oB 56 .lss 53 55 0] []) (.cond (tm 56) (.skip) (.exit 2))) (.seq (.block 3 (.region 0 [
 oM 59 6 0,
 oM 60 59 0,
 oN 61 4 60 0,
 oN 62 7 60 0,
 o2 63 (.indexSl 1 (tm 61) (tm 62)) 60 0,
 o2 64 (.load false 1 (tm 63)) 60 0,
 oN 65 5 60 0,
 o2 66 (.bin .eql (tm 64) (tm 65)) 60 0,
 o1 67 (.pick (tm 60) kt (tm 66)) 0,
 oM 6 67 0] [])) (.region 0 [
 oM 57 7 0,
 oC 58 .add 57 1 0,
 oM 7 58 0] [])))))) (.seq (.meet [1,3,4,5,87] [] ⟨[(1,(.ptr 0 0 0)),(87,(.v .bool))],[3,4,5],[.one false .request]⟩ (.region 4 [
 oM 68 6 0,
 oM 69 68 0,
 o3 70 (.move (tm 3)) 69 0,
 o3 71 (.move (tm 5)) 69 0,
 o3 72 (.indexSl 1 (tm 70) (tm 71)) 69 0,
 o3 73 (.load false 1 (tm 72)) 69 0,
 o3 74 (.call (fc 33) [(vv 73)] false 4) 69 0,
 o3 75 (.un .not (tm 74)) 69 4,
 o1 76 (.pick (tm 69) (tm 75) kf) 4,
 oM 77 76 4,
 oN 78 6 77 4,
 o2 79 (.un .not (tm 78)) 77 4,
 oN 80 79 77 4,
 o3 81 (.move (tm 3)) 80 4,
 o3 82 (.move (tm 5)) 80 4,
 o3 83 (.indexSl 1 (tm 81) (tm 82)) 80 4,
 o3 84 (.load false 1 (tm 83)) 80 4,
 o3 85 (.bin .neq (tm 84) (ki 0)) 80 4,
 o2 86 (.pick (tm 80) (tm 85) kf) 77 4,
 o1 87 (.pick (tm 77) kt (tm 86)) 4] [])) (.cond (tm 87) (.seq (.region 0 [
 o1 2 (.move kf) 0] []) (.ret)) (.skip)))))) (.region 0 [
 oM 51 5 0,
 oC 52 .add 51 1 0,
 oM 5 52 0] []))))))) (.seq (.seq (.region 0 [
 o1 8 (.move (ki 0)) 0] []) (.block 4 (.loop [1,8] ⟨[(1,(.ptr 0 0 0)),(8,vI)],[],[.one false .request]⟩ (.seq (.seq (.region 0 [
 oM 88 8 0,
 oF 89 12 1 0,
 oL 90 89 0,
 o1 91 (.len (tm 90)) 0,
 oB 92 .lss 88 91 0] []) (.cond (tm 92) (.skip) (.exit 4))) (.seq (.block 5 (.seq (.region 4 [
 oF 95 12 1 0,
 oL 96 95 0,
 oM 97 8 0,
 o1 98 (.indexSl 2 (tm 96) (tm 97)) 0,
 oF 99 0 98 0,
 oL 100 99 0,
 o1 101 (.call (fc 33) [(vv 100)] false 4) 0,
 o1 102 (.un .not (tm 101)) 4] []) (.cond (tm 102) (.seq (.region 0 [
 o1 2 (.move kf) 0] []) (.ret)) (.skip)))) (.region 0 [
 oM 93 8 0,
 oC 94 .add 93 1 0,
 oM 8 94 0] [])))))) (.seq (.region 0 [
 o1 2 (.move kt) 0] []) (.ret))))))),[.tmp 2],true⟩
def s34 : Sig := ⟨(.cons (.v .request) .nil),[],((.v .bool),[]),[]⟩
def l34_0 (g33 : Int → Option Bool) (r2 : (List Int)) (r3 : (List Int)) (nx148 : ((Unit × (Bool × (Int × Unit))) × (Request × Unit)) → Option (((Unit × Unit) × (Request × Unit)) ⊕ Bool)) (mine149 : Bool) (zk150 : Int) (z151 : Request) : Option (((Unit × Unit) × (Request × Unit)) ⊕ Bool) :=
 cond (decide (zk150 < (List.length r3 : Int)))
 (cond mine149
 (nx148 (((),true,IntKind.wrap .i64 (zk150 + 1),()),(z151,())))
 (cond (decide (0 ≤ zk150))
 (Option.bind (r3[Int.toNat zk150]?) fun y152 =>
 nx148 (((),decide (y152 = 14),IntKind.wrap .i64 (zk150 + 1),()),(z151,())))
 (none)))
 (Option.bind (α := ((Unit × (Bool × Unit)) × (Request × Unit)))
 (cond mine149
 (Option.bind (r2[14]?) fun y153 =>
 Option.bind (g33 y153) fun r154 =>
 cond (!r154)
 (some (((),true,()),(z151,())))
 (cond (!mine149)
 (Option.bind (r2[14]?) fun y155 =>
 some (((),!decide (y155 = 0),()),(z151,())))
 (some (((),false,()),(z151,())))))
 (cond (!mine149)
 (Option.bind (r2[14]?) fun y156 =>
 some (((),!decide (y156 = 0),()),(z151,())))
 (some (((),false,()),(z151,()))))) fun x157 =>
 cond x157.1.2.1
 (some (.inr false))
 (some (.inl (((),()),(x157.2.1,())))))
def l34_1 (L : Lp) (g33 : Int → Option Bool) (r2 : (List Int)) (r3 : (List Int)) (nx137 : ((Unit × (Bool × (Int × Unit))) × (Request × Unit)) → Option (((Unit × Unit) × (Request × Unit)) ⊕ Bool)) (mine138 : Bool) (zk139 : Int) (z140 : Request) : Option (((Unit × Unit) × (Request × Unit)) ⊕ Bool) :=
 cond (decide (zk139 < (List.length r3 : Int)))
 (cond mine138
 (nx137 (((),true,IntKind.wrap .i64 (zk139 + 1),()),(z140,())))
 (cond (decide (0 ≤ zk139))
 (Option.bind (r3[Int.toNat zk139]?) fun y141 =>
 nx137 (((),decide (y141 = 13),IntKind.wrap .i64 (zk139 + 1),()),(z140,())))
 (none)))
 (Option.bind (α := ((Unit × (Bool × Unit)) × (Request × Unit)))
 (cond mine138
 (Option.bind (r2[13]?) fun y142 =>
 Option.bind (g33 y142) fun r143 =>
 cond (!r143)
 (some (((),true,()),(z140,())))
 (cond (!mine138)
 (Option.bind (r2[13]?) fun y144 =>
 some (((),!decide (y144 = 0),()),(z140,())))
 (some (((),false,()),(z140,())))))
 (cond (!mine138)
 (Option.bind (r2[13]?) fun y145 =>
 some (((),!decide (y145 = 0),()),(z140,())))
 (some (((),false,()),(z140,()))))) fun x146 =>
 cond x146.1.2.1
 (some (.inr false))
 (L (fun (s147 : ((Unit × (Bool × (Int × Unit))) × (Request × Unit))) nx148 => l34_0 g33 r2 r3 nx148 s147.1.2.1 s147.1.2.2.1 s147.2.1) (((),false,0,()),(x146.2.1,()))))
def l34_2 (L : Lp) (g33 : Int → Option Bool) (r2 : (List Int)) (r3 : (List Int)) (nx126 : ((Unit × (Bool × (Int × Unit))) × (Request × Unit)) → Option (((Unit × Unit) × (Request × Unit)) ⊕ Bool)) (mine127 : Bool) (zk128 : Int) (z129 : Request) : Option (((Unit × Unit) × (Request × Unit)) ⊕ Bool) :=
 cond (decide (zk128 < (List.length r3 : Int)))
 (cond mine127
 (nx126 (((),true,IntKind.wrap .i64 (zk128 + 1),()),(z129,())))
 (cond (decide (0 ≤ zk128))
 (Option.bind (r3[Int.toNat zk128]?) fun y130 =>
 nx126 (((),decide (y130 = 12),IntKind.wrap .i64 (zk128 + 1),()),(z129,())))
 (none)))
 (Option.bind (α := ((Unit × (Bool × Unit)) × (Request × Unit)))
 (cond mine127
 (Option.bind (r2[12]?) fun y131 =>
 Option.bind (g33 y131) fun r132 =>
 cond (!r132)
 (some (((),true,()),(z129,())))
 (cond (!mine127)
 (Option.bind (r2[12]?) fun y133 =>
 some (((),!decide (y133 = 0),()),(z129,())))
 (some (((),false,()),(z129,())))))
 (cond (!mine127)
 (Option.bind (r2[12]?) fun y134 =>
 some (((),!decide (y134 = 0),()),(z129,())))
 (some (((),false,()),(z129,()))))) fun x135 =>
 cond x135.1.2.1
 (some (.inr false))
 (L (fun (s136 : ((Unit × (Bool × (Int × Unit))) × (Request × Unit))) nx137 => l34_1 L g33 r2 r3 nx137 s136.1.2.1 s136.1.2.2.1 s136.2.1) (((),false,0,()),(x135.2.1,()))))
def l34_3 (L : Lp) (g33 : Int → Option Bool) (r2 : (List Int)) (r3 : (List Int)) (nx115 : ((Unit × (Bool × (Int × Unit))) × (Request × Unit)) → Option (((Unit × Unit) × (Request × Unit)) ⊕ Bool)) (mine116 : Bool) (zk117 : Int) (z118 : Request) : Option (((Unit × Unit) × (Request × Unit)) ⊕ Bool) :=
 cond (decide (zk117 < (List.length r3 : Int)))
 (cond mine116
 (nx115 (((),true,IntKind.wrap .i64 (zk117 + 1),()),(z118,())))
 (cond (decide (0 ≤ zk117))
 (Option.bind (r3[Int.toNat zk117]?) fun y119 =>
 nx115 (((),decide (y119 = 11),IntKind.wrap .i64 (zk117 + 1),()),(z118,())))
 (none)))
 (Option.bind (α := ((Unit × (Bool × Unit)) × (Request × Unit)))
 (cond mine116
 (Option.bind (r2[11]?) fun y120 =>
 Option.bind (g33 y120) fun r121 =>
 cond (!r121)
 (some (((),true,()),(z118,())))
 (cond (!mine116)
 (Option.bind (r2[11]?) fun y122 =>
 some (((),!decide (y122 = 0),()),(z118,())))
 (some (((),false,()),(z118,())))))
 (cond (!mine116)
 (Option.bind (r2[11]?) fun y123 =>
 some (((),!decide (y123 = 0),()),(z118,())))
 (some (((),false,()),(z118,()))))) fun x124 =>
 cond x124.1.2.1
 (some (.inr false))
 (L (fun (s125 : ((Unit × (Bool × (Int × Unit))) × (Request × Unit))) nx126 => l34_2 L g33 r2 r3 nx126 s125.1.2.1 s125.1.2.2.1 s125.2.1) (((),false,0,()),(x124.2.1,()))))
def l34_4 (L : Lp) (g33 : Int → Option Bool) (r2 : (List Int)) (r3 : (List Int)) (nx104 : ((Unit × (Bool × (Int × Unit))) × (Request × Unit)) → Option (((Unit × Unit) × (Request × Unit)) ⊕ Bool)) (mine105 : Bool) (zk106 : Int) (z107 : Request) : Option (((Unit × Unit) × (Request × Unit)) ⊕ Bool) :=
 cond (decide (zk106 < (List.length r3 : Int)))
 (cond mine105
 (nx104 (((),true,IntKind.wrap .i64 (zk106 + 1),()),(z107,())))
 (cond (decide (0 ≤ zk106))
 (Option.bind (r3[Int.toNat zk106]?) fun y108 =>
 nx104 (((),decide (y108 = 10),IntKind.wrap .i64 (zk106 + 1),()),(z107,())))
 (none)))
 (Option.bind (α := ((Unit × (Bool × Unit)) × (Request × Unit)))
 (cond mine105
 (Option.bind (r2[10]?) fun y109 =>
 Option.bind (g33 y109) fun r110 =>
 cond (!r110)
 (some (((),true,()),(z107,())))
 (cond (!mine105)
 (Option.bind (r2[10]?) fun y111 =>
 some (((),!decide (y111 = 0),()),(z107,())))
 (some (((),false,()),(z107,())))))
 (cond (!mine105)
 (Option.bind (r2[10]?) fun y112 =>
 some (((),!decide (y112 = 0),()),(z107,())))
 (some (((),false,()),(z107,()))))) fun x113 =>
 cond x113.1.2.1
 (some (.inr false))
 (L (fun (s114 : ((Unit × (Bool × (Int × Unit))) × (Request × Unit))) nx115 => l34_3 L g33 r2 r3 nx115 s114.1.2.1 s114.1.2.2.1 s114.2.1) (((),false,0,()),(x113.2.1,()))))
def l34_5 (L : Lp) (g33 : Int → Option Bool) (r2 : (List Int)) (r3 : (List Int)) (nx93 : ((Unit × (Bool × (Int × Unit))) × (Request × Unit)) → Option (((Unit × Unit) × (Request × Unit)) ⊕ Bool)) (mine94 : Bool) (zk95 : Int) (z96 : Request) : Option (((Unit × Unit) × (Request × Unit)) ⊕ Bool) :=
 cond (decide (zk95 < (List.length r3 : Int)))
 (cond mine94
 (nx93 (((),true,IntKind.wrap .i64 (zk95 + 1),()),(z96,())))
 (cond (decide (0 ≤ zk95))
 (Option.bind (r3[Int.toNat zk95]?) fun y97 =>
 nx93 (((),decide (y97 = 9),IntKind.wrap .i64 (zk95 + 1),()),(z96,())))
 (none)))
 (Option.bind (α := ((Unit × (Bool × Unit)) × (Request × Unit)))
 (cond mine94
 (Option.bind (r2[9]?) fun y98 =>
 Option.bind (g33 y98) fun r99 =>
 cond (!r99)
 (some (((),true,()),(z96,())))
 (cond (!mine94)
 (Option.bind (r2[9]?) fun y100 =>
 some (((),!decide (y100 = 0),()),(z96,())))
 (some (((),false,()),(z96,())))))
 (cond (!mine94)
 (Option.bind (r2[9]?) fun y101 =>
 some (((),!decide (y101 = 0),()),(z96,())))
 (some (((),false,()),(z96,()))))) fun x102 =>
 cond x102.1.2.1
 (some (.inr false))
 (L (fun (s103 : ((Unit × (Bool × (Int × Unit))) × (Request × Unit))) nx104 => l34_4 L g33 r2 r3 nx104 s103.1.2.1 s103.1.2.2.1 s103.2.1) (((),false,0,()),(x102.2.1,()))))
def l34_6 (L : Lp) (g33 : Int → Option Bool) (r2 : (List Int)) (r3 : (List Int)) (nx82 : ((Unit × (Bool × (Int × Unit))) × (Request × Unit)) → Option (((Unit × Unit) × (Request × Unit)) ⊕ Bool)) (mine83 : Bool) (zk84 : Int) (z85 : Request) : Option (((Unit × Unit) × (Request × Unit)) ⊕ Bool) :=
 cond (decide (zk84 < (List.length r3 : Int)))
 (cond mine83
 (nx82 (((),true,IntKind.wrap .i64 (zk84 + 1),()),(z85,())))
 (cond (decide (0 ≤ zk84))
 (Option.bind (r3[Int.toNat zk84]?) fun y86 =>
 nx82 (((),decide (y86 = 8),IntKind.wrap .i64 (zk84 + 1),()),(z85,())))
 (none)))
 (Option.bind (α := ((Unit × (Bool × Unit)) × (Request × Unit)))
 (cond mine83
 (Option.bind (r2[8]?) fun y87 =>
 Option.bind (g33 y87) fun r88 =>
 cond (!r88)
 (some (((),true,()),(z85,())))
 (cond (!mine83)
 (Option.bind (r2[8]?) fun y89 =>
 some (((),!decide (y89 = 0),()),(z85,())))
 (some (((),false,()),(z85,())))))
 (cond (!mine83)
 (Option.bind (r2[8]?) fun y90 =>
 some (((),!decide (y90 = 0),()),(z85,())))
 (some (((),false,()),(z85,()))))) fun x91 =>
 cond x91.1.2.1
 (some (.inr false))
 (L (fun (s92 : ((Unit × (Bool × (Int × Unit))) × (Request × Unit))) nx93 => l34_5 L g33 r2 r3 nx93 s92.1.2.1 s92.1.2.2.1 s92.2.1) (((),false,0,()),(x91.2.1,()))))
def l34_7 (L : Lp) (g33 : Int → Option Bool) (r2 : (List Int)) (r3 : (List Int)) (nx71 : ((Unit × (Bool × (Int × Unit))) × (Request × Unit)) → Option (((Unit × Unit) × (Request × Unit)) ⊕ Bool)) (mine72 : Bool) (zk73 : Int) (z74 : Request) : Option (((Unit × Unit) × (Request × Unit)) ⊕ Bool) :=
 cond (decide (zk73 < (List.length r3 : Int)))
 (cond mine72
 (nx71 (((),true,IntKind.wrap .i64 (zk73 + 1),()),(z74,())))
 (cond (decide (0 ≤ zk73))
 (Option.bind (r3[Int.toNat zk73]?) fun y75 =>
 nx71 (((),decide (y75 = 7),IntKind.wrap .i64 (zk73 + 1),()),(z74,())))
 (none)))
 (Option.bind (α := ((Unit × (Bool × Unit)) × (Request × Unit)))
 (cond mine72
 (Option.bind (r2[7]?) fun y76 =>
 Option.bind (g33 y76) fun r77 =>
 cond (!r77)
 (some (((),true,()),(z74,())))
 (cond (!mine72)
 (Option.bind (r2[7]?) fun y78 =>
 some (((),!decide (y78 = 0),()),(z74,())))
 (some (((),false,()),(z74,())))))
 (cond (!mine72)
 (Option.bind (r2[7]?) fun y79 =>
 some (((),!decide (y79 = 0),()),(z74,())))
 (some (((),false,()),(z74,()))))) fun x80 =>
 cond x80.1.2.1
 (some (.inr false))
 (L (fun (s81 : ((Unit × (Bool × (Int × Unit))) × (Request × Unit))) nx82 => l34_6 L g33 r2 r3 nx82 s81.1.2.1 s81.1.2.2.1 s81.2.1) (((),false,0,()),(x80.2.1,()))))
def l34_8 (L : Lp) (g33 : Int → Option Bool) (r2 : (List Int)) (r3 : (List Int)) (nx60 : ((Unit × (Bool × (Int × Unit))) × (Request × Unit)) → Option (((Unit × Unit) × (Request × Unit)) ⊕ Bool)) (mine61 : Bool) (zk62 : Int) (z63 : Request) : Option (((Unit × Unit) × (Request × Unit)) ⊕ Bool) :=
 cond (decide (zk62 < (List.length r3 : Int)))
 (cond mine61
 (nx60 (((),true,IntKind.wrap .i64 (zk62 + 1),()),(z63,())))
 (cond (decide (0 ≤ zk62))
 (Option.bind (r3[Int.toNat zk62]?) fun y64 =>
 nx60 (((),decide (y64 = 6),IntKind.wrap .i64 (zk62 + 1),()),(z63,())))
 (none)))
 (Option.bind (α := ((Unit × (Bool × Unit)) × (Request × Unit)))
 (cond mine61
 (Option.bind (r2[6]?) fun y65 =>
 Option.bind (g33 y65) fun r66 =>
 cond (!r66)
 (some (((),true,()),(z63,())))
 (cond (!mine61)
 (Option.bind (r2[6]?) fun y67 =>
 some (((),!decide (y67 = 0),()),(z63,())))
 (some (((),false,()),(z63,())))))
 (cond (!mine61)
 (Option.bind (r2[6]?) fun y68 =>
 some (((),!decide (y68 = 0),()),(z63,())))
 (some (((),false,()),(z63,()))))) fun x69 =>
 cond x69.1.2.1
 (some (.inr false))
 (L (fun (s70 : ((Unit × (Bool × (Int × Unit))) × (Request × Unit))) nx71 => l34_7 L g33 r2 r3 nx71 s70.1.2.1 s70.1.2.2.1 s70.2.1) (((),false,0,()),(x69.2.1,()))))
def l34_9 (L : Lp) (g33 : Int → Option Bool) (r2 : (List Int)) (r3 : (List Int)) (nx49 : ((Unit × (Bool × (Int × Unit))) × (Request × Unit)) → Option (((Unit × Unit) × (Request × Unit)) ⊕ Bool)) (mine50 : Bool) (zk51 : Int) (z52 : Request) : Option (((Unit × Unit) × (Request × Unit)) ⊕ Bool) :=
 cond (decide (zk51 < (List.length r3 : Int)))
 (cond mine50
 (nx49 (((),true,IntKind.wrap .i64 (zk51 + 1),()),(z52,())))
 (cond (decide (0 ≤ zk51))
 (Option.bind (r3[Int.toNat zk51]?) fun y53 =>
 nx49 (((),decide (y53 = 5),IntKind.wrap .i64 (zk51 + 1),()),(z52,())))
 (none)))
 (Option.bind (α := ((Unit × (Bool × Unit)) × (Request × Unit)))
 (cond mine50
 (Option.bind (r2[5]?) fun y54 =>
 Option.bind (g33 y54) fun r55 =>
 cond (!r55)
 (some (((),true,()),(z52,())))
 (cond (!mine50)
 (Option.bind (r2[5]?) fun y56 =>
 some (((),!decide (y56 = 0),()),(z52,())))
 (some (((),false,()),(z52,())))))
 (cond (!mine50)
 (Option.bind (r2[5]?) fun y57 =>
 some (((),!decide (y57 = 0),()),(z52,())))
 (some (((),false,()),(z52,()))))) fun x58 =>
 cond x58.1.2.1
 (some (.inr false))
 (L (fun (s59 : ((Unit × (Bool × (Int × Unit))) × (Request × Unit))) nx60 => l34_8 L g33 r2 r3 nx60 s59.1.2.1 s59.1.2.2.1 s59.2.1) (((),false,0,()),(x58.2.1,()))))
def l34_10 (L : Lp) (g33 : Int → Option Bool) (r2 : (List Int)) (r3 : (List Int)) (nx38 : ((Unit × (Bool × (Int × Unit))) × (Request × Unit)) → Option (((Unit × Unit) × (Request × Unit)) ⊕ Bool)) (mine39 : Bool) (zk40 : Int) (z41 : Request) : Option (((Unit × Unit) × (Request × Unit)) ⊕ Bool) :=
 cond (decide (zk40 < (List.length r3 : Int)))
 (cond mine39
 (nx38 (((),true,IntKind.wrap .i64 (zk40 + 1),()),(z41,())))
 (cond (decide (0 ≤ zk40))
 (Option.bind (r3[Int.toNat zk40]?) fun y42 =>
 nx38 (((),decide (y42 = 4),IntKind.wrap .i64 (zk40 + 1),()),(z41,())))
 (none)))
 (Option.bind (α := ((Unit × (Bool × Unit)) × (Request × Unit)))
 (cond mine39
 (Option.bind (r2[4]?) fun y43 =>
 Option.bind (g33 y43) fun r44 =>
 cond (!r44)
 (some (((),true,()),(z41,())))
 (cond (!mine39)
 (Option.bind (r2[4]?) fun y45 =>
 some (((),!decide (y45 = 0),()),(z41,())))
 (some (((),false,()),(z41,())))))
 (cond (!mine39)
 (Option.bind (r2[4]?) fun y46 =>
 some (((),!decide (y46 = 0),()),(z41,())))
 (some (((),false,()),(z41,()))))) fun x47 =>
 cond x47.1.2.1
 (some (.inr false))
 (L (fun (s48 : ((Unit × (Bool × (Int × Unit))) × (Request × Unit))) nx49 => l34_9 L g33 r2 r3 nx49 s48.1.2.1 s48.1.2.2.1 s48.2.1) (((),false,0,()),(x47.2.1,()))))
def l34_11 (L : Lp) (g33 : Int → Option Bool) (r2 : (List Int)) (r3 : (List Int)) (nx27 : ((Unit × (Bool × (Int × Unit))) × (Request × Unit)) → Option (((Unit × Unit) × (Request × Unit)) ⊕ Bool)) (mine28 : Bool) (zk29 : Int) (z30 : Request) : Option (((Unit × Unit) × (Request × Unit)) ⊕ Bool) :=
 cond (decide (zk29 < (List.length r3 : Int)))
 (cond mine28
 (nx27 (((),true,IntKind.wrap .i64 (zk29 + 1),()),(z30,())))
 (cond (decide (0 ≤ zk29))
 (Option.bind (r3[Int.toNat zk29]?) fun y31 =>
 nx27 (((),decide (y31 = 3),IntKind.wrap .i64 (zk29 + 1),()),(z30,())))
 (none)))
 (Option.bind (α := ((Unit × (Bool × Unit)) × (Request × Unit)))
 (cond mine28
 (Option.bind (r2[3]?) fun y32 =>
 Option.bind (g33 y32) fun r33 =>
 cond (!r33)
 (some (((),true,()),(z30,())))
 (cond (!mine28)
 (Option.bind (r2[3]?) fun y34 =>
 some (((),!decide (y34 = 0),()),(z30,())))
 (some (((),false,()),(z30,())))))
 (cond (!mine28)
 (Option.bind (r2[3]?) fun y35 =>
 some (((),!decide (y35 = 0),()),(z30,())))
 (some (((),false,()),(z30,()))))) fun x36 =>
 cond x36.1.2.1
 (some (.inr false))
 (L (fun (s37 : ((Unit × (Bool × (Int × Unit))) × (Request × Unit))) nx38 => l34_10 L g33 r2 r3 nx38 s37.1.2.1 s37.1.2.2.1 s37.2.1) (((),false,0,()),(x36.2.1,()))))
def l34_12 (L : Lp) (g33 : Int → Option Bool) (r2 : (List Int)) (r3 : (List Int)) (nx16 : ((Unit × (Bool × (Int × Unit))) × (Request × Unit)) → Option (((Unit × Unit) × (Request × Unit)) ⊕ Bool)) (mine17 : Bool) (zk18 : Int) (z19 : Request) : Option (((Unit × Unit) × (Request × Unit)) ⊕ Bool) :=
 cond (decide (zk18 < (List.length r3 : Int)))
 (cond mine17
 (nx16 (((),true,IntKind.wrap .i64 (zk18 + 1),()),(z19,())))
 (cond (decide (0 ≤ zk18))
 (Option.bind (r3[Int.toNat zk18]?) fun y20 =>
 nx16 (((),decide (y20 = 2),IntKind.wrap .i64 (zk18 + 1),()),(z19,())))
 (none)))
 (Option.bind (α := ((Unit × (Bool × Unit)) × (Request × Unit)))
 (cond mine17
 (Option.bind (r2[2]?) fun y21 =>
 Option.bind (g33 y21) fun r22 =>
 cond (!r22)
 (some (((),true,()),(z19,())))
 (cond (!mine17)
 (Option.bind (r2[2]?) fun y23 =>
 some (((),!decide (y23 = 0),()),(z19,())))
 (some (((),false,()),(z19,())))))
 (cond (!mine17)
 (Option.bind (r2[2]?) fun y24 =>
 some (((),!decide (y24 = 0),()),(z19,())))
 (some (((),false,()),(z19,()))))) fun x25 =>
 cond x25.1.2.1
 (some (.inr false))
 (L (fun (s26 : ((Unit × (Bool × (Int × Unit))) × (Request × Unit))) nx27 => l34_11 L g33 r2 r3 nx27 s26.1.2.1 s26.1.2.2.1 s26.2.1) (((),false,0,()),(x25.2.1,()))))
def l34_13 (L : Lp) (g33 : Int → Option Bool) (r2 : (List Int)) (r3 : (List Int)) (nx5 : ((Unit × (Bool × (Int × Unit))) × (Request × Unit)) → Option (((Unit × Unit) × (Request × Unit)) ⊕ Bool)) (mine6 : Bool) (zk7 : Int) (z8 : Request) : Option (((Unit × Unit) × (Request × Unit)) ⊕ Bool) :=
 cond (decide (zk7 < (List.length r3 : Int)))
 (cond mine6
 (nx5 (((),true,IntKind.wrap .i64 (zk7 + 1),()),(z8,())))
 (cond (decide (0 ≤ zk7))
 (Option.bind (r3[Int.toNat zk7]?) fun y9 =>
 nx5 (((),decide (y9 = 1),IntKind.wrap .i64 (zk7 + 1),()),(z8,())))
 (none)))
 (Option.bind (α := ((Unit × (Bool × Unit)) × (Request × Unit)))
 (cond mine6
 (Option.bind (r2[1]?) fun y10 =>
 Option.bind (g33 y10) fun r11 =>
 cond (!r11)
 (some (((),true,()),(z8,())))
 (cond (!mine6)
 (Option.bind (r2[1]?) fun y12 =>
 some (((),!decide (y12 = 0),()),(z8,())))
 (some (((),false,()),(z8,())))))
 (cond (!mine6)
 (Option.bind (r2[1]?) fun y13 =>
 some (((),!decide (y13 = 0),()),(z8,())))
 (some (((),false,()),(z8,()))))) fun x14 =>
 cond x14.1.2.1
 (some (.inr false))
 (L (fun (s15 : ((Unit × (Bool × (Int × Unit))) × (Request × Unit))) nx16 => l34_12 L g33 r2 r3 nx16 s15.1.2.1 s15.1.2.2.1 s15.2.1) (((),false,0,()),(x14.2.1,()))))
def l34_14 (g33 : Int → Option Bool) (nx160 : ((Unit × (Int × Unit)) × (Request × Unit)) → Option Bool) (i161 : Int) (z162 : Request) : Option Bool :=
 cond (decide (i161 < (List.length z162.after : Int)))
 (cond (decide (0 ≤ i161))
 (Option.bind (z162.after[Int.toNat i161]?) fun y163 =>
 Option.bind (g33 y163.job) fun r164 =>
 cond (!r164)
 (some false)
 (nx160 (((),IntKind.wrap .i64 (i161 + 1),()),(z162,()))))
 (none))
 (some true)
def F34 (L : Lp) (g67 : Request → Option (List Int)) (g68 : Int → Option (List Int)) (g33 : Int → Option Bool) (ar0 : Request) : Option Bool :=
 Option.bind (α := (((Unit × Unit) × (Request × Unit)) ⊕ Bool))
 (cond (decide (ar0.kind < 1))
 (some (.inr false))
 (cond (decide (12 < ar0.kind))
 (some (.inr false))
 (cond (decide (ar0.key < 1))
 (some (.inr false))
 (cond (decide (1073741824 < ar0.key))
 (some (.inr false))
 (cond (decide (4 < (List.length ar0.after : Int)))
 (some (.inr false))
 (cond (!decide (ar0.kind = 1))
 (cond (decide (0 < (List.length ar0.after : Int)))
 (some (.inr false))
 (some (.inl (((),()),(ar0,())))))
 (some (.inl (((),()),(ar0,())))))))))) (Sum.elim (fun x1 =>
 Option.bind (g67 x1.2.1) fun r2 =>
 Option.bind (g68 x1.2.1.kind) fun r3 =>
 Option.bind (α := (((Unit × Unit) × (Request × Unit)) ⊕ Bool))
 (L (fun (s4 : ((Unit × (Bool × (Int × Unit))) × (Request × Unit))) nx5 => l34_13 L g33 r2 r3 nx5 s4.1.2.1 s4.1.2.2.1 s4.2.1) (((),false,0,()),(x1.2.1,()))) (Sum.elim (fun x158 =>
 L (fun (s159 : ((Unit × (Int × Unit)) × (Request × Unit))) nx160 => l34_14 g33 nx160 s159.1.2.1 s159.2.1) (((),0,()),(x158.2.1,()))) some)) some)
theorem e34 (L : Lp) (g67 : Request → Option (List Int)) (g68 : Int → Option (List Int)) (g33 : Int → Option Bool) (x : s34.args.den) (h : denH s34.heap) : nrun [⟨67,s67,fun x h => g67 x.1⟩,⟨68,s68,fun x h => g68 x.1⟩,⟨33,s33,fun x h => g33 x.1⟩] L n34 s34 x h = F34 L g67 g68 g33 x.1 := by kernel_rfl
def f34 : Request → Option Bool := F34 (@LN LOOPS) f67 f68 f33
@[reducible] def t34 : Ent := ⟨34,s34,fun x h => f34 x.1⟩
theorem k34 : chkNF Tryz.prog Tryz.f34 n34 = true := by kernel_rfl
theorem ok34 : NOk Tryz.prog t34 := NOk.body (T := [t67,t68,t33]) mixed (nall_cons ok67 (nall_cons ok68 (nall_cons ok33 nall_nil))) (oneEach_of (by kernel_rfl)) Tryz.func34 k34 (by kernel_rfl) (fun x h => e34 _ _ _ _ x h)
def n69 : NFunc := ⟨9,.seq (.region 0 [
 o1 2 (.move kf) 0] []) (.seq (.region 0 [
 oM 3 0 0,
 oC 4 .geq 3 0 0,
 oM 5 4 0,
 o3 6 (.move (tm 0)) 5 0,
 o3 7 (.bin .leq (tm 6) (ki 1048576)) 5 0,
 o1 8 (.pick (tm 5) (tm 7) kf) 0,
 oM 2 8 0] []) (.ret)),[.tmp 2],true⟩
def s69 : Sig := ⟨(.cons (.v (.int .i64)) .nil),[],((.v .bool),[]),[]⟩
def F69 (L : Lp)  (an0 : Int) : Option Bool :=
 cond (decide (0 ≤ an0))
 (some (decide (an0 ≤ 1048576)))
 (some false)
theorem e69 (L : Lp)  (x : s69.args.den) (h : denH s69.heap) : nrun [] L n69 s69 x h = F69 L  x.1 := by kernel_rfl
def f69 : Int → Option Bool := F69 (@LN LOOPS) 
@[reducible] def t69 : Ent := ⟨69,s69,fun x h => f69 x.1⟩
theorem k69 : chkNF Tryz.prog Tryz.f69 n69 = true := by kernel_rfl
theorem ok69 : NOk Tryz.prog t69 := NOk.body (T := []) mixed nall_nil (oneEach_of (by kernel_rfl)) Tryz.func69 k69 (by kernel_rfl) (fun x h => e69 _  x h)
def n35 : NFunc := ⟨21,.seq (.region 1 [
 o1 1 (.box 4 (tm 0)) 0,
 o1 2 (.move kf) 1] []) (.seq (.region 16 [
 oF 3 0 1 0,
 oL 4 3 0,
 o1 5 (.call (fc 69) [(vv 4)] false 4) 0,
 oM 6 5 4,
 o3 7 (.fieldAddr 1 (tm 1)) 6 4,
 o3 8 (.load false 1 (tm 7)) 6 4,
 o3 9 (.call (fc 69) [(vv 8)] false 4) 6 4,
 o1 10 (.pick (tm 6) (tm 9) kf) 8,
 oM 11 10 8,
 o3 12 (.fieldAddr 2 (tm 1)) 11 8,
 o3 13 (.load false 1 (tm 12)) 11 8,
 o3 14 (.call (fc 69) [(vv 13)] false 4) 11 8,
 o1 15 (.pick (tm 11) (tm 14) kf) 12,
 oM 16 15 12,
 o3 17 (.fieldAddr 3 (tm 1)) 16 12,
 o3 18 (.load false 1 (tm 17)) 16 12,
 o3 19 (.call (fc 69) [(vv 18)] false 4) 16 12,
 o1 20 (.pick (tm 16) (tm 19) kf) 16,
 oM 2 20 16] []) (.ret)),[.tmp 2],true⟩
def s35 : Sig := ⟨(.cons (.v .res) .nil),[],((.v .bool),[]),[]⟩
def F35 (L : Lp) (g69 : Int → Option Bool) (a0 : Res) : Option Bool :=
 Option.bind (g69 a0.cpu) fun r1 =>
 cond r1
 (Option.bind (g69 a0.mem) fun r2 =>
 cond r2
 (Option.bind (g69 a0.gpu) fun r3 =>
 cond r3
 (Option.bind (g69 a0.lic) fun r4 =>
 some r4)
 (some false))
 (some false))
 (some false)
theorem e35 (L : Lp) (g69 : Int → Option Bool) (x : s35.args.den) (h : denH s35.heap) : nrun [⟨69,s69,fun x h => g69 x.1⟩] L n35 s35 x h = F35 L g69 x.1 := by kernel_rfl
def f35 : Res → Option Bool := F35 (@LN LOOPS) f69
@[reducible] def t35 : Ent := ⟨35,s35,fun x h => f35 x.1⟩
theorem k35 : chkNF Tryz.prog Tryz.f35 n35 = true := by kernel_rfl
theorem ok35 : NOk Tryz.prog t35 := NOk.body (T := [t69]) mixed (nall_cons ok69 nall_nil) (oneEach_of (by kernel_rfl)) Tryz.func35 k35 (by kernel_rfl) (fun x h => e35 _ _ x h)
def n12 : NFunc := ⟨69,.seq (.region 1 [
 o1 1 (.box 24 (tm 0)) 0,
 o1 2 (.move kf) 1] []) (.seq (.seq (.region 20 [
 o4 3 (.fieldAddr 0 (tm 1)) 0 [],
 o4 4 (.load false 1 (tm 3)) 0 [],
 o4 5 (.bin .lss (tm 4) (ki 1)) 0 [],
 o4 6 (.move (tm 5)) 0 [],
 ⟨(some 7),.fieldAddr 0 (tm 1),(some (6,false)),0,(some ([],none))⟩,
 ⟨(some 8),.load false 1 (tm 7),(some (6,false)),0,(some ([],none))⟩,
 ⟨(some 9),.bin .gtr (tm 8) (ki 10),(some (6,false)),0,(some ([],none))⟩,
 o4 10 (.pick (tm 6) kt (tm 9)) 0 [],
 o4 11 (.move (tm 10)) 0 [],
 ⟨(some 12),.load true 24 (tm 1),(some (11,false)),0,(some ([],none))⟩,
 ⟨(some 13),.call (fc 32) [(vv 12)] true 4,(some (11,false)),0,(some ([],none))⟩,
 ⟨(some 14),.load true 24 (tm 1),(some (11,false)),4,(some ([],none))⟩,
 ⟨(some 15),.call (fc 11) [(vv 13),(vv 14)] false 4,(some (11,false)),4,(some ([0,1,2,3],none))⟩,
 ⟨(some 16),.un .not (tm 15),(some (11,false)),8,(some ([0,1,2,3,4,5,6,7],none))⟩,
 o4 17 (.pick (tm 11) kt (tm 16)) 8 [0,1,2,3,4,5,6,7],
 o4 18 (.move (tm 17)) 8 [0,1,2,3,4,5,6,7],
 ⟨(some 19),.fieldAddr 1 (tm 1),(some (18,false)),8,(some ([0,1,2,3,4,5,6,7],none))⟩,
 ⟨(some 20),.load false 1 (tm 19),(some (18,false)),8,(some ([0,1,2,3,4,5,6,7],none))⟩,
 ⟨(some 21),.call (fc 33) [(vv 20)] false 4,(some (18,false)),8,(some ([0,1,2,3,4,5,6,7],none))⟩,
 ⟨(some 22),.un .not (tm 21),(some (18,false)),12,(some ([0,1,2,3,4,5,6,7,8,9,10,11],none))⟩,
 o4 23 (.pick (tm 18) kt (tm 22)) 12 [0,1,2,3,4,5,6,7,8,9,10,11],
 o4 24 (.move (tm 23)) 12 [0,1,2,3,4,5,6,7,8,9,10,11],
 ⟨(some 25),.fieldAddr 20 (tm 1),(some (24,false)),12,(some ([0,1,2,3,4,5,6,7,8,9,10,11],none))⟩,
 ⟨(some 26),.load false 1 (tm 25),(some (24,false)),12,(some ([0,1,2,3,4,5,6,7,8,9,10,11],none))⟩,
 ⟨(some 27),.call (fc 33) [(vv 26)] false 4,(some (24,false)),12,(some ([0,1,2,3,4,5,6,7,8,9,10,11],none))⟩,
 ⟨(some 28),.un .not (tm 27),(some (24,false)),16,(some ([0,1,2,3,4,5,6,7,8,9,10,11,12,13,14,15],none))⟩,
 o4 29 (.pick (tm 24) kt (tm 28)) 16 [0,1,2,3,4,5,6,7,8,9,10,11,12,13,14,15],
 o4 30 (.move (tm 29)) 16 [0,1,2,3,4,5,6,7,8,9,10,11,12,13,14,15],
 ⟨(some 31),.fieldAddr 22 (tm 1),(some (30,false)),16,(some ([0,1,2,3,4,5,6,7,8,9,10,11,12,13,14,15],none))⟩,
 ⟨(some 32),.load false 1 (tm 31),(some (30,false)),16,(some ([0,1,2,3,4,5,6,7,8,9,10,11,12,13,14,15],none))⟩,
 ⟨(some 33),.call (fc 33) [(vv 32)] false 4,(some (30,false)),16,(some ([0,1,2,3,4,5,6,7,8,9,10,11,12,13,14,15],none))⟩,
 ⟨(some 34),.un .not (tm 33),(some (30,false)),20,(some ([0,1,2,3,4,5,6,7,8,9,10,11,12,13,14,15,16,17,18,19],none))⟩,
 o4 35 (.pick (tm 30) kt (tm 34)) 20 [0,1,2,3,4,5,6,7,8,9,10,11,12,13,14,15,16,17,18,19]] []) (.cond (tm 35) (.seq (.region 0 [
 o1 2 (.move kf) 0] []) (.ret)) (.skip))) (.seq (.seq (.region 0 [
 oF 36 0 1 0,
 oL 37 36 0,
 oC 38 .eql 37 1 0] []) (.cond (tm 38) (.seq (.region 8 [
 oF 39 2 1 0,
 oT 40 17 39 0,
 o1 41 (.call (fc 34) [(vv 40)] false 4) 0,
 oM 42 41 4,
 o3 43 (.fieldAddr 2 (tm 1)) 42 4,
 o3 44 (.fieldAddr 6 (tm 43)) 42 4,
 o3 45 (.load true 4 (tm 44)) 42 4,
 o3 46 (.call (fc 35) [(vv 45)] false 4) 42 4,
 o1 47 (.pick (tm 42) (tm 46) kf) 8,
 oM 48 47 8,
 o3 49 (.fieldAddr 2 (tm 1)) 48 8,
 o3 50 (.fieldAddr 10 (tm 49)) 48 8,
 o3 51 (.load false 1 (tm 50)) 48 8,
 o3 52 (.bin .leq (tm 51) (ki 65536)) 48 8,
 o1 53 (.pick (tm 48) (tm 52) kf) 8,
 oM 2 53 8] []) (.ret)) (.skip))) (.seq (.region 0 [
 oF 54 0 1 0,
 oL 55 54 0,
 oC 56 .neq 55 2 0,
 oM 57 56 0,
 o2 58 (.fieldAddr 19 (tm 1)) 57 0,
 o2 59 (.load false 1 (tm 58)) 57 0,
 o2 60 (.len (tm 59)) 57 0,
 o2 61 (.bin .geq (tm 60) (ki 1)) 57 0,
 oN 62 61 57 0,
 o3 63 (.fieldAddr 19 (tm 1)) 62 0,
 o3 64 (.load false 1 (tm 63)) 62 0,
 o3 65 (.len (tm 64)) 62 0,
 o3 66 (.bin .leq (tm 65) (ki 480)) 62 0,
 o2 67 (.pick (tm 62) (tm 66) kf) 57 0,
 o1 68 (.pick (tm 57) kt (tm 67)) 0,
 oM 2 68 0] []) (.ret)))),[.tmp 2],true⟩
def s12 : Sig := ⟨(.cons (.v (.pair (.int .i64) (.pair (.int .i64) (.pair .request (.pair (.list (.int .u8)) (.pair (.int .i64) (.pair .bool (.pair (.int .i64) .bool)))))))) .nil),[],((.v .bool),[]),[]⟩
def F12 (L : Lp) (g32 : (Int × (Int × (Request × ((List Int) × (Int × (Bool × (Int × Bool))))))) → Option (Int × (Int × (Request × ((List Int) × (Int × (Bool × (Int × Bool)))))))) (g11 : (Int × (Int × (Request × ((List Int) × (Int × (Bool × (Int × Bool))))))) → (Int × (Int × (Request × ((List Int) × (Int × (Bool × (Int × Bool))))))) → Option Bool) (g33 : Int → Option Bool) (g34 : Request → Option Bool) (g35 : Res → Option Bool) (ae0 : (Int × (Int × (Request × ((List Int) × (Int × (Bool × (Int × Bool)))))))) : Option Bool :=
 cond (decide (ae0.1 < 1))
 (some false)
 (cond (decide (10 < ae0.1))
 (some false)
 (Option.bind (g32 ae0) fun r1 =>
 Option.bind (g11 r1 ae0) fun r2 =>
 cond (!r2)
 (some false)
 (Option.bind (g33 ae0.2.1) fun r3 =>
 cond (!r3)
 (some false)
 (Option.bind (g33 ae0.2.2.2.2.1) fun r4 =>
 cond (!r4)
 (some false)
 (Option.bind (g33 ae0.2.2.2.2.2.2.1) fun r5 =>
 cond (!r5)
 (some false)
 (cond (decide (ae0.1 = 1))
 (Option.bind (g34 ae0.2.2.1) fun r6 =>
 cond r6
 (Option.bind (g35 ae0.2.2.1.need) fun r7 =>
 cond r7
 (some (decide (ae0.2.2.1.wall ≤ 65536)))
 (some false))
 (some false))
 (cond (!decide (ae0.1 = 2))
 (some true)
 (cond (decide (1 ≤ (List.length ae0.2.2.2.1 : Int)))
 (some (decide ((List.length ae0.2.2.2.1 : Int) ≤ 480)))
 (some false)))))))))
theorem e12 (L : Lp) (g32 : (Int × (Int × (Request × ((List Int) × (Int × (Bool × (Int × Bool))))))) → Option (Int × (Int × (Request × ((List Int) × (Int × (Bool × (Int × Bool)))))))) (g11 : (Int × (Int × (Request × ((List Int) × (Int × (Bool × (Int × Bool))))))) → (Int × (Int × (Request × ((List Int) × (Int × (Bool × (Int × Bool))))))) → Option Bool) (g33 : Int → Option Bool) (g34 : Request → Option Bool) (g35 : Res → Option Bool) (x : s12.args.den) (h : denH s12.heap) : nrun [⟨32,s32,fun x h => g32 x.1⟩,⟨11,s11,fun x h => g11 x.1 x.2.1⟩,⟨33,s33,fun x h => g33 x.1⟩,⟨34,s34,fun x h => g34 x.1⟩,⟨35,s35,fun x h => g35 x.1⟩] L n12 s12 x h = F12 L g32 g11 g33 g34 g35 x.1 := by kernel_rfl
def f12 : (Int × (Int × (Request × ((List Int) × (Int × (Bool × (Int × Bool))))))) → Option Bool := F12 (@LN LOOPS) f32 f11 f33 f34 f35
@[reducible] def t12 : Ent := ⟨12,s12,fun x h => f12 x.1⟩
theorem k12 : chkNF Tryz.prog Tryz.f12 n12 = true := by kernel_rfl
theorem ok12 : NOk Tryz.prog t12 := NOk.body (T := [t32,t11,t33,t34,t35]) mixed (nall_cons ok32 (nall_cons ok11 (nall_cons ok33 (nall_cons ok34 (nall_cons ok35 nall_nil))))) (oneEach_of (by kernel_rfl)) Tryz.func12 k12 (by kernel_rfl) (fun x h => e12 _ _ _ _ _ _ x h)
def n77 : NFunc := ⟨21,.seq (.region 0 [
 o1 2 (.move (.const (.str []))) 0] []) (.seq (.region 0 [
 o1 3 (.move (.const (.str []))) 0] []) (.seq (.block 0 (.loop [0,3] ⟨[(0,vI),(3,(.v .str))],[],[]⟩ (.seq (.seq (.region 0 [
 oM 4 3 0,
 o1 5 (.bin .eql (tm 4) (.const (.str []))) 0,
 oM 6 5 0,
 oN 7 0 6 0,
 o2 8 (.bin .gtr (tm 7) (ki 0)) 6 0,
 o1 9 (.pick (tm 6) kt (tm 8)) 0] []) (.cond (tm 9) (.skip) (.exit 0))) (.block 1 (.seq (.region 1 [
 oM 10 0 0,
 oC 11 .rem 10 10 0,
 o1 12 (.bin .add (ki 48) (tm 11)) 0,
 o1 13 (.conv .u8 (tm 12)) 0,
 o1 14 (.buildSlice 1 1 true [.int .u8 (0)] [(0,(tm 13))]) 0,
 o1 15 (.load false 0 (tm 14)) 1,
 oM 16 3 1,
 oB 17 .add 15 16 1,
 oM 3 17 1] []) (.region 0 [
 oM 18 0 0,
 oC 19 .quo 18 10 0,
 oM 0 19 0] [])))))) (.seq (.region 0 [
 oM 20 3 0,
 oM 2 20 0] []) (.ret)))),[.tmp 2],true⟩
def s77 : Sig := ⟨(.cons (.v (.int .i64)) .nil),[],((.v .str),[]),[]⟩
def l77_0  (nx2 : ((Int × ((List UInt8) × Unit)) × Unit) → Option (List UInt8)) (zn3 : Int) (zs4 : (List UInt8)) : Option (List UInt8) :=
 cond (decide (zs4 = ([] : List UInt8)))
 (Option.bind (nbytes (([IntKind.wrap .u8 (IntKind.wrap .i64 (48 + (Int.tmod zn3 10)))] : List Int))) fun s5 =>
 cond (decide (s5.length + zs4.length ≤ 4294967296))
 (nx2 ((IntKind.wrap .i64 (Int.tdiv zn3 10),s5 ++ zs4,()),()))
 (none))
 (cond (decide (0 < zn3))
 (Option.bind (nbytes (([IntKind.wrap .u8 (IntKind.wrap .i64 (48 + (Int.tmod zn3 10)))] : List Int))) fun s6 =>
 cond (decide (s6.length + zs4.length ≤ 4294967296))
 (nx2 ((IntKind.wrap .i64 (Int.tdiv zn3 10),s6 ++ zs4,()),()))
 (none))
 (some zs4))
def F77 (L : Lp)  (an0 : Int) : Option (List UInt8) :=
 L (fun (s1 : ((Int × ((List UInt8) × Unit)) × Unit)) nx2 => l77_0 nx2 s1.1.1 s1.1.2.1) ((an0,([] : List UInt8),()),())
theorem e77 (L : Lp)  (x : s77.args.den) (h : denH s77.heap) : nrun [] L n77 s77 x h = F77 L  x.1 := by kernel_rfl
def f77 : Int → Option (List UInt8) := F77 (@LN LOOPS) 
@[reducible] def t77 : Ent := ⟨77,s77,fun x h => f77 x.1⟩
theorem k77 : chkNF Tryz.prog Tryz.f77 n77 = true := by kernel_rfl
theorem ok77 : NOk Tryz.prog t77 := NOk.body (T := []) mixed nall_nil (oneEach_of (by kernel_rfl)) Tryz.func77 k77 (by kernel_rfl) (fun x h => e77 _  x h)
def n38 : NFunc := ⟨20,.seq (.region 0 [
 o1 2 (.move (.const (.str []))) 0] []) (.seq (.region 0 [
 o1 3 (.move (.const (.str []))) 0] []) (.seq (.seq (.region 0 [
 o1 4 (.move (ki 0)) 0] []) (.block 0 (.loop [0,3,4] ⟨[(3,(.v .str)),(4,vI)],[0],[]⟩ (.seq (.seq (.region 0 [
 oM 5 4 0,
 oM 6 0 0,
 o1 7 (.len (tm 6)) 0,
 oB 8 .lss 5 7 0] []) (.cond (tm 8) (.skip) (.exit 0))) (.seq (.block 1 (.region 4 [
 oM 11 3 0,
 o1 12 (.bin .add (tm 11) (.const (.str [32]))) 0,
 oM 13 0 0,
 oM 14 4 0,
 o1 15 (.indexSl 1 (tm 13) (tm 14)) 0,
 oL 16 15 0,
 o1 17 (.call (fc 77) [(vv 16)] false 4) 0,
 oB 18 .add 12 17 4,
 oM 3 18 4] [])) (.region 0 [
 oM 9 4 0,
 oC 10 .add 9 1 0,
 oM 4 10 0] [])))))) (.seq (.region 0 [
 oM 19 3 0,
 oM 2 19 0] []) (.ret)))),[.tmp 2],true⟩
def s38 : Sig := ⟨(.cons (.v (.list (.int .i64))) .nil),[],((.v .str),[]),[]⟩
def l38_0 (g77 : Int → Option (List UInt8)) (al0 : (List Int)) (nx2 : (((List UInt8) × (Int × Unit)) × Unit) → Option (List UInt8)) (zs3 : (List UInt8)) (i4 : Int) : Option (List UInt8) :=
 cond (decide (i4 < (List.length al0 : Int)))
 (cond (decide (zs3.length + ([32] : List UInt8).length ≤ 4294967296))
 (cond (decide (0 ≤ i4))
 (Option.bind (al0[Int.toNat i4]?) fun y5 =>
 Option.bind (g77 y5) fun r6 =>
 cond (decide ((zs3 ++ ([32] : List UInt8)).length + r6.length ≤ 4294967296))
 (nx2 (((zs3 ++ ([32] : List UInt8)) ++ r6,IntKind.wrap .i64 (i4 + 1),()),()))
 (none))
 (none))
 (none))
 (some zs3)
def F38 (L : Lp) (g77 : Int → Option (List UInt8)) (al0 : (List Int)) : Option (List UInt8) :=
 L (fun (s1 : (((List UInt8) × (Int × Unit)) × Unit)) nx2 => l38_0 g77 al0 nx2 s1.1.1 s1.1.2.1) ((([] : List UInt8),0,()),())
theorem e38 (L : Lp) (g77 : Int → Option (List UInt8)) (x : s38.args.den) (h : denH s38.heap) : nrun [⟨77,s77,fun x h => g77 x.1⟩] L n38 s38 x h = F38 L g77 x.1 := by kernel_rfl
def f38 : (List Int) → Option (List UInt8) := F38 (@LN LOOPS) f77
@[reducible] def t38 : Ent := ⟨38,s38,fun x h => f38 x.1⟩
theorem k38 : chkNF Tryz.prog Tryz.f38 n38 = true := by kernel_rfl
theorem ok38 : NOk Tryz.prog t38 := NOk.body (T := [t77]) mixed (nall_cons ok77 nall_nil) (oneEach_of (by kernel_rfl)) Tryz.func38 k38 (by kernel_rfl) (fun x h => e38 _ _ x h)
def n51 : NFunc := ⟨46,.seq (.region 1 [
 o1 1 (.box 4 (tm 0)) 0,
 o1 2 (.move (.const (.str []))) 1] []) (.seq (.region 1 [
 oF 7 0 1 0,
 oL 8 7 0,
 oF 9 1 1 0,
 oL 10 9 0,
 oF 11 2 1 0,
 oL 12 11 0,
 oF 13 3 1 0,
 oL 14 13 0,
 o1 15 (.buildSlice 1 4 true [iz] [(0,(tm 8)),(1,(tm 10)),(2,(tm 12)),(3,(tm 14))]) 0,
 oM 3 15 1] []) (.seq (.region 1 [
 o1 16 (.buildSlice 1 4 true [.str []] [(0,(.const (.str [99,112,117]))),(1,(.const (.str [109,101,109]))),(2,(.const (.str [103,112,117]))),(3,(.const (.str [108,105,99])))]) 0,
 oM 4 16 1] []) (.seq (.region 0 [
 o1 5 (.move (.const (.str []))) 0] []) (.seq (.seq (.region 0 [
 o1 6 (.move (ki 0)) 0] []) (.block 0 (.loop [3,4,5,6] ⟨[(3,(.slw 0 1)),(4,(.slw 1 1)),(5,(.v .str)),(6,vI)],[],[.typed (.int .i64),.typed .str]⟩ (.seq (.seq (.region 0 [
 oM 17 6 0,
 oC 18 .lss 17 4 0] []) (.cond (tm 18) (.skip) (.exit 0))) (.seq (.block 1 (.seq (.seq (.region 0 [
 oM 21 3 0,
 oM 22 6 0,
 o1 23 (.indexSl 1 (tm 21) (tm 22)) 0,
 oL 24 23 0,
 oC 25 .eql 24 0 0] []) (.cond (tm 25) (.exit 1) (.skip))) (.seq (.seq (.region 0 [
 oM 26 5 0,
 o1 27 (.bin .neq (tm 26) (.const (.str []))) 0] []) (.cond (tm 27) (.region 0 [
 oM 28 5 0,
 o1 29 (.bin .add (tm 28) (.const (.str [44]))) 0,
 oM 5 29 0] []) (.skip))) (.region 4 [
 o4 30 (.move (tm 5)) 0 [],
 o4 31 (.move (tm 4)) 0 [],
 o4 32 (.move (tm 6)) 0 [],
 o4 33 (.indexSl 1 (tm 31) (tm 32)) 0 [],
 o4 34 (.load false 1 (tm 33)) 0 [],
 o4 35 (.bin .add (tm 30) (tm 34)) 0 [],
 o4 36 (.bin .add (tm 35) (.const (.str [61]))) 0 [],
 o4 37 (.move (tm 3)) 0 [],
 o4 38 (.move (tm 6)) 0 [],
 o4 39 (.indexSl 1 (tm 37) (tm 38)) 0 [],
 o4 40 (.load false 1 (tm 39)) 0 [],
 o4 41 (.call (fc 77) [(vv 40)] true 4) 0 [],
 o4 42 (.bin .add (tm 36) (tm 41)) 4 [0,1,2,3],
 o4 5 (.move (tm 42)) 4 [0,1,2,3]] [])))) (.region 0 [
 oM 19 6 0,
 oC 20 .add 19 1 0,
 oM 6 20 0] [])))))) (.seq (.seq (.region 0 [
 oM 43 5 0,
 o1 44 (.bin .eql (tm 43) (.const (.str []))) 0] []) (.cond (tm 44) (.seq (.region 0 [
 o1 2 (.move (.const (.str [110,111,110,101]))) 0] []) (.ret)) (.skip))) (.seq (.region 0 [
 oM 45 5 0,
 oM 2 45 0] []) (.ret))))))),[.tmp 2],true⟩
def s51 : Sig := ⟨(.cons (.v .res) .nil),[],((.v .str),[]),[]⟩
def l51_0 (g77 : Int → Option (List UInt8)) (nx2 : ((Unit × (Unit × ((List UInt8) × (Int × Unit)))) × ((List Int) × ((List (List UInt8)) × Unit))) → Option (List UInt8)) (zs3 : (List UInt8)) (i4 : Int) (z5 : (List Int)) (z6 : (List (List UInt8))) : Option (List UInt8) :=
 cond (decide (i4 < 4))
 (cond (decide (0 ≤ i4))
 (cond (decide ((Int.toNat i4) < (List.length z5)))
 (Option.bind (z5[Int.toNat i4]?) fun y7 =>
 cond (decide (y7 = 0))
 (nx2 (((),(),zs3,IntKind.wrap .i64 (i4 + 1),()),(z5,z6,())))
 (cond (!decide (zs3 = ([] : List UInt8)))
 (cond (decide (zs3.length + ([44] : List UInt8).length ≤ 4294967296))
 (cond (decide (0 ≤ i4))
 (cond (decide ((Int.toNat i4) < (List.length z6)))
 (Option.bind (z6[Int.toNat i4]?) fun y8 =>
 cond (decide ((zs3 ++ ([44] : List UInt8)).length + y8.length ≤ 4294967296))
 (cond (decide (((zs3 ++ ([44] : List UInt8)) ++ y8).length + ([61] : List UInt8).length ≤ 4294967296))
 (cond (decide (0 ≤ i4))
 (cond (decide ((Int.toNat i4) < (List.length z5)))
 (Option.bind (z5[Int.toNat i4]?) fun y9 =>
 Option.bind (g77 y9) fun r10 =>
 cond (decide ((((zs3 ++ ([44] : List UInt8)) ++ y8) ++ ([61] : List UInt8)).length + r10.length ≤ 4294967296))
 (nx2 (((),(),(((zs3 ++ ([44] : List UInt8)) ++ y8) ++ ([61] : List UInt8)) ++ r10,IntKind.wrap .i64 (i4 + 1),()),(z5,z6,())))
 (none))
 (none))
 (none))
 (none))
 (none))
 (none))
 (none))
 (none))
 (cond (decide (0 ≤ i4))
 (cond (decide ((Int.toNat i4) < (List.length z6)))
 (Option.bind (z6[Int.toNat i4]?) fun y11 =>
 cond (decide (zs3.length + y11.length ≤ 4294967296))
 (cond (decide ((zs3 ++ y11).length + ([61] : List UInt8).length ≤ 4294967296))
 (cond (decide (0 ≤ i4))
 (cond (decide ((Int.toNat i4) < (List.length z5)))
 (Option.bind (z5[Int.toNat i4]?) fun y12 =>
 Option.bind (g77 y12) fun r13 =>
 cond (decide (((zs3 ++ y11) ++ ([61] : List UInt8)).length + r13.length ≤ 4294967296))
 (nx2 (((),(),((zs3 ++ y11) ++ ([61] : List UInt8)) ++ r13,IntKind.wrap .i64 (i4 + 1),()),(z5,z6,())))
 (none))
 (none))
 (none))
 (none))
 (none))
 (none))
 (none))))
 (none))
 (none))
 (cond (decide (zs3 = ([] : List UInt8)))
 (some ([110,111,110,101] : List UInt8))
 (some zs3))
def F51 (L : Lp) (g77 : Int → Option (List UInt8)) (a0 : Res) : Option (List UInt8) :=
 L (fun (s1 : ((Unit × (Unit × ((List UInt8) × (Int × Unit)))) × ((List Int) × ((List (List UInt8)) × Unit)))) nx2 => l51_0 g77 nx2 s1.1.2.2.1 s1.1.2.2.2.1 s1.2.1 s1.2.2.1) (((),(),([] : List UInt8),0,()),([a0.cpu,a0.mem,a0.gpu,a0.lic],[([99,112,117] : List UInt8),([109,101,109] : List UInt8),([103,112,117] : List UInt8),([108,105,99] : List UInt8)],()))
theorem e51 (L : Lp) (g77 : Int → Option (List UInt8)) (x : s51.args.den) (h : denH s51.heap) : nrun [⟨77,s77,fun x h => g77 x.1⟩] L n51 s51 x h = F51 L g77 x.1 := by kernel_rfl
def f51 : Res → Option (List UInt8) := F51 (@LN LOOPS) f77
@[reducible] def t51 : Ent := ⟨51,s51,fun x h => f51 x.1⟩
theorem k51 : chkNF Tryz.prog Tryz.f51 n51 = true := by kernel_rfl
theorem ok51 : NOk Tryz.prog t51 := NOk.body (T := [t77]) mixed (nall_cons ok77 nall_nil) (oneEach_of (by kernel_rfl)) Tryz.func51 k51 (by kernel_rfl) (fun x h => e51 _ _ x h)
def n138 : NFunc := ⟨19,.seq (.region 0 [
 o1 2 (.move (ki 0)) 0,
 o1 3 (.move (ki 0)) 0,
 o1 4 (.move (ki 0)) 0] []) (.seq (.seq (.region 0 [
 oM 6 0 0,
 oC 7 .lss 6 0 0] []) (.cond (tm 7) (.seq (.region 0 [
 o1 2 (.move (ki 0)) 0,
 o1 3 (.move (ki 0)) 0,
 o1 4 (.move (ki 0)) 0] []) (.ret)) (.skip))) (.seq (.region 0 [
 oM 8 0 0,
 oC 9 .rem 8 3600 0,
 oM 5 9 0] []) (.seq (.region 0 [
 oM 10 0 0,
 oC 11 .quo 10 3600 0,
 oM 12 5 0,
 oC 13 .quo 12 60 0,
 oM 14 5 0,
 oM 15 5 0,
 oC 16 .quo 15 60 0,
 o1 17 (.bin .mul (ki 60) (tm 16)) 0,
 oB 18 .sub 14 17 0,
 oM 2 11 0,
 oM 3 13 0,
 oM 4 18 0] []) (.ret)))),[.tmp 2,.tmp 3,.tmp 4],true⟩
def s138 : Sig := ⟨(.cons (.v (.int .i64)) .nil),[],((.tup (.cons (.v (.int .i64)) (.cons (.v (.int .i64)) (.cons (.v (.int .i64)) .nil)))),[]),[]⟩
def F138 (L : Lp)  (an0 : Int) : Option (Int × (Int × (Int × Unit))) :=
 cond (decide (an0 < 0))
 (some (0,0,0,()))
 (let v1 := IntKind.wrap .i64 ((Int.tmod an0 3600) - (IntKind.wrap .i64 (60 * (IntKind.wrap .i64 (Int.tdiv (Int.tmod an0 3600) 60)))))
 some (IntKind.wrap .i64 (Int.tdiv an0 3600),IntKind.wrap .i64 (Int.tdiv (Int.tmod an0 3600) 60),v1,()))
theorem e138 (L : Lp)  (x : s138.args.den) (h : denH s138.heap) : nrun [] L n138 s138 x h = F138 L  x.1 := by kernel_rfl
def f138 : Int → Option (Int × (Int × (Int × Unit))) := F138 (@LN LOOPS) 
@[reducible] def t138 : Ent := ⟨138,s138,fun x h => f138 x.1⟩
theorem k138 : chkNF Tryz.prog Tryz.f138 n138 = true := by kernel_rfl
theorem ok138 : NOk Tryz.prog t138 := NOk.body (T := []) mixed nall_nil (oneEach_of (by kernel_rfl)) Tryz.func138 k138 (by kernel_rfl) (fun x h => e138 _  x h)
def n139 : NFunc := ⟨10,.seq (.region 0 [
 o1 2 (.move (.const (.str []))) 0] []) (.seq (.seq (.region 0 [
 oM 3 0 0,
 oC 4 .lss 3 10 0] []) (.cond (tm 4) (.seq (.region 4 [
 oM 5 0 0,
 o1 6 (.call (fc 77) [(vv 5)] false 4) 0,
 o1 7 (.bin .add (.const (.str [48])) (tm 6)) 4,
 oM 2 7 4] []) (.ret)) (.skip))) (.seq (.region 4 [
 oM 8 0 0,
 o1 9 (.call (fc 77) [(vv 8)] false 4) 0,
 oM 2 9 4] []) (.ret))),[.tmp 2],true⟩
def s139 : Sig := ⟨(.cons (.v (.int .i64)) .nil),[],((.v .str),[]),[]⟩
def F139 (L : Lp) (g77 : Int → Option (List UInt8)) (an0 : Int) : Option (List UInt8) :=
 cond (decide (an0 < 10))
 (Option.bind (g77 an0) fun r1 =>
 cond (decide (([48] : List UInt8).length + r1.length ≤ 4294967296))
 (some (([48] : List UInt8) ++ r1))
 (none))
 (Option.bind (g77 an0) fun r2 =>
 some r2)
theorem e139 (L : Lp) (g77 : Int → Option (List UInt8)) (x : s139.args.den) (h : denH s139.heap) : nrun [⟨77,s77,fun x h => g77 x.1⟩] L n139 s139 x h = F139 L g77 x.1 := by kernel_rfl
def f139 : Int → Option (List UInt8) := F139 (@LN LOOPS) f77
@[reducible] def t139 : Ent := ⟨139,s139,fun x h => f139 x.1⟩
theorem k139 : chkNF Tryz.prog Tryz.f139 n139 = true := by kernel_rfl
theorem ok139 : NOk Tryz.prog t139 := NOk.body (T := [t77]) mixed (nall_cons ok77 nall_nil) (oneEach_of (by kernel_rfl)) Tryz.func139 k139 (by kernel_rfl) (fun x h => e139 _ _ x h)
def n110 : NFunc := ⟨22,.seq (.region 0 [
 o1 2 (.move (.const (.str []))) 0] []) (.seq (.region 4 [
 oM 7 0 0,
 o1 8 (.call (fc 138) [(vv 7)] false 4) 0,
 oM 6 8 4,
 oX 9 6 0 4,
 oX 10 6 1 4,
 oX 11 6 2 4,
 oM 3 9 4,
 oM 4 10 4,
 oM 5 11 4] []) (.seq (.region 12 [
 oM 12 3 0,
 o1 13 (.call (fc 77) [(vv 12)] false 4) 0,
 o1 14 (.bin .add (tm 13) (.const (.str [58]))) 4,
 oM 15 4 4,
 o1 16 (.call (fc 139) [(vv 15)] false 4) 4,
 oB 17 .add 14 16 8,
 o1 18 (.bin .add (tm 17) (.const (.str [58]))) 8,
 oM 19 5 8,
 o1 20 (.call (fc 139) [(vv 19)] false 4) 8,
 oB 21 .add 18 20 12,
 oM 2 21 12] []) (.ret))),[.tmp 2],true⟩
def s110 : Sig := ⟨(.cons (.v (.int .i64)) .nil),[],((.v .str),[]),[]⟩
def F110 (L : Lp) (g138 : Int → Option (Int × (Int × (Int × Unit)))) (g77 : Int → Option (List UInt8)) (g139 : Int → Option (List UInt8)) (an0 : Int) : Option (List UInt8) :=
 Option.bind (g138 an0) fun r1 =>
 Option.bind (g77 r1.1) fun r2 =>
 cond (decide (r2.length + ([58] : List UInt8).length ≤ 4294967296))
 (Option.bind (g139 r1.2.1) fun r3 =>
 cond (decide ((r2 ++ ([58] : List UInt8)).length + r3.length ≤ 4294967296))
 (cond (decide (((r2 ++ ([58] : List UInt8)) ++ r3).length + ([58] : List UInt8).length ≤ 4294967296))
 (Option.bind (g139 r1.2.2.1) fun r4 =>
 cond (decide ((((r2 ++ ([58] : List UInt8)) ++ r3) ++ ([58] : List UInt8)).length + r4.length ≤ 4294967296))
 (some ((((r2 ++ ([58] : List UInt8)) ++ r3) ++ ([58] : List UInt8)) ++ r4))
 (none))
 (none))
 (none))
 (none)
theorem e110 (L : Lp) (g138 : Int → Option (Int × (Int × (Int × Unit)))) (g77 : Int → Option (List UInt8)) (g139 : Int → Option (List UInt8)) (x : s110.args.den) (h : denH s110.heap) : nrun [⟨138,s138,fun x h => g138 x.1⟩,⟨77,s77,fun x h => g77 x.1⟩,⟨139,s139,fun x h => g139 x.1⟩] L n110 s110 x h = F110 L g138 g77 g139 x.1 := by kernel_rfl
def f110 : Int → Option (List UInt8) := F110 (@LN LOOPS) f138 f77 f139
@[reducible] def t110 : Ent := ⟨110,s110,fun x h => f110 x.1⟩
theorem k110 : chkNF Tryz.prog Tryz.f110 n110 = true := by kernel_rfl
theorem ok110 : NOk Tryz.prog t110 := NOk.body (T := [t138,t77,t139]) mixed (nall_cons ok138 (nall_cons ok77 (nall_cons ok139 nall_nil))) (oneEach_of (by kernel_rfl)) Tryz.func110 k110 (by kernel_rfl) (fun x h => e110 _ _ _ _ x h)
def n78 : NFunc := ⟨17,.seq (.region 1 [
 o1 1 (.box 17 (tm 0)) 0,
 o1 2 (.move (.const (.str []))) 1] []) (.seq (.region 13 [
 o4 3 (.fieldAddr 5 (tm 1)) 0 [],
 o4 4 (.load false 1 (tm 3)) 0 [],
 o4 5 (.buildSlice 1 1 true [iz] [(0,(tm 4))]) 0 [],
 o4 6 (.call (fc 38) [(vv 5)] true 4) 1 [0],
 o4 7 (.bin .add (tm 6) (.const (.str [32]))) 5 [0,1,2,3,4],
 o4 8 (.fieldAddr 6 (tm 1)) 5 [],
 o4 9 (.load true 4 (tm 8)) 5 [],
 o4 10 (.call (fc 51) [(vv 9)] true 4) 5 [0,1,2,3,4],
 o4 11 (.bin .add (tm 7) (tm 10)) 9 [0,1,2,3,4,5,6,7,8],
 o4 12 (.bin .add (tm 11) (.const (.str [32]))) 9 [0,1,2,3,4,5,6,7,8],
 o4 13 (.fieldAddr 10 (tm 1)) 9 [],
 o4 14 (.load false 1 (tm 13)) 9 [],
 o4 15 (.call (fc 110) [(vv 14)] false 4) 9 [0,1,2,3,4,5,6,7,8],
 o4 16 (.bin .add (tm 12) (tm 15)) 13 [0,1,2,3,4,5,6,7,8,9,10,11,12],
 o4 2 (.move (tm 16)) 13 [0,1,2,3,4,5,6,7,8,9,10,11,12]] []) (.ret)),[.tmp 2],true⟩
def s78 : Sig := ⟨(.cons (.v .request) .nil),[],((.v .str),[]),[]⟩
def F78 (L : Lp) (g38 : (List Int) → Option (List UInt8)) (g51 : Res → Option (List UInt8)) (g110 : Int → Option (List UInt8)) (ar0 : Request) : Option (List UInt8) :=
 Option.bind (g38 [ar0.many]) fun r1 =>
 cond (decide (r1.length + ([32] : List UInt8).length ≤ 4294967296))
 (Option.bind (g51 ar0.need) fun r2 =>
 cond (decide ((r1 ++ ([32] : List UInt8)).length + r2.length ≤ 4294967296))
 (cond (decide (((r1 ++ ([32] : List UInt8)) ++ r2).length + ([32] : List UInt8).length ≤ 4294967296))
 (Option.bind (g110 ar0.wall) fun r3 =>
 cond (decide ((((r1 ++ ([32] : List UInt8)) ++ r2) ++ ([32] : List UInt8)).length + r3.length ≤ 4294967296))
 (some ((((r1 ++ ([32] : List UInt8)) ++ r2) ++ ([32] : List UInt8)) ++ r3))
 (none))
 (none))
 (none))
 (none)
theorem e78 (L : Lp) (g38 : (List Int) → Option (List UInt8)) (g51 : Res → Option (List UInt8)) (g110 : Int → Option (List UInt8)) (x : s78.args.den) (h : denH s78.heap) : nrun [⟨38,s38,fun x h => g38 x.1⟩,⟨51,s51,fun x h => g51 x.1⟩,⟨110,s110,fun x h => g110 x.1⟩] L n78 s78 x h = F78 L g38 g51 g110 x.1 := by kernel_rfl
def f78 : Request → Option (List UInt8) := F78 (@LN LOOPS) f38 f51 f110
@[reducible] def t78 : Ent := ⟨78,s78,fun x h => f78 x.1⟩
theorem k78 : chkNF Tryz.prog Tryz.f78 n78 = true := by kernel_rfl
theorem ok78 : NOk Tryz.prog t78 := NOk.body (T := [t38,t51,t110]) mixed (nall_cons ok38 (nall_cons ok51 (nall_cons ok110 nall_nil))) (oneEach_of (by kernel_rfl)) Tryz.func78 k78 (by kernel_rfl) (fun x h => e78 _ _ _ _ x h)
def n39 : NFunc := ⟨135,.seq (.region 1 [
 o1 1 (.box 17 (tm 0)) 0,
 o1 2 (.move (.const (.str []))) 1] []) (.split 1 0 13 (.seq (.region 1 [
 o1 6 (.buildSlice 1 13 true [.str []] [(0,(.const (.str []))),(1,(.const (.str [115,117,98,109,105,116]))),(2,(.const (.str [109,111,100,105,102,121]))),(3,(.const (.str [104,111,108,100]))),(4,(.const (.str [114,101,108,101,97,115,101]))),(5,(.const (.str [99,97,110,99,101,108]))),(6,(.const (.str [114,101,113,117,101,117,101]))),(7,(.const (.str [109,111,118,101]))),(8,(.const (.str [106,111,98]))),(9,(.const (.str [113,117,101,117,101]))),(10,(.const (.str [110,111,100,101,115]))),(11,(.const (.str [114,101,115,101,114,118,101]))),(12,(.const (.str [117,110,114,101,115,101,114,118,101])))]) 0,
 oM 3 6 1] []) (.seq (.region 5 [
 o4 7 (.move (tm 3)) 0 [],
 o4 8 (.fieldAddr 0 (tm 1)) 0 [],
 o4 9 (.load false 1 (tm 8)) 0 [],
 o4 10 (.indexSl 1 (tm 7) (tm 9)) 0 [],
 o4 11 (.load false 1 (tm 10)) 0 [],
 o4 12 (.fieldAddr 1 (tm 1)) 0 [],
 o4 13 (.load false 1 (tm 12)) 0 [],
 o4 14 (.buildSlice 1 1 true [iz] [(0,(tm 13))]) 0 [],
 o4 15 (.call (fc 38) [(vv 14)] true 4) 1 [0],
 o4 16 (.bin .add (tm 11) (tm 15)) 5 [0,1,2,3,4],
 o4 4 (.move (tm 16)) 5 [0,1,2,3,4]] []) (.seq (.seq (.region 0 [
 oF 17 0 1 0,
 oL 18 17 0] []) (.block 0 (.seq (.region 0 [
 oC 20 .eql 18 1 0,
 oM 19 20 0] []) (.cond (tm 19) (.seq (.region 14 [
 o4 21 (.move (tm 4)) 0 [],
 o4 22 (.fieldAddr 4 (tm 1)) 0 [],
 o4 23 (.load false 1 (tm 22)) 0 [],
 o4 24 (.buildSlice 1 1 true [iz] [(0,(tm 23))]) 0 [],
 o4 25 (.call (fc 38) [(vv 24)] true 4) 1 [0],
 o4 26 (.bin .add (tm 21) (tm 25)) 5 [0,1,2,3,4],
 o4 27 (.load true 17 (tm 1)) 5 [],
 o4 28 (.call (fc 78) [(vv 27)] true 4) 5 [0,1,2,3,4],
 o4 29 (.bin .add (tm 26) (tm 28)) 9 [0,1,2,3,4,5,6,7,8],
 o4 30 (.fieldAddr 11 (tm 1)) 9 [],
 o4 31 (.load false 1 (tm 30)) 9 [],
 o4 32 (.buildSlice 1 1 true [iz] [(0,(tm 31))]) 9 [],
 o4 33 (.call (fc 38) [(vv 32)] false 4) 10 [0,1,2,3,4,5,6,7,8,9],
 o4 34 (.bin .add (tm 29) (tm 33)) 14 [0,1,2,3,4,5,6,7,8,9,10,11,12,13],
 o4 4 (.move (tm 34)) 14 [0,1,2,3,4,5,6,7,8,9,10,11,12,13]] []) (.seq (.region 0 [
 o1 5 (.move (ki 0)) 0] []) (.block 1 (.loop [1,4,5] ⟨[(1,(.ptr 0 0 0)),(4,(.v .str)),(5,vI)],[],[.one false .request]⟩ (.seq (.seq (.region 0 [
 oM 35 5 0,
 oF 36 12 1 0,
 oL 37 36 0,
 o1 38 (.len (tm 37)) 0,
 oB 39 .lss 35 38 0] []) (.cond (tm 39) (.skip) (.exit 1))) (.seq (.block 2 (.seq (.region 5 [
 oM 42 4 0,
 oF 43 12 1 0,
 oL 44 43 0,
 oM 45 5 0,
 o1 46 (.indexSl 2 (tm 44) (tm 45)) 0,
 oF 47 0 46 0,
 oL 48 47 0,
 o1 49 (.buildSlice 1 1 true [iz] [(0,(tm 48))]) 0,
 o1 50 (.call (fc 38) [(vv 49)] false 4) 1,
 oB 51 .add 42 50 5,
 oM 4 51 5] []) (.seq (.region 0 [
 oF 52 12 1 0,
 oL 53 52 0,
 oM 54 5 0,
 o1 55 (.indexSl 2 (tm 53) (tm 54)) 0,
 oF 56 1 55 0,
 oL 57 56 0] []) (.cond (tm 57) (.region 0 [
 oM 58 4 0,
 o1 59 (.bin .add (tm 58) (.const (.str [33]))) 0,
 oM 4 59 0] []) (.skip))))) (.region 0 [
 oM 40 5 0,
 oC 41 .add 40 1 0,
 oM 5 41 0] []))))))) (.seq (.region 0 [
 oC 61 .eql 18 2 0,
 oM 60 61 0] []) (.cond (tm 60) (.region 9 [
 o4 62 (.move (tm 4)) 0 [],
 o4 63 (.fieldAddr 2 (tm 1)) 0 [],
 o4 64 (.load false 1 (tm 63)) 0 [],
 o4 65 (.fieldAddr 3 (tm 1)) 0 [],
 o4 66 (.load false 1 (tm 65)) 0 [],
 o4 67 (.buildSlice 1 2 true [iz] [(0,(tm 64)),(1,(tm 66))]) 0 [],
 o4 68 (.call (fc 38) [(vv 67)] true 4) 1 [0],
 o4 69 (.bin .add (tm 62) (tm 68)) 5 [0,1,2,3,4],
 o4 70 (.load true 17 (tm 1)) 5 [],
 o4 71 (.call (fc 78) [(vv 70)] false 4) 5 [0,1,2,3,4],
 o4 72 (.bin .add (tm 69) (tm 71)) 9 [0,1,2,3,4,5,6,7,8],
 o4 4 (.move (tm 72)) 9 [0,1,2,3,4,5,6,7,8]] []) (.seq (.seq (.region 0 [
 oC 74 .eql 18 3 0,
 oM 73 74 0] []) (.cond (tm 73) (.skip) (.seq (.region 0 [
 oC 75 .eql 18 4 0,
 oM 73 75 0] []) (.cond (tm 73) (.skip) (.seq (.region 0 [
 oC 76 .eql 18 5 0,
 oM 73 76 0] []) (.cond (tm 73) (.skip) (.region 0 [
 oC 77 .eql 18 6 0,
 oM 73 77 0] []))))))) (.cond (tm 73) (.region 5 [
 oM 78 4 0,
 oF 79 2 1 0,
 oL 80 79 0,
 oF 81 3 1 0,
 oL 82 81 0,
 o1 83 (.buildSlice 1 2 true [iz] [(0,(tm 80)),(1,(tm 82))]) 0,
 o1 84 (.call (fc 38) [(vv 83)] false 4) 1,
 oB 85 .add 78 84 5,
 oM 4 85 5] []) (.seq (.region 0 [
 oC 87 .eql 18 7 0,
 oM 86 87 0] []) (.cond (tm 86) (.region 5 [
 oM 88 4 0,
 oF 89 2 1 0,
 oL 90 89 0,
 oF 91 3 1 0,
 oL 92 91 0,
 oF 93 4 1 0,
 oL 94 93 0,
 o1 95 (.buildSlice 1 3 true [iz] [(0,(tm 90)),(1,(tm 92)),(2,(tm 94))]) 0,
 o1 96 (.call (fc 38) [(vv 95)] false 4) 1,
 oB 97 .add 88 96 5,
 oM 4 97 5] []) (.seq (.region 0 [
 oC 99 .eql 18 8 0,
 oM 98 99 0] []) (.cond (tm 98) (.region 5 [
 oM 100 4 0,
 oF 101 2 1 0,
 oL 102 101 0,
 o1 103 (.buildSlice 1 1 true [iz] [(0,(tm 102))]) 0,
 o1 104 (.call (fc 38) [(vv 103)] false 4) 1,
 oB 105 .add 100 104 5,
 oM 4 105 5] []) (.seq (.region 0 [
 oC 107 .eql 18 9 0,
 oM 106 107 0] []) (.cond (tm 106) (.region 5 [
 oM 108 4 0,
 oF 109 4 1 0,
 oL 110 109 0,
 o1 111 (.buildSlice 1 1 true [iz] [(0,(tm 110))]) 0,
 o1 112 (.call (fc 38) [(vv 111)] false 4) 1,
 oB 113 .add 108 112 5,
 oM 4 113 5] []) (.seq (.region 0 [
 oC 115 .eql 18 11 0,
 oM 114 115 0] []) (.cond (tm 114) (.region 5 [
 oM 116 4 0,
 oF 117 13 1 0,
 oL 118 117 0,
 oF 119 14 1 0,
 oL 120 119 0,
 oF 121 15 1 0,
 oL 122 121 0,
 o1 123 (.buildSlice 1 3 true [iz] [(0,(tm 118)),(1,(tm 120)),(2,(tm 122))]) 0,
 o1 124 (.call (fc 38) [(vv 123)] false 4) 1,
 oB 125 .add 116 124 5,
 oM 4 125 5] []) (.seq (.region 0 [
 oC 127 .eql 18 12 0,
 oM 126 127 0] []) (.cond (tm 126) (.region 5 [
 oM 128 4 0,
 oF 129 16 1 0,
 oL 130 129 0,
 o1 131 (.buildSlice 1 1 true [iz] [(0,(tm 130))]) 0,
 o1 132 (.call (fc 38) [(vv 131)] false 4) 1,
 oB 133 .add 128 132 5,
 oM 4 133 5] []) (.skip))))))))))))))))))) (.seq (.region 0 [
 oM 134 4 0,
 oM 2 134 0] []) (.ret)))))),[.tmp 2],true⟩
def s39 : Sig := ⟨(.cons (.v .request) .nil),[],((.v .str),[]),[]⟩
def l39_0 (g38 : (List Int) → Option (List UInt8)) (nx28 : ((Unit × ((List UInt8) × (Int × Unit))) × (Request × Unit)) → Option (List UInt8)) (zs29 : (List UInt8)) (i30 : Int) (z31 : Request) : Option (List UInt8) :=
 cond (decide (i30 < (List.length z31.after : Int)))
 (cond (decide (0 ≤ i30))
 (Option.bind (z31.after[Int.toNat i30]?) fun y32 =>
 Option.bind (g38 [y32.job]) fun r33 =>
 cond (decide (zs29.length + r33.length ≤ 4294967296))
 (cond (decide (0 ≤ i30))
 (Option.bind (z31.after[Int.toNat i30]?) fun y34 =>
 cond y34.ok
 (cond (decide ((zs29 ++ r33).length + ([33] : List UInt8).length ≤ 4294967296))
 (nx28 (((),(zs29 ++ r33) ++ ([33] : List UInt8),IntKind.wrap .i64 (i30 + 1),()),(z31,())))
 (none))
 (nx28 (((),zs29 ++ r33,IntKind.wrap .i64 (i30 + 1),()),(z31,()))))
 (none))
 (none))
 (none))
 (some zs29)
def F39 (L : Lp) (g38 : (List Int) → Option (List UInt8)) (g78 : Request → Option (List UInt8)) (ar0 : Request) : Option (List UInt8) :=
 cond (decide (ar0.kind = 12))
 (Option.bind (g38 [ar0.key]) fun r1 =>
 cond (decide (([117,110,114,101,115,101,114,118,101] : List UInt8).length + r1.length ≤ 4294967296))
 (Option.bind (g38 [ar0.id]) fun r2 =>
 cond (decide ((([117,110,114,101,115,101,114,118,101] : List UInt8) ++ r1).length + r2.length ≤ 4294967296))
 (some ((([117,110,114,101,115,101,114,118,101] : List UInt8) ++ r1) ++ r2))
 (none))
 (none))
 (cond (decide (ar0.kind = 11))
 (Option.bind (g38 [ar0.key]) fun r3 =>
 cond (decide (([114,101,115,101,114,118,101] : List UInt8).length + r3.length ≤ 4294967296))
 (Option.bind (g38 [ar0.node,ar0.fro,ar0.to]) fun r4 =>
 cond (decide ((([114,101,115,101,114,118,101] : List UInt8) ++ r3).length + r4.length ≤ 4294967296))
 (some ((([114,101,115,101,114,118,101] : List UInt8) ++ r3) ++ r4))
 (none))
 (none))
 (cond (decide (ar0.kind = 10))
 (Option.bind (g38 [ar0.key]) fun r5 =>
 cond (decide (([110,111,100,101,115] : List UInt8).length + r5.length ≤ 4294967296))
 (some (([110,111,100,101,115] : List UInt8) ++ r5))
 (none))
 (cond (decide (ar0.kind = 9))
 (Option.bind (g38 [ar0.key]) fun r6 =>
 cond (decide (([113,117,101,117,101] : List UInt8).length + r6.length ≤ 4294967296))
 (Option.bind (g38 [ar0.queue]) fun r7 =>
 cond (decide ((([113,117,101,117,101] : List UInt8) ++ r6).length + r7.length ≤ 4294967296))
 (some ((([113,117,101,117,101] : List UInt8) ++ r6) ++ r7))
 (none))
 (none))
 (cond (decide (ar0.kind = 8))
 (Option.bind (g38 [ar0.key]) fun r8 =>
 cond (decide (([106,111,98] : List UInt8).length + r8.length ≤ 4294967296))
 (Option.bind (g38 [ar0.job]) fun r9 =>
 cond (decide ((([106,111,98] : List UInt8) ++ r8).length + r9.length ≤ 4294967296))
 (some ((([106,111,98] : List UInt8) ++ r8) ++ r9))
 (none))
 (none))
 (cond (decide (ar0.kind = 7))
 (Option.bind (g38 [ar0.key]) fun r10 =>
 cond (decide (([109,111,118,101] : List UInt8).length + r10.length ≤ 4294967296))
 (Option.bind (g38 [ar0.job,ar0.version,ar0.queue]) fun r11 =>
 cond (decide ((([109,111,118,101] : List UInt8) ++ r10).length + r11.length ≤ 4294967296))
 (some ((([109,111,118,101] : List UInt8) ++ r10) ++ r11))
 (none))
 (none))
 (cond (decide (ar0.kind = 6))
 (Option.bind (g38 [ar0.key]) fun r12 =>
 cond (decide (([114,101,113,117,101,117,101] : List UInt8).length + r12.length ≤ 4294967296))
 (Option.bind (g38 [ar0.job,ar0.version]) fun r13 =>
 cond (decide ((([114,101,113,117,101,117,101] : List UInt8) ++ r12).length + r13.length ≤ 4294967296))
 (some ((([114,101,113,117,101,117,101] : List UInt8) ++ r12) ++ r13))
 (none))
 (none))
 (cond (decide (ar0.kind = 5))
 (Option.bind (g38 [ar0.key]) fun r14 =>
 cond (decide (([99,97,110,99,101,108] : List UInt8).length + r14.length ≤ 4294967296))
 (Option.bind (g38 [ar0.job,ar0.version]) fun r15 =>
 cond (decide ((([99,97,110,99,101,108] : List UInt8) ++ r14).length + r15.length ≤ 4294967296))
 (some ((([99,97,110,99,101,108] : List UInt8) ++ r14) ++ r15))
 (none))
 (none))
 (cond (decide (ar0.kind = 4))
 (Option.bind (g38 [ar0.key]) fun r16 =>
 cond (decide (([114,101,108,101,97,115,101] : List UInt8).length + r16.length ≤ 4294967296))
 (Option.bind (g38 [ar0.job,ar0.version]) fun r17 =>
 cond (decide ((([114,101,108,101,97,115,101] : List UInt8) ++ r16).length + r17.length ≤ 4294967296))
 (some ((([114,101,108,101,97,115,101] : List UInt8) ++ r16) ++ r17))
 (none))
 (none))
 (cond (decide (ar0.kind = 3))
 (Option.bind (g38 [ar0.key]) fun r18 =>
 cond (decide (([104,111,108,100] : List UInt8).length + r18.length ≤ 4294967296))
 (Option.bind (g38 [ar0.job,ar0.version]) fun r19 =>
 cond (decide ((([104,111,108,100] : List UInt8) ++ r18).length + r19.length ≤ 4294967296))
 (some ((([104,111,108,100] : List UInt8) ++ r18) ++ r19))
 (none))
 (none))
 (cond (decide (ar0.kind = 2))
 (Option.bind (g38 [ar0.key]) fun r20 =>
 cond (decide (([109,111,100,105,102,121] : List UInt8).length + r20.length ≤ 4294967296))
 (Option.bind (g38 [ar0.job,ar0.version]) fun r21 =>
 cond (decide ((([109,111,100,105,102,121] : List UInt8) ++ r20).length + r21.length ≤ 4294967296))
 (Option.bind (g78 (Request.mk 2 ar0.key ar0.job ar0.version ar0.queue ar0.many ar0.need ar0.wall ar0.tasks ar0.after ar0.node ar0.fro ar0.to ar0.id)) fun r22 =>
 cond (decide (((([109,111,100,105,102,121] : List UInt8) ++ r20) ++ r21).length + r22.length ≤ 4294967296))
 (some (((([109,111,100,105,102,121] : List UInt8) ++ r20) ++ r21) ++ r22))
 (none))
 (none))
 (none))
 (cond (decide (ar0.kind = 1))
 (Option.bind (g38 [ar0.key]) fun r23 =>
 cond (decide (([115,117,98,109,105,116] : List UInt8).length + r23.length ≤ 4294967296))
 (Option.bind (g38 [ar0.queue]) fun r24 =>
 cond (decide ((([115,117,98,109,105,116] : List UInt8) ++ r23).length + r24.length ≤ 4294967296))
 (Option.bind (g78 (Request.mk 1 ar0.key ar0.job ar0.version ar0.queue ar0.many ar0.need ar0.wall ar0.tasks ar0.after ar0.node ar0.fro ar0.to ar0.id)) fun r25 =>
 cond (decide (((([115,117,98,109,105,116] : List UInt8) ++ r23) ++ r24).length + r25.length ≤ 4294967296))
 (Option.bind (g38 [ar0.tasks]) fun r26 =>
 cond (decide ((((([115,117,98,109,105,116] : List UInt8) ++ r23) ++ r24) ++ r25).length + r26.length ≤ 4294967296))
 (L (fun (s27 : ((Unit × ((List UInt8) × (Int × Unit))) × (Request × Unit))) nx28 => l39_0 g38 nx28 s27.1.2.1 s27.1.2.2.1 s27.2.1) (((),(((([115,117,98,109,105,116] : List UInt8) ++ r23) ++ r24) ++ r25) ++ r26,0,()),(Request.mk 1 ar0.key ar0.job ar0.version ar0.queue ar0.many ar0.need ar0.wall ar0.tasks ar0.after ar0.node ar0.fro ar0.to ar0.id,())))
 (none))
 (none))
 (none))
 (none))
 (cond (decide (ar0.kind = 0))
 (Option.bind (g38 [ar0.key]) fun r35 =>
 cond (decide (([] : List UInt8).length + r35.length ≤ 4294967296))
 (some (([] : List UInt8) ++ r35))
 (none))
 (none)))))))))))))
theorem e39 (L : Lp) (g38 : (List Int) → Option (List UInt8)) (g78 : Request → Option (List UInt8)) (x : s39.args.den) (h : denH s39.heap) : nrun [⟨38,s38,fun x h => g38 x.1⟩,⟨78,s78,fun x h => g78 x.1⟩] L n39 s39 x h = F39 L g38 g78 x.1 := by kernel_rfl
def f39 : Request → Option (List UInt8) := F39 (@LN LOOPS) f38 f78
@[reducible] def t39 : Ent := ⟨39,s39,fun x h => f39 x.1⟩
theorem k39 : chkNF Tryz.prog Tryz.f39 n39 = true := by kernel_rfl
theorem ok39 : NOk Tryz.prog t39 := NOk.body (T := [t38,t78]) mixed (nall_cons ok38 (nall_cons ok78 nall_nil)) (oneEach_of (by kernel_rfl)) Tryz.func39 k39 (by kernel_rfl) (fun x h => e39 _ _ _ x h)
def n40 : NFunc := ⟨36,.seq (.region 0 [
 o1 2 (.move (.const (.str []))) 0] []) (.seq (.region 0 [
 o1 3 (.move (.const (.str [48,49,50,51,52,53,54,55,56,57,97,98,99,100,101,102]))) 0] []) (.seq (.region 0 [
 o1 4 (.move (.const (.zsl))) 0] []) (.seq (.seq (.region 0 [
 o1 5 (.move (ki 0)) 0] []) (.block 0 (.pre [0,3,4,5] [.mat 4 1 true] (.loop [0,3,4,5] ⟨[(4,(.slw 0 1)),(5,vI)],[0,3],[.typed (.int .u8)]⟩ (.seq (.seq (.region 0 [
 oM 6 5 0,
 oM 7 0 0,
 o1 8 (.len (tm 7)) 0,
 oB 9 .lss 6 8 0] []) (.cond (tm 9) (.skip) (.exit 0))) (.seq (.block 1 (.seq (.region 2 [
 oM 12 4 0,
 oM 13 3 0,
 oM 14 0 0,
 oM 15 5 0,
 o1 16 (.indexSl 1 (tm 14) (tm 15)) 0,
 oL 17 16 0,
 o1 18 (.conv .i64 (tm 17)) 0,
 oC 19 .quo 18 16 0,
 o1 20 (.indexStr (tm 13) (tm 19)) 0,
 o1 21 (.buildSlice 1 1 true [.int .u8 (0)] [(0,(tm 20))]) 0,
 o1 22 (.append 1 1 true (tm 12) (tm 21)) 1,
 oM 4 22 2] []) (.region 2 [
 oM 23 4 0,
 oM 24 3 0,
 oM 25 0 0,
 oM 26 5 0,
 o1 27 (.indexSl 1 (tm 25) (tm 26)) 0,
 oL 28 27 0,
 o1 29 (.conv .i64 (tm 28)) 0,
 oC 30 .rem 29 16 0,
 o1 31 (.indexStr (tm 24) (tm 30)) 0,
 o1 32 (.buildSlice 1 1 true [.int .u8 (0)] [(0,(tm 31))]) 0,
 o1 33 (.append 1 1 true (tm 23) (tm 32)) 1,
 oM 4 33 2] []))) (.region 0 [
 oM 10 5 0,
 oC 11 .add 10 1 0,
 oM 5 11 0] []))))))) (.seq (.region 0 [
 oM 34 4 0,
 o1 35 (.load false 0 (tm 34)) 0,
 oM 2 35 0] []) (.ret))))),[.tmp 2],true⟩
def s40 : Sig := ⟨(.cons (.v (.list (.int .u8))) .nil),[],((.v .str),[]),[]⟩
def l40_0 (b0 : (List Int)) (nx2 : ((Unit × (Int × Unit)) × ((List Int) × Unit)) → Option (List UInt8)) (i3 : Int) (z4 : (List Int)) : Option (List UInt8) :=
 cond (decide (i3 < (List.length b0 : Int)))
 (cond (decide (0 ≤ i3))
 (Option.bind (b0[Int.toNat i3]?) fun y5 =>
 cond (decide (0 ≤ (IntKind.wrap .i64 (Int.tdiv (IntKind.wrap .i64 (y5)) 16))))
 (Option.bind (([48,49,50,51,52,53,54,55,56,57,97,98,99,100,101,102] : List UInt8)[Int.toNat (IntKind.wrap .i64 (Int.tdiv (IntKind.wrap .i64 (y5)) 16))]?) fun c6 =>
 cond (smallB ((List.length z4) + 1) 1)
 (cond (decide (0 ≤ i3))
 (Option.bind (b0[Int.toNat i3]?) fun y7 =>
 cond (decide (0 ≤ (Int.tmod (IntKind.wrap .i64 (y7)) 16)))
 (Option.bind (([48,49,50,51,52,53,54,55,56,57,97,98,99,100,101,102] : List UInt8)[Int.toNat (Int.tmod (IntKind.wrap .i64 (y7)) 16)]?) fun c8 =>
 cond (smallB ((List.length (z4 ++ [(c6.toNat : Int)])) + 1) 1)
 (nx2 (((),IntKind.wrap .i64 (i3 + 1),()),((z4 ++ [(c6.toNat : Int)]) ++ [(c8.toNat : Int)],())))
 (none))
 (none))
 (none))
 (none))
 (none))
 (none))
 (Option.bind (nbytes z4) fun s9 =>
 some s9)
def F40 (L : Lp)  (b0 : (List Int)) : Option (List UInt8) :=
 L (fun (s1 : ((Unit × (Int × Unit)) × ((List Int) × Unit))) nx2 => l40_0 b0 nx2 s1.1.2.1 s1.2.1) (((),0,()),([],()))
theorem e40 (L : Lp)  (x : s40.args.den) (h : denH s40.heap) : nrun [] L n40 s40 x h = F40 L  x.1 := by kernel_rfl
def f40 : (List Int) → Option (List UInt8) := F40 (@LN LOOPS) 
@[reducible] def t40 : Ent := ⟨40,s40,fun x h => f40 x.1⟩
theorem k40 : chkNF Tryz.prog Tryz.f40 n40 = true := by kernel_rfl
theorem ok40 : NOk Tryz.prog t40 := NOk.body (T := []) mixed nall_nil (oneEach_of (by kernel_rfl)) Tryz.func40 k40 (by kernel_rfl) (fun x h => e40 _  x h)
def n41 : NFunc := ⟨4,.seq (.region 0 [
 o1 2 (.move (.const (.str []))) 0] []) (.seq (.seq (.region 0 [
 oM 3 0 0] []) (.cond (tm 3) (.seq (.region 0 [
 o1 2 (.move (.const (.str [32,107,101,101,112]))) 0] []) (.ret)) (.skip))) (.seq (.region 0 [
 o1 2 (.move (.const (.str []))) 0] []) (.ret))),[.tmp 2],true⟩
def s41 : Sig := ⟨(.cons (.v .bool) .nil),[],((.v .str),[]),[]⟩
def F41 (L : Lp)  (is0 : Bool) : Option (List UInt8) :=
 cond is0
 (some ([32,107,101,101,112] : List UInt8))
 (some ([] : List UInt8))
theorem e41 (L : Lp)  (x : s41.args.den) (h : denH s41.heap) : nrun [] L n41 s41 x h = F41 L  x.1 := by kernel_rfl
def f41 : Bool → Option (List UInt8) := F41 (@LN LOOPS) 
@[reducible] def t41 : Ent := ⟨41,s41,fun x h => f41 x.1⟩
theorem k41 : chkNF Tryz.prog Tryz.f41 n41 = true := by kernel_rfl
theorem ok41 : NOk Tryz.prog t41 := NOk.body (T := []) mixed nall_nil (oneEach_of (by kernel_rfl)) Tryz.func41 k41 (by kernel_rfl) (fun x h => e41 _  x h)
def n14 : NFunc := ⟨93,.seq (.region 1 [
 o1 1 (.box 24 (tm 0)) 0,
 o1 2 (.move (.const (.str []))) 1] []) (.seq (.seq (.region 0 [
 oF 3 0 1 0,
 oL 4 3 0] []) (.block 0 (.seq (.region 0 [
 oC 6 .eql 4 1 0,
 oM 5 6 0] []) (.cond (tm 5) (.seq (.region 9 [
 o4 7 (.fieldAddr 1 (tm 1)) 0 [],
 o4 8 (.load false 1 (tm 7)) 0 [],
 o4 9 (.buildSlice 1 1 true [iz] [(0,(tm 8))]) 0 [],
 o4 10 (.call (fc 38) [(vv 9)] true 4) 1 [0],
 o4 11 (.bin .add (.const (.str [115,101,110,100])) (tm 10)) 5 [0,1,2,3,4],
 o4 12 (.bin .add (tm 11) (.const (.str [32]))) 5 [0,1,2,3,4],
 o4 13 (.fieldAddr 2 (tm 1)) 5 [],
 o4 14 (.load true 17 (tm 13)) 5 [],
 o4 15 (.call (fc 39) [(vv 14)] false 4) 5 [0,1,2,3,4],
 o4 16 (.bin .add (tm 12) (tm 15)) 9 [0,1,2,3,4,5,6,7,8],
 o4 2 (.move (tm 16)) 9 [0,1,2,3,4,5,6,7,8]] []) (.ret)) (.seq (.region 0 [
 oC 18 .eql 4 2 0,
 oM 17 18 0] []) (.cond (tm 17) (.seq (.region 9 [
 o4 19 (.fieldAddr 1 (tm 1)) 0 [],
 o4 20 (.load false 1 (tm 19)) 0 [],
 o4 21 (.buildSlice 1 1 true [iz] [(0,(tm 20))]) 0 [],
 o4 22 (.call (fc 38) [(vv 21)] true 4) 1 [0],
 o4 23 (.bin .add (.const (.str [114,97,119])) (tm 22)) 5 [0,1,2,3,4],
 o4 24 (.bin .add (tm 23) (.const (.str [32]))) 5 [0,1,2,3,4],
 o4 25 (.fieldAddr 19 (tm 1)) 5 [],
 o4 26 (.load false 1 (tm 25)) 5 [],
 o4 27 (.call (fc 40) [(vv 26)] false 4) 5 [0,1,2,3,4],
 o4 28 (.bin .add (tm 24) (tm 27)) 9 [0,1,2,3,4,5,6,7,8],
 o4 2 (.move (tm 28)) 9 [0,1,2,3,4,5,6,7,8]] []) (.ret)) (.seq (.region 0 [
 oC 30 .eql 4 3 0,
 oM 29 30 0] []) (.cond (tm 29) (.seq (.region 9 [
 o4 31 (.fieldAddr 1 (tm 1)) 0 [],
 o4 32 (.load false 1 (tm 31)) 0 [],
 o4 33 (.fieldAddr 20 (tm 1)) 0 [],
 o4 34 (.load false 1 (tm 33)) 0 [],
 o4 35 (.buildSlice 1 2 true [iz] [(0,(tm 32)),(1,(tm 34))]) 0 [],
 o4 36 (.call (fc 38) [(vv 35)] true 4) 1 [0],
 o4 37 (.bin .add (.const (.str [97,114,114,105,118,101])) (tm 36)) 5 [0,1,2,3,4],
 o4 38 (.fieldAddr 21 (tm 1)) 5 [],
 o4 39 (.load false 1 (tm 38)) 5 [],
 o4 40 (.call (fc 41) [(vv 39)] false 4) 5 [0,1,2,3,4],
 o4 41 (.bin .add (tm 37) (tm 40)) 9 [0,1,2,3,4,5,6,7,8],
 o4 2 (.move (tm 41)) 9 [0,1,2,3,4,5,6,7,8]] []) (.ret)) (.seq (.region 0 [
 oC 43 .eql 4 4 0,
 oM 42 43 0] []) (.cond (tm 42) (.seq (.region 5 [
 oF 44 1 1 0,
 oL 45 44 0,
 oF 46 20 1 0,
 oL 47 46 0,
 o1 48 (.buildSlice 1 2 true [iz] [(0,(tm 45)),(1,(tm 47))]) 0,
 o1 49 (.call (fc 38) [(vv 48)] false 4) 1,
 o1 50 (.bin .add (.const (.str [108,111,115,101])) (tm 49)) 5,
 oM 2 50 5] []) (.ret)) (.seq (.region 0 [
 oC 52 .eql 4 5 0,
 oM 51 52 0] []) (.cond (tm 51) (.seq (.region 0 [
 o1 2 (.move (.const (.str [99,108,111,115,101]))) 0] []) (.ret)) (.seq (.region 0 [
 oC 54 .eql 4 6 0,
 oM 53 54 0] []) (.cond (tm 53) (.seq (.region 0 [
 o1 2 (.move (.const (.str [99,121,99,108,101]))) 0] []) (.ret)) (.seq (.region 0 [
 oC 56 .eql 4 7 0,
 oM 55 56 0] []) (.cond (tm 55) (.seq (.region 0 [
 o1 2 (.move (.const (.str [116,105,99,107]))) 0] []) (.ret)) (.seq (.region 0 [
 oC 58 .eql 4 8 0,
 oM 57 58 0] []) (.cond (tm 57) (.seq (.seq (.region 0 [
 oF 59 23 1 0,
 oL 60 59 0] []) (.cond (tm 60) (.seq (.region 5 [
 oF 61 22 1 0,
 oL 62 61 0,
 o1 63 (.buildSlice 1 1 true [iz] [(0,(tm 62))]) 0,
 o1 64 (.call (fc 38) [(vv 63)] false 4) 1,
 o1 65 (.bin .add (.const (.str [101,120,105,116])) (tm 64)) 5,
 o1 66 (.bin .add (tm 65) (.const (.str [32,111,107]))) 5,
 oM 2 66 5] []) (.ret)) (.skip))) (.seq (.region 5 [
 oF 67 22 1 0,
 oL 68 67 0,
 o1 69 (.buildSlice 1 1 true [iz] [(0,(tm 68))]) 0,
 o1 70 (.call (fc 38) [(vv 69)] false 4) 1,
 o1 71 (.bin .add (.const (.str [101,120,105,116])) (tm 70)) 5,
 o1 72 (.bin .add (tm 71) (.const (.str [32,102,97,105,108,101,100]))) 5,
 oM 2 72 5] []) (.ret))) (.seq (.region 0 [
 oC 74 .eql 4 9 0,
 oM 73 74 0] []) (.cond (tm 73) (.seq (.region 9 [
 o4 75 (.fieldAddr 1 (tm 1)) 0 [],
 o4 76 (.load false 1 (tm 75)) 0 [],
 o4 77 (.fieldAddr 20 (tm 1)) 0 [],
 o4 78 (.load false 1 (tm 77)) 0 [],
 o4 79 (.buildSlice 1 2 true [iz] [(0,(tm 76)),(1,(tm 78))]) 0 [],
 o4 80 (.call (fc 38) [(vv 79)] true 4) 1 [0],
 o4 81 (.bin .add (.const (.str [100,101,108,105,118,101,114])) (tm 80)) 5 [0,1,2,3,4],
 o4 82 (.fieldAddr 21 (tm 1)) 5 [],
 o4 83 (.load false 1 (tm 82)) 5 [],
 o4 84 (.call (fc 41) [(vv 83)] false 4) 5 [0,1,2,3,4],
 o4 85 (.bin .add (tm 81) (tm 84)) 9 [0,1,2,3,4,5,6,7,8],
 o4 2 (.move (tm 85)) 9 [0,1,2,3,4,5,6,7,8]] []) (.ret)) (.skip))))))))))))))))))))) (.seq (.region 5 [
 oF 86 1 1 0,
 oL 87 86 0,
 oF 88 20 1 0,
 oL 89 88 0,
 o1 90 (.buildSlice 1 2 true [iz] [(0,(tm 87)),(1,(tm 89))]) 0,
 o1 91 (.call (fc 38) [(vv 90)] false 4) 1,
 o1 92 (.bin .add (.const (.str [100,114,111,112])) (tm 91)) 5,
 oM 2 92 5] []) (.ret))),[.tmp 2],true⟩
def s14 : Sig := ⟨(.cons (.v (.pair (.int .i64) (.pair (.int .i64) (.pair .request (.pair (.list (.int .u8)) (.pair (.int .i64) (.pair .bool (.pair (.int .i64) .bool)))))))) .nil),[],((.v .str),[]),[]⟩
def F14 (L : Lp) (g38 : (List Int) → Option (List UInt8)) (g39 : Request → Option (List UInt8)) (g40 : (List Int) → Option (List UInt8)) (g41 : Bool → Option (List UInt8)) (ae0 : (Int × (Int × (Request × ((List Int) × (Int × (Bool × (Int × Bool)))))))) : Option (List UInt8) :=
 cond (decide (ae0.1 = 1))
 (Option.bind (g38 [ae0.2.1]) fun r1 =>
 cond (decide (([115,101,110,100] : List UInt8).length + r1.length ≤ 4294967296))
 (cond (decide ((([115,101,110,100] : List UInt8) ++ r1).length + ([32] : List UInt8).length ≤ 4294967296))
 (Option.bind (g39 ae0.2.2.1) fun r2 =>
 cond (decide (((([115,101,110,100] : List UInt8) ++ r1) ++ ([32] : List UInt8)).length + r2.length ≤ 4294967296))
 (some (((([115,101,110,100] : List UInt8) ++ r1) ++ ([32] : List UInt8)) ++ r2))
 (none))
 (none))
 (none))
 (cond (decide (ae0.1 = 2))
 (Option.bind (g38 [ae0.2.1]) fun r3 =>
 cond (decide (([114,97,119] : List UInt8).length + r3.length ≤ 4294967296))
 (cond (decide ((([114,97,119] : List UInt8) ++ r3).length + ([32] : List UInt8).length ≤ 4294967296))
 (Option.bind (g40 ae0.2.2.2.1) fun r4 =>
 cond (decide (((([114,97,119] : List UInt8) ++ r3) ++ ([32] : List UInt8)).length + r4.length ≤ 4294967296))
 (some (((([114,97,119] : List UInt8) ++ r3) ++ ([32] : List UInt8)) ++ r4))
 (none))
 (none))
 (none))
 (cond (decide (ae0.1 = 3))
 (Option.bind (g38 [ae0.2.1,ae0.2.2.2.2.1]) fun r5 =>
 cond (decide (([97,114,114,105,118,101] : List UInt8).length + r5.length ≤ 4294967296))
 (Option.bind (g41 ae0.2.2.2.2.2.1) fun r6 =>
 cond (decide ((([97,114,114,105,118,101] : List UInt8) ++ r5).length + r6.length ≤ 4294967296))
 (some ((([97,114,114,105,118,101] : List UInt8) ++ r5) ++ r6))
 (none))
 (none))
 (cond (decide (ae0.1 = 4))
 (Option.bind (g38 [ae0.2.1,ae0.2.2.2.2.1]) fun r7 =>
 cond (decide (([108,111,115,101] : List UInt8).length + r7.length ≤ 4294967296))
 (some (([108,111,115,101] : List UInt8) ++ r7))
 (none))
 (cond (decide (ae0.1 = 5))
 (some ([99,108,111,115,101] : List UInt8))
 (cond (decide (ae0.1 = 6))
 (some ([99,121,99,108,101] : List UInt8))
 (cond (decide (ae0.1 = 7))
 (some ([116,105,99,107] : List UInt8))
 (cond (decide (ae0.1 = 8))
 (cond ae0.2.2.2.2.2.2.2
 (Option.bind (g38 [ae0.2.2.2.2.2.2.1]) fun r8 =>
 cond (decide (([101,120,105,116] : List UInt8).length + r8.length ≤ 4294967296))
 (cond (decide ((([101,120,105,116] : List UInt8) ++ r8).length + ([32,111,107] : List UInt8).length ≤ 4294967296))
 (some ((([101,120,105,116] : List UInt8) ++ r8) ++ ([32,111,107] : List UInt8)))
 (none))
 (none))
 (Option.bind (g38 [ae0.2.2.2.2.2.2.1]) fun r9 =>
 cond (decide (([101,120,105,116] : List UInt8).length + r9.length ≤ 4294967296))
 (cond (decide ((([101,120,105,116] : List UInt8) ++ r9).length + ([32,102,97,105,108,101,100] : List UInt8).length ≤ 4294967296))
 (let v10 := (([101,120,105,116] : List UInt8) ++ r9) ++ ([32,102,97,105,108,101,100] : List UInt8)
 some v10)
 (none))
 (none)))
 (cond (decide (ae0.1 = 9))
 (Option.bind (g38 [ae0.2.1,ae0.2.2.2.2.1]) fun r11 =>
 cond (decide (([100,101,108,105,118,101,114] : List UInt8).length + r11.length ≤ 4294967296))
 (Option.bind (g41 ae0.2.2.2.2.2.1) fun r12 =>
 cond (decide ((([100,101,108,105,118,101,114] : List UInt8) ++ r11).length + r12.length ≤ 4294967296))
 (some ((([100,101,108,105,118,101,114] : List UInt8) ++ r11) ++ r12))
 (none))
 (none))
 (Option.bind (g38 [ae0.2.1,ae0.2.2.2.2.1]) fun r13 =>
 cond (decide (([100,114,111,112] : List UInt8).length + r13.length ≤ 4294967296))
 (some (([100,114,111,112] : List UInt8) ++ r13))
 (none))))))))))
theorem e14 (L : Lp) (g38 : (List Int) → Option (List UInt8)) (g39 : Request → Option (List UInt8)) (g40 : (List Int) → Option (List UInt8)) (g41 : Bool → Option (List UInt8)) (x : s14.args.den) (h : denH s14.heap) : nrun [⟨38,s38,fun x h => g38 x.1⟩,⟨39,s39,fun x h => g39 x.1⟩,⟨40,s40,fun x h => g40 x.1⟩,⟨41,s41,fun x h => g41 x.1⟩] L n14 s14 x h = F14 L g38 g39 g40 g41 x.1 := by kernel_rfl
def f14 : (Int × (Int × (Request × ((List Int) × (Int × (Bool × (Int × Bool))))))) → Option (List UInt8) := F14 (@LN LOOPS) f38 f39 f40 f41
@[reducible] def t14 : Ent := ⟨14,s14,fun x h => f14 x.1⟩
theorem k14 : chkNF Tryz.prog Tryz.f14 n14 = true := by kernel_rfl
theorem ok14 : NOk Tryz.prog t14 := NOk.body (T := [t38,t39,t40,t41]) mixed (nall_cons ok38 (nall_cons ok39 (nall_cons ok40 (nall_cons ok41 nall_nil)))) (oneEach_of (by kernel_rfl)) Tryz.func14 k14 (by kernel_rfl) (fun x h => e14 _ _ _ _ _ x h)
def n4 : NFunc := ⟨32,.seq (.region 0 [
 o1 2 (.move kf) 0] []) (.seq (.seq (.region 4 [
 o1 5 (.call (fc 7) [] false 4) 0,
 o1 6 (.un .not (tm 5)) 4] []) (.cond (tm 6) (.seq (.region 0 [
 o1 2 (.move kf) 0] []) (.ret)) (.skip))) (.seq (.seq (.region 0 [
 oM 7 0 0,
 o1 8 (.lenStr (tm 7)) 0,
 oC 9 .gtr 8 2000 0] []) (.cond (tm 9) (.seq (.region 0 [
 o1 2 (.move kt) 0] []) (.ret)) (.skip))) (.seq (.region 5 [
 oM 11 0 0,
 o1 12 (.call (fc 13) [(vv 11)] false 4) 0,
 oM 10 12 4,
 oX 13 10 0 4,
 oX 14 10 1 4,
 o1 3 (.alloc [iz,iz,iz,iz,iz,iz,iz,iz,iz,iz,iz,iz,iz,iz,.zsl,iz,iz,iz,iz,.zsl,iz,.bool false,iz,.bool false]) 4,
 oS 24 3 13 5,
 oM 4 14 5] []) (.seq (.seq (.region 0 [
 oM 15 4 0,
 oC 16 .neq 15 0 0] []) (.cond (tm 16) (.seq (.region 4 [
 oM 17 4 0,
 oC 18 .eql 17 11 0,
 oM 19 18 0,
 o3 20 (.load true 24 (tm 3)) 19 0,
 o3 21 (.build [iz,iz,iz,iz,iz,iz,iz,iz,iz,iz,iz,iz,iz,iz,.zsl,iz,iz,iz,iz,.zsl,iz,.bool false,iz,.bool false] []) 19 0,
 o3 22 (.call (fc 11) [(vv 20),(vv 21)] false 4) 19 0,
 o1 23 (.pick (tm 19) (tm 22) kf) 4,
 oM 2 23 4] []) (.ret)) (.skip))) (.seq (.region 8 [
 oT 24 24 3 0,
 o1 25 (.call (fc 12) [(vv 24)] false 4) 0,
 oM 26 25 4,
 o3 27 (.load true 24 (tm 3)) 26 4,
 o3 28 (.call (fc 14) [(vv 27)] false 4) 26 4,
 o3 29 (.move (tm 0)) 26 8,
 o3 30 (.bin .eql (tm 28) (tm 29)) 26 8,
 o1 31 (.pick (tm 26) (tm 30) kf) 8,
 oM 2 31 8] []) (.ret)))))),[.tmp 2],true⟩
def s4 : Sig := ⟨(.cons (.v .str) .nil),[],((.v .bool),[]),[]⟩
def F4 (L : Lp) (g7 : Option Bool) (g13 : (List UInt8) → Option ((Int × (Int × (Request × ((List Int) × (Int × (Bool × (Int × Bool))))))) × (Int × Unit))) (g11 : (Int × (Int × (Request × ((List Int) × (Int × (Bool × (Int × Bool))))))) → (Int × (Int × (Request × ((List Int) × (Int × (Bool × (Int × Bool))))))) → Option Bool) (g12 : (Int × (Int × (Request × ((List Int) × (Int × (Bool × (Int × Bool))))))) → Option Bool) (g14 : (Int × (Int × (Request × ((List Int) × (Int × (Bool × (Int × Bool))))))) → Option (List UInt8)) (line0 : (List UInt8)) : Option Bool :=
 Option.bind (g7) fun r1 =>
 cond (!r1)
 (some false)
 (cond (decide (2000 < (List.length line0 : Int)))
 (some true)
 (Option.bind (g13 line0) fun r2 =>
 cond (!decide (r2.2.1 = 0))
 (cond (decide (r2.2.1 = 11))
 (Option.bind (g11 r2.1 (0,(0,(Request.mk 0 0 0 0 0 0 (Res.mk 0 0 0 0) 0 0 [] 0 0 0 0,([],(0,(false,(0,false)))))))) fun r3 =>
 some r3)
 (some false))
 (Option.bind (g12 r2.1) fun r4 =>
 cond r4
 (Option.bind (g14 r2.1) fun r5 =>
 some (decide (r5 = line0)))
 (some false))))
theorem e4 (L : Lp) (g7 : Option Bool) (g13 : (List UInt8) → Option ((Int × (Int × (Request × ((List Int) × (Int × (Bool × (Int × Bool))))))) × (Int × Unit))) (g11 : (Int × (Int × (Request × ((List Int) × (Int × (Bool × (Int × Bool))))))) → (Int × (Int × (Request × ((List Int) × (Int × (Bool × (Int × Bool))))))) → Option Bool) (g12 : (Int × (Int × (Request × ((List Int) × (Int × (Bool × (Int × Bool))))))) → Option Bool) (g14 : (Int × (Int × (Request × ((List Int) × (Int × (Bool × (Int × Bool))))))) → Option (List UInt8)) (x : s4.args.den) (h : denH s4.heap) : nrun [⟨7,s7,fun x h => g7 ⟩,⟨13,s13,fun x h => g13 x.1⟩,⟨11,s11,fun x h => g11 x.1 x.2.1⟩,⟨12,s12,fun x h => g12 x.1⟩,⟨14,s14,fun x h => g14 x.1⟩] L n4 s4 x h = F4 L g7 g13 g11 g12 g14 x.1 := by kernel_rfl
def f4 : (List UInt8) → Option Bool := F4 (@LN LOOPS) f7 f13 f11 f12 f14
@[reducible] def t4 : Ent := ⟨4,s4,fun x h => f4 x.1⟩
theorem k4 : chkNF Tryz.prog Tryz.f4 n4 = true := by kernel_rfl
def n8 : NFunc := ⟨14,.seq (.region 1 [
 o1 1 (.box 24 (tm 0)) 0,
 o1 2 (.move kf) 1] []) (.seq (.region 0 [
 oF 3 19 1 0,
 oL 4 3 0,
 o1 5 (.len (tm 4)) 0,
 oC 6 .leq 5 1000 0,
 oM 7 6 0,
 o3 8 (.fieldAddr 2 (tm 1)) 7 0,
 o3 9 (.fieldAddr 12 (tm 8)) 7 0,
 o3 10 (.load false 1 (tm 9)) 7 0,
 o3 11 (.len (tm 10)) 7 0,
 o3 12 (.bin .leq (tm 11) (ki 20)) 7 0,
 o1 13 (.pick (tm 7) (tm 12) kf) 0,
 oM 2 13 0] []) (.ret)),[.tmp 2],true⟩
def s8 : Sig := ⟨(.cons (.v (.pair (.int .i64) (.pair (.int .i64) (.pair .request (.pair (.list (.int .u8)) (.pair (.int .i64) (.pair .bool (.pair (.int .i64) .bool)))))))) .nil),[],((.v .bool),[]),[]⟩
def F8 (L : Lp)  (ae0 : (Int × (Int × (Request × ((List Int) × (Int × (Bool × (Int × Bool)))))))) : Option Bool :=
 cond (decide ((List.length ae0.2.2.2.1 : Int) ≤ 1000))
 (some (decide ((List.length ae0.2.2.1.after : Int) ≤ 20)))
 (some false)
theorem e8 (L : Lp)  (x : s8.args.den) (h : denH s8.heap) : nrun [] L n8 s8 x h = F8 L  x.1 := by kernel_rfl
def f8 : (Int × (Int × (Request × ((List Int) × (Int × (Bool × (Int × Bool))))))) → Option Bool := F8 (@LN LOOPS) 
@[reducible] def t8 : Ent := ⟨8,s8,fun x h => f8 x.1⟩
def n3 : NFunc := ⟨68,.seq (.region 2 [
 o1 2 (.box 24 (tm 0)) 0,
 o1 3 (.box 24 (tm 1)) 1,
 o1 4 (.move kf) 2] []) (.seq (.seq (.region 4 [
 o1 9 (.call (fc 7) [] false 4) 0,
 o1 10 (.un .not (tm 9)) 4] []) (.cond (tm 10) (.seq (.region 0 [
 o1 4 (.move kf) 0] []) (.ret)) (.skip))) (.seq (.seq (.region 8 [
 oT 11 24 2 0,
 o1 12 (.call (fc 8) [(vv 11)] false 4) 0,
 o1 13 (.un .not (tm 12)) 4,
 oM 14 13 4,
 o2 15 (.load true 24 (tm 3)) 14 4,
 o2 16 (.call (fc 8) [(vv 15)] false 4) 14 4,
 o2 17 (.un .not (tm 16)) 14 8,
 o1 18 (.pick (tm 14) kt (tm 17)) 8] []) (.cond (tm 18) (.seq (.region 0 [
 o1 4 (.move kt) 0] []) (.ret)) (.skip))) (.seq (.region 4 [
 oT 20 24 2 0,
 o1 21 (.call (fc 9) [(vv 20)] false 4) 0,
 oM 19 21 4,
 oX 22 19 0 4,
 oX 23 19 1 4,
 oM 5 22 4,
 oM 6 23 4] []) (.seq (.seq (.region 12 [
 o4 24 (.load true 24 (tm 2)) 0 [],
 o4 25 (.load true 24 (tm 3)) 0 [],
 o4 26 (.call (fc 10) [(vv 24),(vv 25)] true 4) 0 [],
 o4 27 (.load true 24 (tm 2)) 4 [],
 o4 28 (.load true 24 (tm 3)) 4 [],
 o4 29 (.call (fc 11) [(vv 27),(vv 28)] false 4) 4 [0,1,2,3],
 o4 30 (.eqB true (tm 26) (tm 29)) 8 [0,1,2,3,4,5,6,7],
 o4 31 (.move (tm 30)) 8 [0,1,2,3,4,5,6,7],
 ⟨(some 32),.load true 24 (tm 2),(some (31,false)),8,(some ([0,1,2,3,4,5,6,7],none))⟩,
 ⟨(some 33),.load true 24 (tm 2),(some (31,false)),8,(some ([0,1,2,3,4,5,6,7],none))⟩,
 ⟨(some 34),.call (fc 10) [(vv 32),(vv 33)] false 4,(some (31,false)),8,(some ([0,1,2,3,4,5,6,7],none))⟩,
 ⟨(some 35),.un .not (tm 34),(some (31,false)),12,(some ([0,1,2,3,4,5,6,7,8,9,10,11],none))⟩,
 o4 36 (.pick (tm 31) kt (tm 35)) 12 [0,1,2,3,4,5,6,7,8,9,10,11]] []) (.cond (tm 36) (.seq (.region 0 [
 o1 4 (.move kf) 0] []) (.ret)) (.skip))) (.seq (.seq (.region 4 [
 oT 37 24 2 0,
 o1 38 (.call (fc 12) [(vv 37)] false 4) 0,
 o1 39 (.un .not (tm 38)) 4] []) (.cond (tm 39) (.seq (.region 0 [
 oM 40 5 0,
 o1 41 (.bin .eql (tm 40) (.const (.str []))) 0,
 oM 42 41 0,
 o3 43 (.move (tm 6)) 42 0,
 o3 44 (.bin .eql (tm 43) (ki 2)) 42 0,
 o1 45 (.pick (tm 42) (tm 44) kf) 0,
 oM 4 45 0] []) (.ret)) (.skip))) (.seq (.region 5 [
 oM 47 5 0,
 o1 48 (.call (fc 13) [(vv 47)] false 4) 0,
 oM 46 48 4,
 oX 49 46 0 4,
 oX 50 46 1 4,
 o1 7 (.alloc [iz,iz,iz,iz,iz,iz,iz,iz,iz,iz,iz,iz,iz,iz,.zsl,iz,iz,iz,iz,.zsl,iz,.bool false,iz,.bool false]) 4,
 oS 24 7 49 5,
 oM 8 50 5] []) (.seq (.region 8 [
 oM 51 6 0,
 oC 52 .eql 51 0 0,
 oM 53 52 0,
 o3 54 (.move (tm 5)) 53 0,
 o3 55 (.load true 24 (tm 2)) 53 0,
 o3 56 (.call (fc 14) [(vv 55)] false 4) 53 0,
 o3 57 (.bin .eql (tm 54) (tm 56)) 53 4,
 o1 58 (.pick (tm 53) (tm 57) kf) 4,
 oM 59 58 4,
 o3 60 (.move (tm 8)) 59 4,
 o3 61 (.bin .eql (tm 60) (ki 0)) 59 4,
 o1 62 (.pick (tm 59) (tm 61) kf) 4,
 oM 63 62 4,
 o3 64 (.load true 24 (tm 7)) 63 4,
 o3 65 (.load true 24 (tm 2)) 63 4,
 o3 66 (.call (fc 11) [(vv 64),(vv 65)] false 4) 63 4,
 o1 67 (.pick (tm 63) (tm 66) kf) 8,
 oM 4 67 8] []) (.ret)))))))),[.tmp 4],true⟩
def s3 : Sig := ⟨(.cons (.v (.pair (.int .i64) (.pair (.int .i64) (.pair .request (.pair (.list (.int .u8)) (.pair (.int .i64) (.pair .bool (.pair (.int .i64) .bool)))))))) (.cons (.v (.pair (.int .i64) (.pair (.int .i64) (.pair .request (.pair (.list (.int .u8)) (.pair (.int .i64) (.pair .bool (.pair (.int .i64) .bool)))))))) .nil)),[],((.v .bool),[]),[]⟩
def F3 (L : Lp) (g7 : Option Bool) (g8 : (Int × (Int × (Request × ((List Int) × (Int × (Bool × (Int × Bool))))))) → Option Bool) (g9 : (Int × (Int × (Request × ((List Int) × (Int × (Bool × (Int × Bool))))))) → Option ((List UInt8) × (Int × Unit))) (g10 : (Int × (Int × (Request × ((List Int) × (Int × (Bool × (Int × Bool))))))) → (Int × (Int × (Request × ((List Int) × (Int × (Bool × (Int × Bool))))))) → Option Bool) (g11 : (Int × (Int × (Request × ((List Int) × (Int × (Bool × (Int × Bool))))))) → (Int × (Int × (Request × ((List Int) × (Int × (Bool × (Int × Bool))))))) → Option Bool) (g12 : (Int × (Int × (Request × ((List Int) × (Int × (Bool × (Int × Bool))))))) → Option Bool) (g13 : (List UInt8) → Option ((Int × (Int × (Request × ((List Int) × (Int × (Bool × (Int × Bool))))))) × (Int × Unit))) (g14 : (Int × (Int × (Request × ((List Int) × (Int × (Bool × (Int × Bool))))))) → Option (List UInt8)) (ae0 : (Int × (Int × (Request × ((List Int) × (Int × (Bool × (Int × Bool)))))))) (af1 : (Int × (Int × (Request × ((List Int) × (Int × (Bool × (Int × Bool)))))))) : Option Bool :=
 Option.bind (g7) fun r2 =>
 cond (!r2)
 (some false)
 (Option.bind (g8 ae0) fun r3 =>
 cond (!r3)
 (some true)
 (Option.bind (g8 af1) fun r4 =>
 cond (!r4)
 (some true)
 (Option.bind (g9 ae0) fun r5 =>
 Option.bind (g10 ae0 af1) fun r6 =>
 Option.bind (g11 ae0 af1) fun r7 =>
 cond (!(r6 == r7))
 (some false)
 (Option.bind (g10 ae0 ae0) fun r8 =>
 cond (!r8)
 (some false)
 (Option.bind (g12 ae0) fun r9 =>
 cond (!r9)
 (cond (decide (r5.1 = ([] : List UInt8)))
 (some (decide (r5.2.1 = 2)))
 (some false))
 (Option.bind (g13 r5.1) fun r10 =>
 cond (decide (r5.2.1 = 0))
 (Option.bind (g14 ae0) fun r11 =>
 cond (decide (r5.1 = r11))
 (cond (decide (r10.2.1 = 0))
 (Option.bind (g11 r10.1 ae0) fun r12 =>
 some r12)
 (some false))
 (some false))
 (some false)))))))
theorem e3 (L : Lp) (g7 : Option Bool) (g8 : (Int × (Int × (Request × ((List Int) × (Int × (Bool × (Int × Bool))))))) → Option Bool) (g9 : (Int × (Int × (Request × ((List Int) × (Int × (Bool × (Int × Bool))))))) → Option ((List UInt8) × (Int × Unit))) (g10 : (Int × (Int × (Request × ((List Int) × (Int × (Bool × (Int × Bool))))))) → (Int × (Int × (Request × ((List Int) × (Int × (Bool × (Int × Bool))))))) → Option Bool) (g11 : (Int × (Int × (Request × ((List Int) × (Int × (Bool × (Int × Bool))))))) → (Int × (Int × (Request × ((List Int) × (Int × (Bool × (Int × Bool))))))) → Option Bool) (g12 : (Int × (Int × (Request × ((List Int) × (Int × (Bool × (Int × Bool))))))) → Option Bool) (g13 : (List UInt8) → Option ((Int × (Int × (Request × ((List Int) × (Int × (Bool × (Int × Bool))))))) × (Int × Unit))) (g14 : (Int × (Int × (Request × ((List Int) × (Int × (Bool × (Int × Bool))))))) → Option (List UInt8)) (x : s3.args.den) (h : denH s3.heap) : nrun [⟨7,s7,fun x h => g7 ⟩,⟨8,s8,fun x h => g8 x.1⟩,⟨9,s9,fun x h => g9 x.1⟩,⟨10,s10,fun x h => g10 x.1 x.2.1⟩,⟨11,s11,fun x h => g11 x.1 x.2.1⟩,⟨12,s12,fun x h => g12 x.1⟩,⟨13,s13,fun x h => g13 x.1⟩,⟨14,s14,fun x h => g14 x.1⟩] L n3 s3 x h = F3 L g7 g8 g9 g10 g11 g12 g13 g14 x.1 x.2.1 := by kernel_rfl
def f3 : (Int × (Int × (Request × ((List Int) × (Int × (Bool × (Int × Bool))))))) → (Int × (Int × (Request × ((List Int) × (Int × (Bool × (Int × Bool))))))) → Option Bool := F3 (@LN LOOPS) f7 f8 f9 f10 f11 f12 f13 f14
@[reducible] def t3 : Ent := ⟨3,s3,fun x h => f3 x.1 x.2.1⟩
theorem k3 : chkNF Tryz.prog Tryz.f3 n3 = true := by kernel_rfl
def n23 : NFunc := ⟨17,.seq (.region 0 [
 o1 2 (.move (.const (.nilp))) 0] []) (.seq (.region 1 [
 oM 4 0 0,
 o1 5 (.bin .add (tm 4) (.const (.int .u64 (88172645463325252)))) 0,
 o1 6 (.build [.int .u64 (0)] [(0,1,(tm 5))]) 0,
 o1 7 (.box 1 (tm 6)) 0,
 oM 3 7 1] []) (.seq (.seq (.region 0 [
 oM 8 3 0,
 o1 9 (.nilCheck (tm 8)) 0,
 oF 10 0 9 0,
 oL 11 10 0,
 o1 12 (.bin .eql (tm 11) (.const (.int .u64 (0)))) 0] []) (.cond (tm 12) (.region 0 [
 oM 13 3 0,
 o1 14 (.nilCheck (tm 13)) 0,
 oF 15 0 14 0,
 ⟨none,.store 1 (tm 15) (.const (.int .u64 (1))),none,0,none⟩] []) (.skip))) (.seq (.region 0 [
 oM 16 3 0,
 oM 2 16 0] []) (.ret)))),[.tmp 2],false⟩
def s23 : Sig := ⟨(.cons (.v (.int .u64)) .nil),[],((.ptr 0 0 0),[.one false (.pair (.int .u64) .unit)]),[]⟩
def F23 (L : Lp)  (seed0 : Int) : Option (Unit × ((Int × Unit) × Unit)) :=
 cond (decide ((IntKind.wrap .u64 (seed0 + 88172645463325252)) = 0))
 (some ((),((1,()),())))
 (some ((),((IntKind.wrap .u64 (seed0 + 88172645463325252),()),())))
theorem e23 (L : Lp)  (x : s23.args.den) (h : denH s23.heap) : nrun [] L n23 s23 x h = F23 L  x.1 := by kernel_rfl
def f23 : Int → Option (Unit × ((Int × Unit) × Unit)) := F23 (@LN LOOPS) 
@[reducible] def t23 : Ent := ⟨23,s23,fun x h => f23 x.1⟩
theorem k23 : chkNF Tryz.prog Tryz.f23 n23 = true := by kernel_rfl
theorem ok23 : NOk Tryz.prog t23 := NOk.body (T := []) mixed nall_nil (oneEach_of (by kernel_rfl)) Tryz.func23 k23 (by kernel_rfl) (fun x h => e23 _  x h)
def n93 : NFunc := ⟨16,.seq (.region 0 [
 o1 2 (.move (.const (.int .u64 (0)))) 0] []) (.seq (.region 0 [
 oM 3 0 0,
 oM 4 0 0,
 o1 5 (.bin .shl (tm 4) (.const (.int .u64 (13)))) 0,
 oB 6 .xor 3 5 0,
 oM 0 6 0] []) (.seq (.region 0 [
 oM 7 0 0,
 oM 8 0 0,
 o1 9 (.bin .shr (tm 8) (.const (.int .u64 (7)))) 0,
 oB 10 .xor 7 9 0,
 oM 0 10 0] []) (.seq (.region 0 [
 oM 11 0 0,
 oM 12 0 0,
 o1 13 (.bin .shl (tm 12) (.const (.int .u64 (17)))) 0,
 oB 14 .xor 11 13 0,
 oM 0 14 0] []) (.seq (.region 0 [
 oM 15 0 0,
 oM 2 15 0] []) (.ret))))),[.tmp 2],true⟩
def s93 : Sig := ⟨(.cons (.v (.int .u64)) .nil),[],((.v (.int .u64)),[]),[]⟩
def F93 (L : Lp)  (ax0 : Int) : Option Int :=
 let v1 := IntKind.wrap .u64 (((BitVec.ofInt 64 ax0 ^^^ BitVec.ofInt 64 (IntKind.wrap .u64 (ax0 * 2 ^ (min (Int.toNat 13) 64)))).toNat : Int))
 let v2 := IntKind.wrap .u64 (((BitVec.ofInt 64 v1 ^^^ BitVec.ofInt 64 (Int.fdiv v1 (2 ^ (min (Int.toNat 7) 64)))).toNat : Int))
 let v3 := IntKind.wrap .u64 (((BitVec.ofInt 64 v2 ^^^ BitVec.ofInt 64 (IntKind.wrap .u64 (v2 * 2 ^ (min (Int.toNat 17) 64)))).toNat : Int))
 some v3
theorem e93 (L : Lp)  (x : s93.args.den) (h : denH s93.heap) : nrun [] L n93 s93 x h = F93 L  x.1 := by kernel_rfl
def f93 : Int → Option Int := F93 (@LN LOOPS) 
@[reducible] def t93 : Ent := ⟨93,s93,fun x h => f93 x.1⟩
theorem k93 : chkNF Tryz.prog Tryz.f93 n93 = true := by kernel_rfl
theorem ok93 : NOk Tryz.prog t93 := NOk.body (T := []) mixed nall_nil (oneEach_of (by kernel_rfl)) Tryz.func93 k93 (by kernel_rfl) (fun x h => e93 _  x h)
def n55 : NFunc := ⟨28,.seq (.region 0 [
 o1 4 (.move (ki 0)) 0] []) (.seq (.seq (.region 0 [
 oM 5 0 0,
 o1 6 (.eqP false (tm 5) (.const (.nilp))) 0,
 oM 7 6 0,
 oN 8 1 7 0,
 o2 9 (.bin .lss (tm 8) (ki 1)) 7 0,
 o1 10 (.pick (tm 7) kt (tm 9)) 0] []) (.cond (tm 10) (.seq (.region 0 [
 o1 4 (.move (ki 0)) 0] []) (.ret)) (.skip))) (.seq (.region 4 [
 oM 11 0 0,
 oM 12 0 0,
 o1 13 (.nilCheck (tm 12)) 0,
 oF 14 0 13 0,
 oL 15 14 0,
 o1 16 (.call (fc 93) [(vv 15)] false 4) 0,
 o1 17 (.nilCheck (tm 11)) 4,
 oF 18 0 17 4,
 oS 1 18 16 4] []) (.seq (.region 0 [
 oM 19 0 0,
 o1 20 (.nilCheck (tm 19)) 0,
 oF 21 0 20 0,
 oL 22 21 0,
 o1 23 (.bin .shr (tm 22) (.const (.int .u64 (33)))) 0,
 oM 24 1 0,
 o1 25 (.conv .u64 (tm 24)) 0,
 oB 26 .rem 23 25 0,
 o1 27 (.conv .i64 (tm 26)) 0,
 oM 4 27 0] []) (.ret)))),[.tmp 4],true⟩
def s55 : Sig := ⟨(.cons (.ptr 0 0 0) (.cons (.v (.int .i64)) .nil)),[.one false (.pair (.int .u64) .unit)],((.v (.int .i64)),[.one false (.pair (.int .u64) .unit)]),[]⟩
def F55 (L : Lp) (g93 : Int → Option Int) (an0 : Int) (a1 : (Int × Unit)) : Option (Int × ((Int × Unit) × Unit)) :=
 cond (decide (an0 < 1))
 (some (0,(a1,())))
 (Option.bind (g93 a1.1) fun r2 =>
 cond (decide ((IntKind.wrap .u64 (an0)) = 0))
 (none)
 (some (IntKind.wrap .i64 (Int.tmod (Int.fdiv r2 (2 ^ (min (Int.toNat 33) 64))) (IntKind.wrap .u64 (an0))),((r2,()),()))))
theorem e55 (L : Lp) (g93 : Int → Option Int) (x : s55.args.den) (h : denH s55.heap) : nrun [⟨93,s93,fun x h => g93 x.1⟩] L n55 s55 x h = F55 L g93 x.2.1 h.1 := by kernel_rfl
def f55 : Int → (Int × Unit) → Option (Int × ((Int × Unit) × Unit)) := F55 (@LN LOOPS) f93
@[reducible] def t55 : Ent := ⟨55,s55,fun x h => f55 x.2.1 h.1⟩
theorem k55 : chkNF Tryz.prog Tryz.f55 n55 = true := by kernel_rfl
theorem ok55 : NOk Tryz.prog t55 := NOk.body (T := [t93]) mixed (nall_cons ok93 nall_nil) (oneEach_of (by kernel_rfl)) Tryz.func55 k55 (by kernel_rfl) (fun x h => e55 _ _ x h)
def n56 : NFunc := ⟨16,.seq (.region 0 [
 o1 6 (.move (ki 0)) 0] []) (.seq (.seq (.region 0 [
 oM 7 0 0,
 oM 8 1 0,
 oB 9 .lss 7 8 0] []) (.cond (tm 9) (.seq (.region 0 [
 oM 10 1 0,
 oM 6 10 0] []) (.ret)) (.skip))) (.seq (.seq (.region 0 [
 oM 11 0 0,
 oM 12 2 0,
 oB 13 .gtr 11 12 0] []) (.cond (tm 13) (.seq (.region 0 [
 oM 14 2 0,
 oM 6 14 0] []) (.ret)) (.skip))) (.seq (.region 0 [
 oM 15 0 0,
 oM 6 15 0] []) (.ret)))),[.tmp 6],true⟩
def s56 : Sig := ⟨(.cons (.v (.int .i64)) (.cons (.v (.int .i64)) (.cons (.v (.int .i64)) .nil))),[],((.v (.int .i64)),[]),[]⟩
def F56 (L : Lp)  (an0 : Int) (lo1 : Int) (hi2 : Int) : Option Int :=
 cond (decide (an0 < lo1))
 (some lo1)
 (cond (decide (hi2 < an0))
 (some hi2)
 (some an0))
theorem e56 (L : Lp)  (x : s56.args.den) (h : denH s56.heap) : nrun [] L n56 s56 x h = F56 L  x.1 x.2.1 x.2.2.1 := by kernel_rfl
def f56 : Int → Int → Int → Option Int := F56 (@LN LOOPS) 
@[reducible] def t56 : Ent := ⟨56,s56,fun x h => f56 x.1 x.2.1 x.2.2.1⟩
theorem k56 : chkNF Tryz.prog Tryz.f56 n56 = true := by kernel_rfl
theorem ok56 : NOk Tryz.prog t56 := NOk.body (T := []) mixed nall_nil (oneEach_of (by kernel_rfl)) Tryz.func56 k56 (by kernel_rfl) (fun x h => e56 _  x h)
def n91 : NFunc := ⟨18,.seq (.region 1 [
 o1 6 (.alloc [iz,iz,iz,iz,iz,iz,iz,iz,iz,iz,iz,iz,iz,iz,.zsl,iz,iz,iz,iz,.zsl,iz,.bool false,iz,.bool false]) 0] []) (.seq (.region 5 [
 oM 8 1 0,
 oM 9 2 0,
 oM 10 0 0,
 o1 11 (.call (fc 55) [(vw 10),(false,(ki 2))] false 4) 0,
 o1 12 (.build [iz,iz,iz,iz,iz,iz,iz,iz,iz,iz,iz,iz,iz,iz,.zsl,iz,iz,iz,iz,.zsl,iz,.bool false,iz,.bool false] [(0,1,(tm 8)),(1,1,(tm 9)),(20,1,(tm 11))]) 4,
 o1 7 (.alloc [iz,iz,iz,iz,iz,iz,iz,iz,iz,iz,iz,iz,iz,iz,.zsl,iz,iz,iz,iz,.zsl,iz,.bool false,iz,.bool false]) 4,
 oS 24 7 12 5] []) (.seq (.region 4 [
 oM 13 0 0,
 o1 14 (.call (fc 55) [(vw 13),(false,(ki 4))] false 4) 0,
 oC 15 .eql 14 0 4,
 oF 16 21 7 4,
 oS 1 16 15 4] []) (.seq (.region 0 [
 oT 17 24 7 0,
 oS 24 6 17 0] []) (.ret)))),[.cell true 24 6],true⟩
def s91 : Sig := ⟨(.cons (.ptr 0 0 0) (.cons (.v (.int .i64)) (.cons (.v (.int .i64)) .nil))),[.one false (.pair (.int .u64) .unit)],((.v (.pair (.int .i64) (.pair (.int .i64) (.pair .request (.pair (.list (.int .u8)) (.pair (.int .i64) (.pair .bool (.pair (.int .i64) .bool)))))))),[.one false (.pair (.int .u64) .unit)]),[]⟩
def F91 (L : Lp) (g55 : Int → (Int × Unit) → Option (Int × ((Int × Unit) × Unit))) (kind0 : Int) (user1 : Int) (a2 : (Int × Unit)) : Option ((Int × (Int × (Request × ((List Int) × (Int × (Bool × (Int × Bool))))))) × ((Int × Unit) × Unit)) :=
 Option.bind (g55 2 a2) fun r3 =>
 Option.bind (g55 4 r3.2.1) fun r4 =>
 some ((kind0,(user1,(Request.mk 0 0 0 0 0 0 (Res.mk 0 0 0 0) 0 0 [] 0 0 0 0,([],(r3.1,(decide (r4.1 = 0),(0,false))))))),(r4.2.1,()))
theorem e91 (L : Lp) (g55 : Int → (Int × Unit) → Option (Int × ((Int × Unit) × Unit))) (x : s91.args.den) (h : denH s91.heap) : nrun [⟨55,s55,fun x h => g55 x.2.1 h.1⟩] L n91 s91 x h = F91 L g55 x.2.1 x.2.2.1 h.1 := by kernel_rfl
def f91 : Int → Int → (Int × Unit) → Option ((Int × (Int × (Request × ((List Int) × (Int × (Bool × (Int × Bool))))))) × ((Int × Unit) × Unit)) := F91 (@LN LOOPS) f55
@[reducible] def t91 : Ent := ⟨91,s91,fun x h => f91 x.2.1 x.2.2.1 h.1⟩
theorem k91 : chkNF Tryz.prog Tryz.f91 n91 = true := by kernel_rfl
theorem ok91 : NOk Tryz.prog t91 := NOk.body (T := [t55]) mixed (nall_cons ok55 nall_nil) (oneEach_of (by kernel_rfl)) Tryz.func91 k91 (by kernel_rfl) (fun x h => e91 _ _ x h)
def n92 : NFunc := ⟨58,.seq (.region 1 [
 o1 4 (.alloc [iz,iz,iz,iz,iz,iz,iz,iz,iz,iz,iz,iz,.zsl,iz,iz,iz,iz]) 0] []) (.seq (.region 4 [
 oM 7 0 0,
 o1 8 (.call (fc 55) [(vw 7),(false,(ki 8))] false 4) 0,
 oM 5 8 4] []) (.seq (.region 5 [
 oM 9 0 0,
 oM 10 1 0,
 o1 11 (.call (fc 55) [(vw 9),(vv 10)] false 4) 0,
 o1 12 (.bin .add (ki 1) (tm 11)) 4,
 o1 13 (.build [iz,iz,iz,iz,iz,iz,iz,iz,iz,iz,iz,iz,.zsl,iz,iz,iz,iz] [(1,1,(tm 12))]) 4,
 o1 6 (.alloc [iz,iz,iz,iz,iz,iz,iz,iz,iz,iz,iz,iz,.zsl,iz,iz,iz,iz]) 4,
 oS 17 6 13 5] []) (.seq (.join [4,6,0] [] ⟨[(0,(.ptr 0 0 0)),(4,(.ptr 1 0 0)),(6,(.ptr 2 0 0))],[],[.one false (.pair (.int .u64) .unit),.cell false (.cons vI (.cons vI (.cons vI (.cons vI (.cons vI (.cons vI (.cons vI (.cons vI (.cons vI (.cons vI (.cons vI (.cons vI (.cons .zsl (.cons vI (.cons vI (.cons vI (.cons vI .nil))))))))))))))))),.cell false (.cons vI (.cons vI (.cons vI (.cons vI (.cons vI (.cons vI (.cons vI (.cons vI (.cons vI (.cons vI (.cons vI (.cons vI (.cons .zsl (.cons vI (.cons vI (.cons vI (.cons vI .nil)))))))))))))))))]⟩ (.seq (.region 0 [
 oM 14 5 0] []) (.block 0 (.seq (.region 0 [
 oC 35 .eql 14 3 0,
 oM 34 35 0] []) (.cond (tm 34) (.region 0 [
 oF 36 0 6 0,
 ⟨none,.store 1 (tm 36) (ki 3),none,0,none⟩] []) (.seq (.region 0 [
 oC 38 .eql 14 4 0,
 oM 37 38 0] []) (.cond (tm 37) (.region 0 [
 oF 39 0 6 0,
 ⟨none,.store 1 (tm 39) (ki 4),none,0,none⟩] []) (.seq (.region 0 [
 oC 41 .eql 14 5 0,
 oM 40 41 0] []) (.cond (tm 40) (.region 0 [
 oF 42 0 6 0,
 ⟨none,.store 1 (tm 42) (ki 5),none,0,none⟩] []) (.seq (.region 0 [
 oC 44 .eql 14 6 0,
 oM 43 44 0] []) (.cond (tm 43) (.region 0 [
 oF 45 0 6 0,
 ⟨none,.store 1 (tm 45) (ki 8),none,0,none⟩] []) (.seq (.region 0 [
 oC 47 .eql 14 7 0,
 oM 46 47 0] []) (.cond (tm 46) (.seq (.region 0 [
 oF 48 0 6 0,
 ⟨none,.store 1 (tm 48) (ki 9),none,0,none⟩] []) (.seq (.region 4 [
 oM 49 0 0,
 o1 50 (.call (fc 55) [(vw 49),(false,(ki 2))] false 4) 0,
 oF 51 4 6 4,
 oS 1 51 50 4] []) (.seq (.region 0 [
 oT 52 17 6 0,
 oS 17 4 52 0] []) (.ret)))) (.seq (.region 0 [
 oF 15 0 6 0,
 ⟨none,.store 1 (tm 15) (ki 1),none,0,none⟩] []) (.seq (.region 4 [
 oM 16 0 0,
 o1 17 (.call (fc 55) [(vw 16),(false,(ki 2))] false 4) 0,
 oF 18 4 6 4,
 oS 1 18 17 4] []) (.seq (.region 4 [
 oM 19 0 0,
 o1 20 (.call (fc 55) [(vw 19),(false,(ki 3))] false 4) 0,
 o1 21 (.bin .add (ki 1) (tm 20)) 4,
 oF 22 5 6 4,
 oS 1 22 21 4] []) (.seq (.region 4 [
 oM 23 0 0,
 o1 24 (.call (fc 55) [(vw 23),(false,(ki 4))] false 4) 0,
 o1 25 (.bin .add (ki 1) (tm 24)) 4,
 oF 26 6 6 4,
 oF 27 0 26 4,
 oS 1 27 25 4] []) (.seq (.region 4 [
 oM 28 0 0,
 o1 29 (.call (fc 55) [(vw 28),(false,(ki 8))] false 4) 0,
 o1 30 (.bin .add (ki 1) (tm 29)) 4,
 oF 31 10 6 4,
 oS 1 31 30 4] []) (.seq (.region 0 [
 oF 32 11 6 0,
 ⟨none,.store 1 (tm 32) (ki 1),none,0,none⟩] []) (.seq (.region 0 [
 oT 33 17 6 0,
 oS 17 4 33 0] []) (.ret))))))))))))))))))))) (.seq (.region 4 [
 oM 53 0 0,
 o1 54 (.call (fc 55) [(vw 53),(false,(ki 6))] false 4) 0,
 o1 55 (.bin .add (ki 1) (tm 54)) 4,
 oF 56 2 6 4,
 oS 1 56 55 4] []) (.seq (.region 0 [
 oT 57 17 6 0,
 oS 17 4 57 0] []) (.ret)))))),[.cell true 17 4],true⟩
def s92 : Sig := ⟨(.cons (.ptr 0 0 0) (.cons (.v (.int .i64)) .nil)),[.one false (.pair (.int .u64) .unit)],((.v .request),[.one false (.pair (.int .u64) .unit)]),[]⟩
def F92 (L : Lp) (g55 : Int → (Int × Unit) → Option (Int × ((Int × Unit) × Unit))) (keys0 : Int) (a1 : (Int × Unit)) : Option (Request × ((Int × Unit) × Unit)) :=
 Option.bind (g55 8 a1) fun r2 =>
 Option.bind (g55 keys0 r2.2.1) fun r3 =>
 Option.bind (α := (((Unit × (Unit × (Unit × Unit))) × ((Int × Unit) × ((Int × (Int × (Int × (Int × (Int × (Int × (Int × (Int × (Int × (Int × (Int × (Int × (Unit × (Int × (Int × (Int × (Int × Unit))))))))))))))))) × ((Int × (Int × (Int × (Int × (Int × (Int × (Int × (Int × (Int × (Int × (Int × (Int × (Unit × (Int × (Int × (Int × (Int × Unit))))))))))))))))) × Unit)))) ⊕ (Request × ((Int × Unit) × Unit))))
 (cond (decide (r2.1 = 3))
 (some (.inl (((),(),(),()),(r3.2.1,(0,0,0,0,0,0,0,0,0,0,0,0,(),0,0,0,0,()),(3,IntKind.wrap .i64 (1 + r3.1),0,0,0,0,0,0,0,0,0,0,(),0,0,0,0,()),()))))
 (cond (decide (r2.1 = 4))
 (some (.inl (((),(),(),()),(r3.2.1,(0,0,0,0,0,0,0,0,0,0,0,0,(),0,0,0,0,()),(4,IntKind.wrap .i64 (1 + r3.1),0,0,0,0,0,0,0,0,0,0,(),0,0,0,0,()),()))))
 (cond (decide (r2.1 = 5))
 (some (.inl (((),(),(),()),(r3.2.1,(0,0,0,0,0,0,0,0,0,0,0,0,(),0,0,0,0,()),(5,IntKind.wrap .i64 (1 + r3.1),0,0,0,0,0,0,0,0,0,0,(),0,0,0,0,()),()))))
 (cond (decide (r2.1 = 6))
 (some (.inl (((),(),(),()),(r3.2.1,(0,0,0,0,0,0,0,0,0,0,0,0,(),0,0,0,0,()),(8,IntKind.wrap .i64 (1 + r3.1),0,0,0,0,0,0,0,0,0,0,(),0,0,0,0,()),()))))
 (cond (decide (r2.1 = 7))
 (Option.bind (g55 2 r3.2.1) fun r4 =>
 some (.inr (Request.mk 9 (IntKind.wrap .i64 (1 + r3.1)) 0 0 r4.1 0 (Res.mk 0 0 0 0) 0 0 [] 0 0 0 0,(r4.2.1,()))))
 (Option.bind (g55 2 r3.2.1) fun r5 =>
 Option.bind (g55 3 r5.2.1) fun r6 =>
 Option.bind (g55 4 r6.2.1) fun r7 =>
 Option.bind (g55 8 r7.2.1) fun r8 =>
 some (.inr (Request.mk 1 (IntKind.wrap .i64 (1 + r3.1)) 0 0 r5.1 (IntKind.wrap .i64 (1 + r6.1)) (Res.mk (IntKind.wrap .i64 (1 + r7.1)) 0 0 0) (IntKind.wrap .i64 (1 + r8.1)) 1 [] 0 0 0 0,(r8.2.1,()))))))))) (Sum.elim (fun x9 =>
 Option.bind (g55 6 x9.2.1) fun r10 =>
 some (Request.mk x9.2.2.2.1.1 x9.2.2.2.1.2.1 (IntKind.wrap .i64 (1 + r10.1)) x9.2.2.2.1.2.2.2.1 x9.2.2.2.1.2.2.2.2.1 x9.2.2.2.1.2.2.2.2.2.1 (Res.mk x9.2.2.2.1.2.2.2.2.2.2.1 x9.2.2.2.1.2.2.2.2.2.2.2.1 x9.2.2.2.1.2.2.2.2.2.2.2.2.1 x9.2.2.2.1.2.2.2.2.2.2.2.2.2.1) x9.2.2.2.1.2.2.2.2.2.2.2.2.2.2.1 x9.2.2.2.1.2.2.2.2.2.2.2.2.2.2.2.1 [] x9.2.2.2.1.2.2.2.2.2.2.2.2.2.2.2.2.2.1 x9.2.2.2.1.2.2.2.2.2.2.2.2.2.2.2.2.2.2.1 x9.2.2.2.1.2.2.2.2.2.2.2.2.2.2.2.2.2.2.2.1 x9.2.2.2.1.2.2.2.2.2.2.2.2.2.2.2.2.2.2.2.2.1,(r10.2.1,()))) some)
theorem e92 (L : Lp) (g55 : Int → (Int × Unit) → Option (Int × ((Int × Unit) × Unit))) (x : s92.args.den) (h : denH s92.heap) : nrun [⟨55,s55,fun x h => g55 x.2.1 h.1⟩] L n92 s92 x h = F92 L g55 x.2.1 h.1 := by kernel_rfl
def f92 : Int → (Int × Unit) → Option (Request × ((Int × Unit) × Unit)) := F92 (@LN LOOPS) f55
@[reducible] def t92 : Ent := ⟨92,s92,fun x h => f92 x.2.1 h.1⟩
theorem k92 : chkNF Tryz.prog Tryz.f92 n92 = true := by kernel_rfl
theorem ok92 : NOk Tryz.prog t92 := NOk.body (T := [t55]) mixed (nall_cons ok55 nall_nil) (oneEach_of (by kernel_rfl)) Tryz.func92 k92 (by kernel_rfl) (fun x h => e92 _ _ x h)
def n54 : NFunc := ⟨63,.seq (.region 1 [
 o1 6 (.alloc [iz,iz,iz,iz,iz,iz,iz,iz,iz,iz,iz,iz,iz,iz,.zsl,iz,iz,iz,iz,.zsl,iz,.bool false,iz,.bool false]) 0] []) (.seq (.seq (.region 0 [
 oM 10 0 0,
 o1 11 (.eqP false (tm 10) (.const (.nilp))) 0] []) (.cond (tm 11) (.seq (.region 0 [
 o1 12 (.build [iz,iz,iz,iz,iz,iz,iz,iz,iz,iz,iz,iz,iz,iz,.zsl,iz,iz,iz,iz,.zsl,iz,.bool false,iz,.bool false] []) 0,
 oS 24 6 12 0] []) (.ret)) (.skip))) (.seq (.region 4 [
 oM 13 0 0,
 o1 14 (.call (fc 55) [(vw 13),(false,(ki 12))] false 4) 0,
 oM 7 14 4] []) (.seq (.region 8 [
 oM 15 0 0,
 oM 16 1 0,
 o1 17 (.call (fc 56) [(vv 16),(false,(ki 1)),(false,(ki 8))] false 4) 0,
 o1 18 (.call (fc 55) [(vw 15),(vv 17)] false 4) 4,
 oM 8 18 8] []) (.seq (.seq (.region 0 [
 oM 19 7 0] []) (.block 0 (.seq (.meet [6,8,0,2,19,20] [] ⟨[(0,(.ptr 0 0 0)),(6,(.ptr 1 0 0)),(20,(.v .bool))],[2,8,19],[.one false (.pair (.int .u64) .unit),.cell false (.cons vI (.cons vI (.cons vI (.cons vI (.cons vI (.cons vI (.cons vI (.cons vI (.cons vI (.cons vI (.cons vI (.cons vI (.cons vI (.cons vI (.cons .zsl (.cons vI (.cons vI (.cons vI (.cons vI (.cons .zsl (.cons vI (.cons (.v .bool) (.cons vI (.cons (.v .bool) .nil))))))))))))))))))))))))]⟩ (.seq (.region 0 [
 oC 21 .eql 19 4 0,
 oM 20 21 0] []) (.cond (tm 20) (.skip) (.region 0 [
 oC 22 .eql 19 5 0,
 oM 20 22 0] [])))) (.cond (tm 20) (.seq (.region 4 [
 oM 23 0 0,
 oM 24 8 0,
 o1 25 (.call (fc 91) [(vw 23),(false,(ki 3)),(vv 24)] false 4) 0,
 oS 24 6 25 4] []) (.ret)) (.seq (.region 0 [
 oC 27 .eql 19 6 0,
 oM 26 27 0] []) (.cond (tm 26) (.seq (.region 0 [
 o1 28 (.build [iz,iz,iz,iz,iz,iz,iz,iz,iz,iz,iz,iz,iz,iz,.zsl,iz,iz,iz,iz,.zsl,iz,.bool false,iz,.bool false] [(0,1,(ki 5))]) 0,
 oS 24 6 28 0] []) (.ret)) (.seq (.region 0 [
 oC 30 .eql 19 7 0,
 oM 29 30 0] []) (.cond (tm 29) (.seq (.region 0 [
 o1 31 (.build [iz,iz,iz,iz,iz,iz,iz,iz,iz,iz,iz,iz,iz,iz,.zsl,iz,iz,iz,iz,.zsl,iz,.bool false,iz,.bool false] [(0,1,(ki 6))]) 0,
 oS 24 6 31 0] []) (.ret)) (.seq (.region 0 [
 oC 33 .eql 19 8 0,
 oM 32 33 0] []) (.cond (tm 32) (.seq (.region 0 [
 o1 34 (.build [iz,iz,iz,iz,iz,iz,iz,iz,iz,iz,iz,iz,iz,iz,.zsl,iz,iz,iz,iz,.zsl,iz,.bool false,iz,.bool false] [(0,1,(ki 7))]) 0,
 oS 24 6 34 0] []) (.ret)) (.seq (.region 0 [
 oC 36 .eql 19 9 0,
 oM 35 36 0] []) (.cond (tm 35) (.seq (.region 5 [
 oM 37 0 0,
 o1 38 (.call (fc 55) [(vw 37),(false,(ki 6))] false 4) 0,
 o1 39 (.bin .add (ki 1) (tm 38)) 4,
 o1 40 (.build [iz,iz,iz,iz,iz,iz,iz,iz,iz,iz,iz,iz,iz,iz,.zsl,iz,iz,iz,iz,.zsl,iz,.bool false,iz,.bool false] [(0,1,(ki 8)),(22,1,(tm 39))]) 4,
 o1 9 (.alloc [iz,iz,iz,iz,iz,iz,iz,iz,iz,iz,iz,iz,iz,iz,.zsl,iz,iz,iz,iz,.zsl,iz,.bool false,iz,.bool false]) 4,
 oS 24 9 40 5] []) (.seq (.region 4 [
 oM 41 0 0,
 o1 42 (.call (fc 55) [(vw 41),(false,(ki 2))] false 4) 0,
 oC 43 .eql 42 0 4,
 oF 44 23 9 4,
 oS 1 44 43 4] []) (.seq (.region 0 [
 oT 45 24 9 0,
 oS 24 6 45 0] []) (.ret)))) (.seq (.region 0 [
 oC 47 .eql 19 10 0,
 oM 46 47 0] []) (.cond (tm 46) (.seq (.region 4 [
 oM 48 0 0,
 oM 49 8 0,
 o1 50 (.call (fc 91) [(vw 48),(false,(ki 9)),(vv 49)] false 4) 0,
 oS 24 6 50 4] []) (.ret)) (.seq (.region 0 [
 oC 52 .eql 19 11 0,
 oM 51 52 0] []) (.cond (tm 51) (.seq (.region 4 [
 oM 53 8 0,
 oM 54 0 0,
 o1 55 (.call (fc 55) [(vw 54),(false,(ki 2))] false 4) 0,
 o1 56 (.build [iz,iz,iz,iz,iz,iz,iz,iz,iz,iz,iz,iz,iz,iz,.zsl,iz,iz,iz,iz,.zsl,iz,.bool false,iz,.bool false] [(0,1,(ki 10)),(1,1,(tm 53)),(20,1,(tm 55))]) 4,
 oS 24 6 56 4] []) (.ret)) (.skip))))))))))))))))) (.seq (.region 8 [
 oM 57 8 0,
 oM 58 0 0,
 oM 59 2 0,
 o1 60 (.call (fc 56) [(vv 59),(false,(ki 1)),(false,(ki 1073741824))] false 4) 0,
 o1 61 (.call (fc 92) [(vw 58),(vv 60)] false 4) 4,
 o1 62 (.build [iz,iz,iz,iz,iz,iz,iz,iz,iz,iz,iz,iz,iz,iz,.zsl,iz,iz,iz,iz,.zsl,iz,.bool false,iz,.bool false] [(0,1,(ki 1)),(1,1,(tm 57)),(2,17,(tm 61))]) 8,
 oS 24 6 62 8] []) (.ret)))))),[.cell true 24 6],true⟩
def s54 : Sig := ⟨(.cons (.ptr 0 0 0) (.cons (.v (.int .i64)) (.cons (.v (.int .i64)) .nil))),[.one false (.pair (.int .u64) .unit)],((.v (.pair (.int .i64) (.pair (.int .i64) (.pair .request (.pair (.list (.int .u8)) (.pair (.int .i64) (.pair .bool (.pair (.int .i64) .bool)))))))),[.one false (.pair (.int .u64) .unit)]),[]⟩
def F54 (L : Lp) (g55 : Int → (Int × Unit) → Option (Int × ((Int × Unit) × Unit))) (g56 : Int → Int → Int → Option Int) (g91 : Int → Int → (Int × Unit) → Option ((Int × (Int × (Request × ((List Int) × (Int × (Bool × (Int × Bool))))))) × ((Int × Unit) × Unit))) (g92 : Int → (Int × Unit) → Option (Request × ((Int × Unit) × Unit))) (users0 : Int) (keys1 : Int) (a2 : (Int × Unit)) : Option ((Int × (Int × (Request × ((List Int) × (Int × (Bool × (Int × Bool))))))) × ((Int × Unit) × Unit)) :=
 Option.bind (g55 12 a2) fun r3 =>
 Option.bind (g56 users0 1 8) fun r4 =>
 Option.bind (g55 r4 r3.2.1) fun r5 =>
 Option.bind (α := ((Unit × (Unit × (Bool × Unit))) × ((Int × Unit) × ((Int × (Int × (Int × (Int × (Int × (Int × (Int × (Int × (Int × (Int × (Int × (Int × (Int × (Int × (Unit × (Int × (Int × (Int × (Int × (Unit × (Int × (Bool × (Int × (Bool × Unit)))))))))))))))))))))))) × Unit))))
 (cond (decide (r3.1 = 4))
 (some (((),(),true,()),(r5.2.1,(0,0,0,0,0,0,0,0,0,0,0,0,0,0,(),0,0,0,0,(),0,false,0,false,()),())))
 (some (((),(),decide (r3.1 = 5),()),(r5.2.1,(0,0,0,0,0,0,0,0,0,0,0,0,0,0,(),0,0,0,0,(),0,false,0,false,()),())))) fun x6 =>
 cond x6.1.2.2.1
 (Option.bind (g91 3 r5.1 x6.2.1) fun r7 =>
 some (r7.1,(r7.2.1,())))
 (cond (decide (r3.1 = 6))
 (some ((5,(0,(Request.mk 0 0 0 0 0 0 (Res.mk 0 0 0 0) 0 0 [] 0 0 0 0,([],(0,(false,(0,false))))))),(x6.2.1,())))
 (cond (decide (r3.1 = 7))
 (some ((6,(0,(Request.mk 0 0 0 0 0 0 (Res.mk 0 0 0 0) 0 0 [] 0 0 0 0,([],(0,(false,(0,false))))))),(x6.2.1,())))
 (cond (decide (r3.1 = 8))
 (some ((7,(0,(Request.mk 0 0 0 0 0 0 (Res.mk 0 0 0 0) 0 0 [] 0 0 0 0,([],(0,(false,(0,false))))))),(x6.2.1,())))
 (cond (decide (r3.1 = 9))
 (Option.bind (g55 6 x6.2.1) fun r8 =>
 Option.bind (g55 2 r8.2.1) fun r9 =>
 some ((8,(0,(Request.mk 0 0 0 0 0 0 (Res.mk 0 0 0 0) 0 0 [] 0 0 0 0,([],(0,(false,(IntKind.wrap .i64 (1 + r8.1),decide (r9.1 = 0)))))))),(r9.2.1,())))
 (cond (decide (r3.1 = 10))
 (Option.bind (g91 9 r5.1 x6.2.1) fun r10 =>
 some (r10.1,(r10.2.1,())))
 (cond (decide (r3.1 = 11))
 (Option.bind (g55 2 x6.2.1) fun r11 =>
 some ((10,(r5.1,(Request.mk 0 0 0 0 0 0 (Res.mk 0 0 0 0) 0 0 [] 0 0 0 0,([],(r11.1,(false,(0,false))))))),(r11.2.1,())))
 (Option.bind (g56 keys1 1 1073741824) fun r12 =>
 Option.bind (g92 r12 x6.2.1) fun r13 =>
 some ((1,(r5.1,(r13.1,([],(0,(false,(0,false))))))),(r13.2.1,())))))))))
theorem e54 (L : Lp) (g55 : Int → (Int × Unit) → Option (Int × ((Int × Unit) × Unit))) (g56 : Int → Int → Int → Option Int) (g91 : Int → Int → (Int × Unit) → Option ((Int × (Int × (Request × ((List Int) × (Int × (Bool × (Int × Bool))))))) × ((Int × Unit) × Unit))) (g92 : Int → (Int × Unit) → Option (Request × ((Int × Unit) × Unit))) (x : s54.args.den) (h : denH s54.heap) : nrun [⟨55,s55,fun x h => g55 x.2.1 h.1⟩,⟨56,s56,fun x h => g56 x.1 x.2.1 x.2.2.1⟩,⟨91,s91,fun x h => g91 x.2.1 x.2.2.1 h.1⟩,⟨92,s92,fun x h => g92 x.2.1 h.1⟩] L n54 s54 x h = F54 L g55 g56 g91 g92 x.2.1 x.2.2.1 h.1 := by kernel_rfl
def f54 : Int → Int → (Int × Unit) → Option ((Int × (Int × (Request × ((List Int) × (Int × (Bool × (Int × Bool))))))) × ((Int × Unit) × Unit)) := F54 (@LN LOOPS) f55 f56 f91 f92
@[reducible] def t54 : Ent := ⟨54,s54,fun x h => f54 x.2.1 x.2.2.1 h.1⟩
theorem k54 : chkNF Tryz.prog Tryz.f54 n54 = true := by kernel_rfl
theorem ok54 : NOk Tryz.prog t54 := NOk.body (T := [t55,t56,t91,t92]) mixed (nall_cons ok55 (nall_cons ok56 (nall_cons ok91 (nall_cons ok92 nall_nil)))) (oneEach_of (by kernel_rfl)) Tryz.func54 k54 (by kernel_rfl) (fun x h => e54 _ _ _ _ _ x h)
def n55_1 : NFunc := ⟨28,.seq (.region 0 [
 o1 4 (.move (ki 0)) 0] []) (.seq (.seq (.region 0 [
 oM 5 0 0,
 o1 6 (.eqP false (tm 5) (.const (.nilp))) 0,
 oM 7 6 0,
 oN 8 1 7 0,
 o2 9 (.bin .lss (tm 8) (ki 1)) 7 0,
 o1 10 (.pick (tm 7) kt (tm 9)) 0] []) (.cond (tm 10) (.seq (.region 0 [
 o1 4 (.move (ki 0)) 0] []) (.ret)) (.skip))) (.seq (.region 4 [
 oM 11 0 0,
 oM 12 0 0,
 o1 13 (.nilCheck (tm 12)) 0,
 oF 14 0 13 0,
 oL 15 14 0,
 o1 16 (.call (fc 93) [(vv 15)] false 4) 0,
 o1 17 (.nilCheck (tm 11)) 4,
 oF 18 0 17 4,
 oS 1 18 16 4] []) (.seq (.region 0 [
 oM 19 0 0,
 o1 20 (.nilCheck (tm 19)) 0,
 oF 21 0 20 0,
 oL 22 21 0,
 o1 23 (.bin .shr (tm 22) (.const (.int .u64 (33)))) 0,
 oM 24 1 0,
 o1 25 (.conv .u64 (tm 24)) 0,
 oB 26 .rem 23 25 0,
 o1 27 (.conv .i64 (tm 26)) 0,
 oM 4 27 0] []) (.ret)))),[.tmp 4],true⟩
def s55_1 : Sig := ⟨(.cons .nilp (.cons (.v (.int .i64)) .nil)),[],((.v (.int .i64)),[]),[]⟩
def F55_1 (L : Lp)  (an0 : Int) : Option Int :=
 some 0
theorem e55_1 (L : Lp)  (x : s55_1.args.den) (h : denH s55_1.heap) : nrun [] L n55_1 s55_1 x h = F55_1 L  x.2.1 := by kernel_rfl
def f55_1 : Int → Option Int := F55_1 (@LN LOOPS) 
@[reducible] def t55_1 : Ent := ⟨55,s55_1,fun x h => f55_1 x.2.1⟩
theorem k55_1 : chkNF Tryz.prog Tryz.f55 n55_1 = true := by kernel_rfl
theorem ok55_1 : NOk Tryz.prog t55_1 := NOk.body (T := []) mixed nall_nil (oneEach_of (by kernel_rfl)) Tryz.func55 k55_1 (by kernel_rfl) (fun x h => e55_1 _  x h)
def n24 : NFunc := ⟨25,.seq (.region 0 [
 o1 8 (.move (.const (.zsl))) 0] []) (.seq (.seq (.region 0 [
 oM 10 0 0,
 o1 11 (.eqP false (tm 10) (.const (.nilp))) 0] []) (.cond (tm 11) (.seq (.region 0 [
 o1 8 (.move (.const (.zsl))) 0] []) (.ret)) (.skip))) (.seq (.region 0 [
 o1 9 (.move (.const (.zsl))) 0] []) (.seq (.seq (.region 4 [
 oM 12 1 0,
 o1 13 (.call (fc 56) [(vv 12),(false,(ki 0)),(false,(ki 4096))] false 4) 0,
 o1 14 (.move (ki 0)) 4] []) (.block 0 (.loopU [0,2,3,9,13,14] 0 (.seq (.region 0 [
 oB 15 .lss 14 13 0] []) (.seq (.cond (tm 15) (.skip) (.exit 0)) (.seq (.block 1 (.region 6 [
 oM 16 9 0,
 oM 17 0 0,
 oM 18 2 0,
 oM 19 3 0,
 o1 20 (.call (fc 54) [(vw 17),(vv 18),(vv 19)] false 4) 0,
 o1 21 (.buildSlice 24 1 true [iz,iz,iz,iz,iz,iz,iz,iz,iz,iz,iz,iz,iz,iz,.zsl,iz,iz,iz,iz,.zsl,iz,.bool false,iz,.bool false] [(0,(tm 20))]) 4,
 o1 22 (.append 24 224 true (tm 16) (tm 21)) 5,
 oM 9 22 6] [])) (.region 0 [
 oC 23 .add 14 1 0,
 oM 14 23 0] []))))))) (.seq (.region 0 [
 oM 24 9 0,
 oM 8 24 0] []) (.ret))))),[.tmp 8],true⟩
def s24 : Sig := ⟨(.cons .nilp (.cons (.v (.int .i64)) (.cons (.v (.int .i64)) (.cons (.v (.int .i64)) .nil)))),[],((.v (.list (.pair (.int .i64) (.pair (.int .i64) (.pair .request (.pair (.list (.int .u8)) (.pair (.int .i64) (.pair .bool (.pair (.int .i64) .bool))))))))),[]),[]⟩
def F24 (L : Lp)  (an0 : Int) (users1 : Int) (keys2 : Int) : Option (List (Int × (Int × (Request × ((List Int) × (Int × (Bool × (Int × Bool)))))))) :=
 some []
theorem e24 (L : Lp)  (x : s24.args.den) (h : denH s24.heap) : nrun [] L n24 s24 x h = F24 L  x.2.1 x.2.2.1 x.2.2.2.1 := by kernel_rfl
def f24 : Int → Int → Int → Option (List (Int × (Int × (Request × ((List Int) × (Int × (Bool × (Int × Bool)))))))) := F24 (@LN LOOPS) 
@[reducible] def t24 : Ent := ⟨24,s24,fun x h => f24 x.2.1 x.2.2.1 x.2.2.2.1⟩
theorem k24 : chkNF Tryz.prog Tryz.f24 n24 = true := by kernel_rfl
theorem ok24 : NOk Tryz.prog t24 := NOk.body (T := []) mixed nall_nil (oneEach_of (by kernel_rfl)) Tryz.func24 k24 (by kernel_rfl) (fun x h => e24 _  x h)
def n54_1 : NFunc := ⟨63,.seq (.region 1 [
 o1 6 (.alloc [iz,iz,iz,iz,iz,iz,iz,iz,iz,iz,iz,iz,iz,iz,.zsl,iz,iz,iz,iz,.zsl,iz,.bool false,iz,.bool false]) 0] []) (.seq (.seq (.region 0 [
 oM 10 0 0,
 o1 11 (.eqP false (tm 10) (.const (.nilp))) 0] []) (.cond (tm 11) (.seq (.region 0 [
 o1 12 (.build [iz,iz,iz,iz,iz,iz,iz,iz,iz,iz,iz,iz,iz,iz,.zsl,iz,iz,iz,iz,.zsl,iz,.bool false,iz,.bool false] []) 0,
 oS 24 6 12 0] []) (.ret)) (.skip))) (.seq (.region 4 [
 oM 13 0 0,
 o1 14 (.call (fc 55) [(vw 13),(false,(ki 12))] false 4) 0,
 oM 7 14 4] []) (.seq (.region 8 [
 oM 15 0 0,
 oM 16 1 0,
 o1 17 (.call (fc 56) [(vv 16),(false,(ki 1)),(false,(ki 8))] false 4) 0,
 o1 18 (.call (fc 55) [(vw 15),(vv 17)] false 4) 4,
 oM 8 18 8] []) (.seq (.seq (.region 0 [
 oM 19 7 0] []) (.block 0 (.seq (.seq (.region 0 [
 oC 21 .eql 19 4 0,
 oM 20 21 0] []) (.cond (tm 20) (.skip) (.region 0 [
 oC 22 .eql 19 5 0,
 oM 20 22 0] []))) (.cond (tm 20) (.seq (.region 4 [
 oM 23 0 0,
 oM 24 8 0,
 o1 25 (.call (fc 91) [(vw 23),(false,(ki 3)),(vv 24)] false 4) 0,
 oS 24 6 25 4] []) (.ret)) (.seq (.region 0 [
 oC 27 .eql 19 6 0,
 oM 26 27 0] []) (.cond (tm 26) (.seq (.region 0 [
 o1 28 (.build [iz,iz,iz,iz,iz,iz,iz,iz,iz,iz,iz,iz,iz,iz,.zsl,iz,iz,iz,iz,.zsl,iz,.bool false,iz,.bool false] [(0,1,(ki 5))]) 0,
 oS 24 6 28 0] []) (.ret)) (.seq (.region 0 [
 oC 30 .eql 19 7 0,
 oM 29 30 0] []) (.cond (tm 29) (.seq (.region 0 [
 o1 31 (.build [iz,iz,iz,iz,iz,iz,iz,iz,iz,iz,iz,iz,iz,iz,.zsl,iz,iz,iz,iz,.zsl,iz,.bool false,iz,.bool false] [(0,1,(ki 6))]) 0,
 oS 24 6 31 0] []) (.ret)) (.seq (.region 0 [
 oC 33 .eql 19 8 0,
 oM 32 33 0] []) (.cond (tm 32) (.seq (.region 0 [
 o1 34 (.build [iz,iz,iz,iz,iz,iz,iz,iz,iz,iz,iz,iz,iz,iz,.zsl,iz,iz,iz,iz,.zsl,iz,.bool false,iz,.bool false] [(0,1,(ki 7))]) 0,
 oS 24 6 34 0] []) (.ret)) (.seq (.region 0 [
 oC 36 .eql 19 9 0,
 oM 35 36 0] []) (.cond (tm 35) (.seq (.region 5 [
 oM 37 0 0,
 o1 38 (.call (fc 55) [(vw 37),(false,(ki 6))] false 4) 0,
 o1 39 (.bin .add (ki 1) (tm 38)) 4,
 o1 40 (.build [iz,iz,iz,iz,iz,iz,iz,iz,iz,iz,iz,iz,iz,iz,.zsl,iz,iz,iz,iz,.zsl,iz,.bool false,iz,.bool false] [(0,1,(ki 8)),(22,1,(tm 39))]) 4,
 o1 9 (.alloc [iz,iz,iz,iz,iz,iz,iz,iz,iz,iz,iz,iz,iz,iz,.zsl,iz,iz,iz,iz,.zsl,iz,.bool false,iz,.bool false]) 4,
 oS 24 9 40 5] []) (.seq (.region 4 [
 oM 41 0 0,
 o1 42 (.call (fc 55) [(vw 41),(false,(ki 2))] false 4) 0,
 oC 43 .eql 42 0 4,
 oF 44 23 9 4,
 oS 1 44 43 4] []) (.seq (.region 0 [
 oT 45 24 9 0,
 oS 24 6 45 0] []) (.ret)))) (.seq (.region 0 [
 oC 47 .eql 19 10 0,
 oM 46 47 0] []) (.cond (tm 46) (.seq (.region 4 [
 oM 48 0 0,
 oM 49 8 0,
 o1 50 (.call (fc 91) [(vw 48),(false,(ki 9)),(vv 49)] false 4) 0,
 oS 24 6 50 4] []) (.ret)) (.seq (.region 0 [
 oC 52 .eql 19 11 0,
 oM 51 52 0] []) (.cond (tm 51) (.seq (.region 4 [
 oM 53 8 0,
 oM 54 0 0,
 o1 55 (.call (fc 55) [(vw 54),(false,(ki 2))] false 4) 0,
 o1 56 (.build [iz,iz,iz,iz,iz,iz,iz,iz,iz,iz,iz,iz,iz,iz,.zsl,iz,iz,iz,iz,.zsl,iz,.bool false,iz,.bool false] [(0,1,(ki 10)),(1,1,(tm 53)),(20,1,(tm 55))]) 4,
 oS 24 6 56 4] []) (.ret)) (.skip))))))))))))))))) (.seq (.region 8 [
 oM 57 8 0,
 oM 58 0 0,
 oM 59 2 0,
 o1 60 (.call (fc 56) [(vv 59),(false,(ki 1)),(false,(ki 1073741824))] false 4) 0,
 o1 61 (.call (fc 92) [(vw 58),(vv 60)] false 4) 4,
 o1 62 (.build [iz,iz,iz,iz,iz,iz,iz,iz,iz,iz,iz,iz,iz,iz,.zsl,iz,iz,iz,iz,.zsl,iz,.bool false,iz,.bool false] [(0,1,(ki 1)),(1,1,(tm 57)),(2,17,(tm 61))]) 8,
 oS 24 6 62 8] []) (.ret)))))),[.cell true 24 6],true⟩
def s54_1 : Sig := ⟨(.cons .nilp (.cons (.v (.int .i64)) (.cons (.v (.int .i64)) .nil))),[],((.v (.pair (.int .i64) (.pair (.int .i64) (.pair .request (.pair (.list (.int .u8)) (.pair (.int .i64) (.pair .bool (.pair (.int .i64) .bool)))))))),[]),[]⟩
def F54_1 (L : Lp)  (users0 : Int) (keys1 : Int) : Option (Int × (Int × (Request × ((List Int) × (Int × (Bool × (Int × Bool))))))) :=
 some (0,(0,(Request.mk 0 0 0 0 0 0 (Res.mk 0 0 0 0) 0 0 [] 0 0 0 0,([],(0,(false,(0,false)))))))
theorem e54_1 (L : Lp)  (x : s54_1.args.den) (h : denH s54_1.heap) : nrun [] L n54_1 s54_1 x h = F54_1 L  x.2.1 x.2.2.1 := by kernel_rfl
def f54_1 : Int → Int → Option (Int × (Int × (Request × ((List Int) × (Int × (Bool × (Int × Bool))))))) := F54_1 (@LN LOOPS) 
@[reducible] def t54_1 : Ent := ⟨54,s54_1,fun x h => f54_1 x.2.1 x.2.2.1⟩
theorem k54_1 : chkNF Tryz.prog Tryz.f54 n54_1 = true := by kernel_rfl
theorem ok54_1 : NOk Tryz.prog t54_1 := NOk.body (T := []) mixed nall_nil (oneEach_of (by kernel_rfl)) Tryz.func54 k54_1 (by kernel_rfl) (fun x h => e54_1 _  x h)
def n24_1 : NFunc := ⟨25,.seq (.region 0 [
 o1 8 (.move (.const (.zsl))) 0] []) (.seq (.seq (.region 0 [
 oM 10 0 0,
 o1 11 (.eqP false (tm 10) (.const (.nilp))) 0] []) (.cond (tm 11) (.seq (.region 0 [
 o1 8 (.move (.const (.zsl))) 0] []) (.ret)) (.skip))) (.seq (.region 0 [
 o1 9 (.move (.const (.zsl))) 0] []) (.seq (.seq (.region 4 [
 oM 12 1 0,
 o1 13 (.call (fc 56) [(vv 12),(false,(ki 0)),(false,(ki 4096))] false 4) 0,
 o1 14 (.move (ki 0)) 4] []) (.block 0 (.pre [0,2,3,9,13,14] [.mat 9 24 true] (.loop [0,2,3,9,13,14] ⟨[(0,(.ptr 0 0 0)),(9,(.slw 1 24)),(14,vI)],[2,3,13],[.one false (.pair (.int .u64) .unit),.typed (.pair (.int .i64) (.pair (.int .i64) (.pair .request (.pair (.list (.int .u8)) (.pair (.int .i64) (.pair .bool (.pair (.int .i64) .bool)))))))]⟩ (.seq (.region 0 [
 oB 15 .lss 14 13 0] []) (.seq (.cond (tm 15) (.skip) (.exit 0)) (.seq (.block 1 (.region 6 [
 oM 16 9 0,
 oM 17 0 0,
 oM 18 2 0,
 oM 19 3 0,
 o1 20 (.call (fc 54) [(vw 17),(vv 18),(vv 19)] false 4) 0,
 o1 21 (.buildSlice 24 1 true [iz,iz,iz,iz,iz,iz,iz,iz,iz,iz,iz,iz,iz,iz,.zsl,iz,iz,iz,iz,.zsl,iz,.bool false,iz,.bool false] [(0,(tm 20))]) 4,
 o1 22 (.append 24 224 true (tm 16) (tm 21)) 5,
 oM 9 22 6] [])) (.region 0 [
 oC 23 .add 14 1 0,
 oM 14 23 0] [])))))))) (.seq (.region 0 [
 oM 24 9 0,
 oM 8 24 0] []) (.ret))))),[.tmp 8],true⟩
def s24_1 : Sig := ⟨(.cons (.ptr 0 0 0) (.cons (.v (.int .i64)) (.cons (.v (.int .i64)) (.cons (.v (.int .i64)) .nil)))),[.one false (.pair (.int .u64) .unit)],((.v (.list (.pair (.int .i64) (.pair (.int .i64) (.pair .request (.pair (.list (.int .u8)) (.pair (.int .i64) (.pair .bool (.pair (.int .i64) .bool))))))))),[.one false (.pair (.int .u64) .unit)]),[]⟩
def l24_1_0 (g54 : Int → Int → (Int × Unit) → Option ((Int × (Int × (Request × ((List Int) × (Int × (Bool × (Int × Bool))))))) × ((Int × Unit) × Unit))) (users1 : Int) (keys2 : Int) (r4 : Int) (nx6 : ((Unit × (Unit × (Int × Unit))) × ((Int × Unit) × ((List (Int × (Int × (Request × ((List Int) × (Int × (Bool × (Int × Bool)))))))) × Unit))) → Option ((List (Int × (Int × (Request × ((List Int) × (Int × (Bool × (Int × Bool)))))))) × ((Int × Unit) × Unit))) (z7 : Int) (z8 : (Int × Unit)) (z9 : (List (Int × (Int × (Request × ((List Int) × (Int × (Bool × (Int × Bool))))))))) : Option ((List (Int × (Int × (Request × ((List Int) × (Int × (Bool × (Int × Bool)))))))) × ((Int × Unit) × Unit)) :=
 cond (decide (z7 < r4))
 (Option.bind (g54 users1 keys2 z8) fun r10 =>
 cond (smallB ((List.length z9) + 1) 224)
 (nx6 (((),(),IntKind.wrap .i64 (z7 + 1),()),(r10.2.1,z9 ++ [r10.1],())))
 (none))
 (some (z9,(z8,())))
def F24_1 (L : Lp) (g56 : Int → Int → Int → Option Int) (g54 : Int → Int → (Int × Unit) → Option ((Int × (Int × (Request × ((List Int) × (Int × (Bool × (Int × Bool))))))) × ((Int × Unit) × Unit))) (an0 : Int) (users1 : Int) (keys2 : Int) (a3 : (Int × Unit)) : Option ((List (Int × (Int × (Request × ((List Int) × (Int × (Bool × (Int × Bool)))))))) × ((Int × Unit) × Unit)) :=
 Option.bind (g56 an0 0 4096) fun r4 =>
 L (fun (s5 : ((Unit × (Unit × (Int × Unit))) × ((Int × Unit) × ((List (Int × (Int × (Request × ((List Int) × (Int × (Bool × (Int × Bool)))))))) × Unit)))) nx6 => l24_1_0 g54 users1 keys2 r4 nx6 s5.1.2.2.1 s5.2.1 s5.2.2.1) (((),(),0,()),(a3,[],()))
theorem e24_1 (L : Lp) (g56 : Int → Int → Int → Option Int) (g54 : Int → Int → (Int × Unit) → Option ((Int × (Int × (Request × ((List Int) × (Int × (Bool × (Int × Bool))))))) × ((Int × Unit) × Unit))) (x : s24_1.args.den) (h : denH s24_1.heap) : nrun [⟨56,s56,fun x h => g56 x.1 x.2.1 x.2.2.1⟩,⟨54,s54,fun x h => g54 x.2.1 x.2.2.1 h.1⟩] L n24_1 s24_1 x h = F24_1 L g56 g54 x.2.1 x.2.2.1 x.2.2.2.1 h.1 := by kernel_rfl
def f24_1 : Int → Int → Int → (Int × Unit) → Option ((List (Int × (Int × (Request × ((List Int) × (Int × (Bool × (Int × Bool)))))))) × ((Int × Unit) × Unit)) := F24_1 (@LN LOOPS) f56 f54
@[reducible] def t24_1 : Ent := ⟨24,s24_1,fun x h => f24_1 x.2.1 x.2.2.1 x.2.2.2.1 h.1⟩
theorem k24_1 : chkNF Tryz.prog Tryz.f24 n24_1 = true := by kernel_rfl
theorem ok24_1 : NOk Tryz.prog t24_1 := NOk.body (T := [t56,t54]) mixed (nall_cons ok56 (nall_cons ok54 nall_nil)) (oneEach_of (by kernel_rfl)) Tryz.func24 k24_1 (by kernel_rfl) (fun x h => e24_1 _ _ _ x h)
def n22 : NFunc := ⟨38,.seq (.region 0 [
 o1 0 (.move kf) 0] []) (.seq (.region 8 [
 o1 5 (.call (fc 23) [(false,(.const (.int .u64 (7))))] false 4) 0,
 o1 6 (.call (fc 23) [(false,(.const (.int .u64 (7))))] false 4) 4,
 oM 1 5 8,
 oM 2 6 8] []) (.seq (.seq (.region 0 [
 o1 3 (.move (ki 0)) 0] []) (.block 0 (.loopU [1,2,3] 6 (.seq (.seq (.region 0 [
 oM 7 3 0,
 oC 8 .lss 7 5 0] []) (.cond (tm 8) (.skip) (.exit 0))) (.seq (.block 1 (.seq (.region 12 [
 oM 11 1 0,
 o1 12 (.call (fc 54) [(vw 11),(false,(ki 3)),(false,(ki 9))] false 4) 0,
 oM 13 2 4,
 o1 14 (.call (fc 54) [(vw 13),(false,(ki 3)),(false,(ki 9))] false 4) 4,
 o1 15 (.call (fc 11) [(vv 12),(vv 14)] false 4) 8,
 o1 16 (.un .not (tm 15)) 12] []) (.cond (tm 16) (.seq (.region 0 [
 o1 0 (.move kf) 0] []) (.ret)) (.skip)))) (.region 0 [
 oM 9 3 0,
 oC 10 .add 9 1 0,
 oM 3 10 0] [])))))) (.seq (.region 0 [
 o1 4 (.move (.const (.nilp))) 0] []) (.seq (.region 16 [
 oM 17 4 0,
 o1 18 (.call (fc 55) [(vw 17),(false,(ki 3))] false 4) 0,
 oC 19 .eql 18 0 4,
 oM 20 19 4,
 o3 21 (.move (tm 4)) 20 4,
 o3 22 (.call (fc 24) [(vw 21),(false,(ki 3)),(false,(ki 1)),(false,(ki 1))] false 4) 20 4,
 o3 23 (.len (tm 22)) 20 8,
 o3 24 (.bin .eql (tm 23) (ki 0)) 20 8,
 o1 25 (.pick (tm 20) (tm 24) kf) 8,
 oM 26 25 8,
 o3 27 (.move (tm 4)) 26 8,
 o3 28 (.call (fc 54) [(vw 27),(false,(ki 1)),(false,(ki 1))] false 4) 26 8,
 o3 29 (.field false 0 1 (tm 28)) 26 12,
 o3 30 (.bin .eql (tm 29) (ki 0)) 26 12,
 o1 31 (.pick (tm 26) (tm 30) kf) 12,
 oM 32 31 12,
 o3 33 (.move (tm 1)) 32 12,
 o3 34 (.call (fc 24) [(vw 33),(false,(ki 4)),(false,(ki 2)),(false,(ki 2))] false 4) 32 12,
 o3 35 (.len (tm 34)) 32 16,
 o3 36 (.bin .eql (tm 35) (ki 4)) 32 16,
 o1 37 (.pick (tm 32) (tm 36) kf) 16,
 oM 0 37 16] []) (.ret))))),[.tmp 0],true⟩
def s22 : Sig := ⟨.nil,[],((.v .bool),[]),[]⟩
def F22 (L : Lp) (g23 : Int → Option (Unit × ((Int × Unit) × Unit))) (g54 : Int → Int → (Int × Unit) → Option ((Int × (Int × (Request × ((List Int) × (Int × (Bool × (Int × Bool))))))) × ((Int × Unit) × Unit))) (g11 : (Int × (Int × (Request × ((List Int) × (Int × (Bool × (Int × Bool))))))) → (Int × (Int × (Request × ((List Int) × (Int × (Bool × (Int × Bool))))))) → Option Bool) (g55_1 : Int → Option Int) (g24 : Int → Int → Int → Option (List (Int × (Int × (Request × ((List Int) × (Int × (Bool × (Int × Bool))))))))) (g54_1 : Int → Int → Option (Int × (Int × (Request × ((List Int) × (Int × (Bool × (Int × Bool)))))))) (g24_1 : Int → Int → Int → (Int × Unit) → Option ((List (Int × (Int × (Request × ((List Int) × (Int × (Bool × (Int × Bool)))))))) × ((Int × Unit) × Unit)))  : Option Bool :=
 Option.bind (g23 7) fun r0 =>
 Option.bind (g23 7) fun r1 =>
 Option.bind (g54 3 9 r0.2.1) fun r2 =>
 Option.bind (g54 3 9 r1.2.1) fun r3 =>
 Option.bind (g11 r2.1 r3.1) fun r4 =>
 cond (!r4)
 (some false)
 (Option.bind (g54 3 9 r2.2.1) fun r5 =>
 Option.bind (g54 3 9 r3.2.1) fun r6 =>
 Option.bind (g11 r5.1 r6.1) fun r7 =>
 cond (!r7)
 (some false)
 (Option.bind (g54 3 9 r5.2.1) fun r8 =>
 Option.bind (g54 3 9 r6.2.1) fun r9 =>
 Option.bind (g11 r8.1 r9.1) fun r10 =>
 cond (!r10)
 (some false)
 (Option.bind (g54 3 9 r8.2.1) fun r11 =>
 Option.bind (g54 3 9 r9.2.1) fun r12 =>
 Option.bind (g11 r11.1 r12.1) fun r13 =>
 cond (!r13)
 (some false)
 (Option.bind (g54 3 9 r11.2.1) fun r14 =>
 Option.bind (g54 3 9 r12.2.1) fun r15 =>
 Option.bind (g11 r14.1 r15.1) fun r16 =>
 cond (!r16)
 (some false)
 (Option.bind (g55_1 3) fun r17 =>
 cond (decide (r17 = 0))
 (Option.bind (g24 3 1 1) fun r18 =>
 cond (decide ((List.length r18 : Int) = 0))
 (Option.bind (g54_1 1 1) fun r19 =>
 cond (decide (r19.1 = 0))
 (Option.bind (g24_1 4 2 2 r14.2.1) fun r20 =>
 some (decide ((List.length r20.1 : Int) = 4)))
 (some false))
 (some false))
 (some false))))))
theorem e22 (L : Lp) (g23 : Int → Option (Unit × ((Int × Unit) × Unit))) (g54 : Int → Int → (Int × Unit) → Option ((Int × (Int × (Request × ((List Int) × (Int × (Bool × (Int × Bool))))))) × ((Int × Unit) × Unit))) (g11 : (Int × (Int × (Request × ((List Int) × (Int × (Bool × (Int × Bool))))))) → (Int × (Int × (Request × ((List Int) × (Int × (Bool × (Int × Bool))))))) → Option Bool) (g55_1 : Int → Option Int) (g24 : Int → Int → Int → Option (List (Int × (Int × (Request × ((List Int) × (Int × (Bool × (Int × Bool))))))))) (g54_1 : Int → Int → Option (Int × (Int × (Request × ((List Int) × (Int × (Bool × (Int × Bool)))))))) (g24_1 : Int → Int → Int → (Int × Unit) → Option ((List (Int × (Int × (Request × ((List Int) × (Int × (Bool × (Int × Bool)))))))) × ((Int × Unit) × Unit))) (x : s22.args.den) (h : denH s22.heap) : nrun [⟨23,s23,fun x h => g23 x.1⟩,⟨54,s54,fun x h => g54 x.2.1 x.2.2.1 h.1⟩,⟨11,s11,fun x h => g11 x.1 x.2.1⟩,⟨55,s55_1,fun x h => g55_1 x.2.1⟩,⟨24,s24,fun x h => g24 x.2.1 x.2.2.1 x.2.2.2.1⟩,⟨54,s54_1,fun x h => g54_1 x.2.1 x.2.2.1⟩,⟨24,s24_1,fun x h => g24_1 x.2.1 x.2.2.1 x.2.2.2.1 h.1⟩] L n22 s22 x h = F22 L g23 g54 g11 g55_1 g24 g54_1 g24_1  := by kernel_rfl
def f22 : Option Bool := F22 (@LN LOOPS) f23 f54 f11 f55_1 f24 f54_1 f24_1
@[reducible] def t22 : Ent := ⟨22,s22,fun x h => f22 ⟩
theorem k22 : chkNF Tryz.prog Tryz.f22 n22 = true := by kernel_rfl
theorem ok22 : NOk Tryz.prog t22 := NOk.body (T := [t23,t54,t11,t55_1,t24,t54_1,t24_1]) mixed (nall_cons ok23 (nall_cons ok54 (nall_cons ok11 (nall_cons ok55_1 (nall_cons ok24 (nall_cons ok54_1 (nall_cons ok24_1 nall_nil))))))) (oneEach_of (by kernel_rfl)) Tryz.func22 k22 (by kernel_rfl) (fun x h => e22 _ _ _ _ _ _ _ _ x h)
def n6 : NFunc := ⟨46,.seq (.region 0 [
 o1 6 (.move kf) 0] []) (.seq (.seq (.region 4 [
 o1 12 (.call (fc 22) [] false 4) 0,
 o1 13 (.un .not (tm 12)) 4] []) (.cond (tm 13) (.seq (.region 0 [
 o1 6 (.move kf) 0] []) (.ret)) (.skip))) (.seq (.region 8 [
 oM 14 0 0,
 o1 15 (.call (fc 23) [(vv 14)] false 4) 0,
 oM 16 1 4,
 oM 17 2 4,
 o1 18 (.call (fc 24) [(vw 15),(false,(ki 30)),(vv 16),(vv 17)] false 4) 4,
 oM 7 18 8] []) (.seq (.seq (.region 0 [
 oM 19 7 0,
 o1 20 (.len (tm 19)) 0,
 o1 21 (.move (ki 0)) 0] []) (.block 0 (.loop [7,19,20,21] ⟨[(21,vI)],[7,19,20],[]⟩ (.seq (.region 0 [
 oB 22 .lss 21 20 0] []) (.seq (.cond (tm 22) (.skip) (.exit 0)) (.seq (.block 1 (.seq (.region 1 [
 o1 23 (.indexSl 24 (tm 19) (tm 21)) 0,
 oT 24 24 23 0,
 o1 9 (.alloc [iz,iz,iz,iz,iz,iz,iz,iz,iz,iz,iz,iz,iz,iz,.zsl,iz,iz,iz,iz,.zsl,iz,.bool false,iz,.bool false]) 0,
 oS 24 9 24 1] []) (.seq (.seq (.region 4 [
 oT 25 24 9 0,
 o1 26 (.call (fc 12) [(vv 25)] false 4) 0,
 o1 27 (.un .not (tm 26)) 4] []) (.cond (tm 27) (.seq (.region 0 [
 o1 6 (.move kf) 0] []) (.ret)) (.skip))) (.seq (.region 9 [
 oT 29 24 9 0,
 o1 30 (.call (fc 14) [(vv 29)] false 4) 0,
 o1 31 (.call (fc 13) [(vv 30)] false 4) 4,
 oM 28 31 8,
 oX 32 28 0 8,
 oX 33 28 1 8,
 o1 10 (.alloc [iz,iz,iz,iz,iz,iz,iz,iz,iz,iz,iz,iz,iz,iz,.zsl,iz,iz,iz,iz,.zsl,iz,.bool false,iz,.bool false]) 8,
 oS 24 10 32 9,
 oM 11 33 9] []) (.seq (.region 4 [
 oM 34 11 0,
 oC 35 .neq 34 0 0,
 oM 36 35 0,
 o2 37 (.load true 24 (tm 9)) 36 0,
 o2 38 (.load true 24 (tm 10)) 36 0,
 o2 39 (.call (fc 11) [(vv 37),(vv 38)] false 4) 36 0,
 o2 40 (.un .not (tm 39)) 36 4,
 o1 41 (.pick (tm 36) kt (tm 40)) 4] []) (.cond (tm 41) (.seq (.region 0 [
 o1 6 (.move kf) 0] []) (.ret)) (.skip))))))) (.region 0 [
 oC 42 .add 21 1 0,
 oM 21 42 0] []))))))) (.seq (.region 0 [
 oM 43 7 0,
 o1 44 (.len (tm 43)) 0,
 oC 45 .eql 44 30 0,
 oM 6 45 0] []) (.ret))))),[.tmp 6],true⟩
def s6 : Sig := ⟨(.cons (.v (.int .u64)) (.cons (.v (.int .i64)) (.cons (.v (.int .i64)) .nil))),[],((.v .bool),[]),[]⟩
def l6_0 (g12 : (Int × (Int × (Request × ((List Int) × (Int × (Bool × (Int × Bool))))))) → Option Bool) (g14 : (Int × (Int × (Request × ((List Int) × (Int × (Bool × (Int × Bool))))))) → Option (List UInt8)) (g13 : (List UInt8) → Option ((Int × (Int × (Request × ((List Int) × (Int × (Bool × (Int × Bool))))))) × (Int × Unit))) (g11 : (Int × (Int × (Request × ((List Int) × (Int × (Bool × (Int × Bool))))))) → (Int × (Int × (Request × ((List Int) × (Int × (Bool × (Int × Bool))))))) → Option Bool) (r5 : ((List (Int × (Int × (Request × ((List Int) × (Int × (Bool × (Int × Bool)))))))) × ((Int × Unit) × Unit))) (nx7 : ((Int × Unit) × Unit) → Option Bool) (z8 : Int) : Option Bool :=
 cond (decide (z8 < (List.length r5.1 : Int)))
 (cond (decide (0 ≤ z8))
 (Option.bind (r5.1[Int.toNat z8]?) fun y9 =>
 Option.bind (g12 y9) fun r10 =>
 cond (!r10)
 (some false)
 (Option.bind (g14 y9) fun r11 =>
 Option.bind (g13 r11) fun r12 =>
 cond (!decide (r12.2.1 = 0))
 (some false)
 (Option.bind (g11 y9 r12.1) fun r13 =>
 cond (!r13)
 (some false)
 (nx7 ((IntKind.wrap .i64 (z8 + 1),()),())))))
 (none))
 (some (decide ((List.length r5.1 : Int) = 30)))
def F6 (L : Lp) (g22 : Option Bool) (g23 : Int → Option (Unit × ((Int × Unit) × Unit))) (g24_1 : Int → Int → Int → (Int × Unit) → Option ((List (Int × (Int × (Request × ((List Int) × (Int × (Bool × (Int × Bool)))))))) × ((Int × Unit) × Unit))) (g12 : (Int × (Int × (Request × ((List Int) × (Int × (Bool × (Int × Bool))))))) → Option Bool) (g14 : (Int × (Int × (Request × ((List Int) × (Int × (Bool × (Int × Bool))))))) → Option (List UInt8)) (g13 : (List UInt8) → Option ((Int × (Int × (Request × ((List Int) × (Int × (Bool × (Int × Bool))))))) × (Int × Unit))) (g11 : (Int × (Int × (Request × ((List Int) × (Int × (Bool × (Int × Bool))))))) → (Int × (Int × (Request × ((List Int) × (Int × (Bool × (Int × Bool))))))) → Option Bool) (seed0 : Int) (users1 : Int) (keys2 : Int) : Option Bool :=
 Option.bind (g22) fun r3 =>
 cond (!r3)
 (some false)
 (Option.bind (g23 seed0) fun r4 =>
 Option.bind (g24_1 30 users1 keys2 r4.2.1) fun r5 =>
 L (fun (s6 : ((Int × Unit) × Unit)) nx7 => l6_0 g12 g14 g13 g11 r5 nx7 s6.1.1) ((0,()),()))
theorem e6 (L : Lp) (g22 : Option Bool) (g23 : Int → Option (Unit × ((Int × Unit) × Unit))) (g24_1 : Int → Int → Int → (Int × Unit) → Option ((List (Int × (Int × (Request × ((List Int) × (Int × (Bool × (Int × Bool)))))))) × ((Int × Unit) × Unit))) (g12 : (Int × (Int × (Request × ((List Int) × (Int × (Bool × (Int × Bool))))))) → Option Bool) (g14 : (Int × (Int × (Request × ((List Int) × (Int × (Bool × (Int × Bool))))))) → Option (List UInt8)) (g13 : (List UInt8) → Option ((Int × (Int × (Request × ((List Int) × (Int × (Bool × (Int × Bool))))))) × (Int × Unit))) (g11 : (Int × (Int × (Request × ((List Int) × (Int × (Bool × (Int × Bool))))))) → (Int × (Int × (Request × ((List Int) × (Int × (Bool × (Int × Bool))))))) → Option Bool) (x : s6.args.den) (h : denH s6.heap) : nrun [⟨22,s22,fun x h => g22 ⟩,⟨23,s23,fun x h => g23 x.1⟩,⟨24,s24_1,fun x h => g24_1 x.2.1 x.2.2.1 x.2.2.2.1 h.1⟩,⟨12,s12,fun x h => g12 x.1⟩,⟨14,s14,fun x h => g14 x.1⟩,⟨13,s13,fun x h => g13 x.1⟩,⟨11,s11,fun x h => g11 x.1 x.2.1⟩] L n6 s6 x h = F6 L g22 g23 g24_1 g12 g14 g13 g11 x.1 x.2.1 x.2.2.1 := by kernel_rfl
def f6 : Int → Int → Int → Option Bool := F6 (@LN LOOPS) f22 f23 f24_1 f12 f14 f13 f11
@[reducible] def t6 : Ent := ⟨6,s6,fun x h => f6 x.1 x.2.1 x.2.2.1⟩
theorem k6 : chkNF Tryz.prog Tryz.f6 n6 = true := by kernel_rfl
theorem ok6 : NOk Tryz.prog t6 := NOk.body (T := [t22,t23,t24_1,t12,t14,t13,t11]) mixed (nall_cons ok22 (nall_cons ok23 (nall_cons ok24_1 (nall_cons ok12 (nall_cons ok14 (nall_cons ok13 (nall_cons ok11 nall_nil))))))) (oneEach_of (by kernel_rfl)) Tryz.func6 k6 (by kernel_rfl) (fun x h => e6 _ _ _ _ _ _ _ _ x h)
end NM
end Go.Proofs.YtpogjlhgbdpnbaaGreatDoor
end
