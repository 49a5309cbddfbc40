/-
  What the proof of LedgerDoes leans on, part 25. (Many texts laid together by program.)
-/
import Derived.Test.YtfelhbeiegppgaaPkBx
set_option linter.unnecessarySimpa false
set_option linter.unusedSimpArgs false
set_option linter.unusedVariables false
section
set_option maxRecDepth 100000
set_option maxHeartbeats 4000000
namespace Go.Proofs.Ytfelhbeiegppgaa
namespace NM
open AM Go.RowKit
def n53 : NFunc := ⟨87,.seq (.region 1 [
 o1 5 (.box 6 (tm 2)) 0,
 o1 6 (.move (.const (.zsl))) 1,
 o1 7 (.move (ki 0)) 1] []) (.seq (.seq (.region 8 [
 oF 12 0 5 0,
 oL 13 12 0,
 oC 14 .lss 13 1 0,
 oM 15 14 0,
 o2 16 (.fieldAddr 0 (tm 5)) 15 0,
 o2 17 (.load false 1 (tm 16)) 15 0,
 o2 18 (.bin .gtr (tm 17) (ki 1048576)) 15 0,
 o1 19 (.pick (tm 15) kt (tm 18)) 0,
 oM 20 19 0,
 o2 21 (.fieldAddr 5 (tm 5)) 20 0,
 o2 22 (.load false 1 (tm 21)) 20 0,
 o2 23 (.len (tm 22)) 20 0,
 o2 24 (.bin .eql (tm 23) (ki 0)) 20 0,
 o1 25 (.pick (tm 20) kt (tm 24)) 0,
 oM 26 25 0,
 o2 27 (.fieldAddr 5 (tm 5)) 26 0,
 o2 28 (.load false 1 (tm 27)) 26 0,
 oN 29 0 26 0,
 o2 30 (.len (tm 29)) 26 0,
 o2 31 (.call (fc 80) [(vv 28),(vv 30)] false 4) 26 0,
 o2 32 (.un .not (tm 31)) 26 4,
 o1 33 (.pick (tm 26) kt (tm 32)) 4,
 oM 34 33 4,
 o2 35 (.fieldAddr 1 (tm 5)) 34 4,
 o2 36 (.load true 4 (tm 35)) 34 4,
 o2 37 (.call (fc 25) [(vv 36)] false 4) 34 4,
 o2 38 (.un .not (tm 37)) 34 8,
 o1 39 (.pick (tm 34) kt (tm 38)) 8] []) (.cond (tm 39) (.seq (.region 0 [
 oM 40 1 0,
 oM 6 40 0,
 o1 7 (.move (ki 2)) 0] []) (.ret)) (.skip))) (.seq (.seq (.region 4 [
 oM 41 1 0,
 oF 42 0 5 0,
 oL 43 42 0,
 o1 44 (.call (fc 55) [(vv 41),(vv 43)] false 4) 0,
 oC 45 .geq 44 0 4] []) (.cond (tm 45) (.seq (.region 0 [
 oM 46 1 0,
 oM 6 46 0,
 o1 7 (.move (ki 31)) 0] []) (.ret)) (.skip))) (.seq (.region 0 [
 o1 8 (.move (ki 0)) 0] []) (.seq (.block 0 (.loop [0,1,5,8] ⟨[(5,(.ptr 0 0 0)),(8,vI)],[0,1],[.one false .alloc]⟩ (.seq (.seq (.region 0 [
 o4 47 (.move (tm 8)) 0 [],
 o4 48 (.move (tm 1)) 0 [],
 o4 49 (.len (tm 48)) 0 [],
 o4 50 (.bin .lss (tm 47) (tm 49)) 0 [],
 o4 51 (.move (tm 50)) 0 [],
 ⟨(some 52),.move (tm 1),(some (51,true)),0,(some ([],none))⟩,
 ⟨(some 53),.move (tm 8),(some (51,true)),0,(some ([],none))⟩,
 ⟨(some 54),.indexSl 6 (tm 52) (tm 53),(some (51,true)),0,(some ([],none))⟩,
 ⟨(some 55),.fieldAddr 0 (tm 54),(some (51,true)),0,(some ([],none))⟩,
 ⟨(some 56),.load false 1 (tm 55),(some (51,true)),0,(some ([],none))⟩,
 ⟨(some 57),.fieldAddr 0 (tm 5),(some (51,true)),0,(some ([],none))⟩,
 ⟨(some 58),.load false 1 (tm 57),(some (51,true)),0,(some ([],none))⟩,
 ⟨(some 59),.bin .lss (tm 56) (tm 58),(some (51,true)),0,(some ([],none))⟩,
 o4 60 (.pick (tm 51) (tm 59) kf) 0 []] []) (.cond (tm 60) (.skip) (.exit 0))) (.block 1 (.region 0 [
 oM 61 8 0,
 oC 62 .add 61 1 0,
 oM 8 62 0] []))))) (.seq (.region 0 [
 o1 9 (.move (.const (.zsl))) 0] []) (.seq (.region 1 [
 oM 63 9 0,
 oM 64 1 0,
 oM 65 8 0,
 o1 66 (.slice 6 (tm 64) none (some (tm 65)) none) 0,
 o1 67 (.append 6 64 true (tm 63) (tm 66)) 0,
 oM 9 67 1] []) (.seq (.region 2 [
 oM 68 9 0,
 oT 69 6 5 0,
 o1 70 (.buildSlice 6 1 true [iz,iz,iz,iz,iz,.zsl] [(0,(tm 69))]) 0,
 o1 71 (.append 6 64 true (tm 68) (tm 70)) 1,
 oM 9 71 2] []) (.seq (.post [1,9,0] [.frz 9] (.region 1 [
 oM 72 9 0,
 oM 73 1 0,
 oM 74 8 0,
 o1 75 (.slice 6 (tm 73) (some (tm 74)) none none) 0,
 o1 76 (.append 6 64 true (tm 72) (tm 75)) 0,
 oM 9 76 1] [])) (.seq (.region 4 [
 oM 78 0 0,
 oM 79 9 0,
 o1 80 (.call (fc 54) [(vv 78),(vv 79)] false 4) 0,
 oM 77 80 4,
 oX 81 77 0 4,
 oX 82 77 1 4,
 oM 10 81 4,
 oM 11 82 4] []) (.seq (.seq (.region 0 [
 oM 83 11 0,
 o1 84 (.un .not (tm 83)) 0] []) (.cond (tm 84) (.seq (.region 0 [
 oM 85 1 0,
 oM 6 85 0,
 o1 7 (.move (ki 20)) 0] []) (.ret)) (.skip))) (.seq (.region 0 [
 oM 86 9 0,
 oM 6 86 0,
 o1 7 (.move (ki 0)) 0] []) (.ret)))))))))))),[.tmp 6,.tmp 7],true⟩
def s53 : Sig := ⟨(.cons (.v (.list .res)) (.cons (.v (.list .alloc)) (.cons (.v .alloc) .nil))),[],((.tup (.cons (.v (.list .alloc)) (.cons (.v (.int .i64)) .nil))),[]),[]⟩
def l53_0 (g54 : (List Res) → (List Alloc) → Option ((List Res) × (Bool × Unit))) (nodes0 : (List Res)) (al1 : (List Alloc)) (nx7 : ((Unit × (Int × Unit)) × (Alloc × Unit)) → Option ((List Alloc) × (Int × Unit))) (zk8 : Int) (z9 : Alloc) : Option ((List Alloc) × (Int × Unit)) :=
 cond (decide (zk8 < (List.length al1 : Int)))
 (cond (decide (0 ≤ zk8))
 (Option.bind (al1[Int.toNat zk8]?) fun y10 =>
 cond (decide (y10.job < z9.job))
 (nx7 (((),IntKind.wrap .i64 (zk8 + 1),()),(z9,())))
 (cond (decide (0 ≤ zk8))
 (cond (decide ((Int.toNat zk8) ≤ (List.length al1)))
 (cond (smallB (List.length (List.take (Int.toNat zk8) al1)) 64)
 (cond (smallB ((List.length ([] ++ (List.take (Int.toNat zk8) al1))) + 1) 64)
 (cond (decide (0 ≤ zk8))
 (cond (decide ((Int.toNat zk8) ≤ (List.length al1)))
 (cond (smallB ((List.length (([] ++ (List.take (Int.toNat zk8) al1)) ++ [z9])) + (List.length (List.drop (Int.toNat zk8) al1))) 64)
 (Option.bind (g54 nodes0 ((([] ++ (List.take (Int.toNat zk8) al1)) ++ [z9]) ++ (List.drop (Int.toNat zk8) al1))) fun r11 =>
 cond (!r11.2.1)
 (some (al1,20,()))
 (some ((([] ++ (List.take (Int.toNat zk8) al1)) ++ [z9]) ++ (List.drop (Int.toNat zk8) al1),0,())))
 (none))
 (none))
 (none))
 (none))
 (none))
 (none))
 (none)))
 (none))
 (cond (decide (0 ≤ zk8))
 (cond (decide ((Int.toNat zk8) ≤ (List.length al1)))
 (cond (smallB (List.length (List.take (Int.toNat zk8) al1)) 64)
 (cond (smallB ((List.length ([] ++ (List.take (Int.toNat zk8) al1))) + 1) 64)
 (cond (decide (0 ≤ zk8))
 (cond (decide ((Int.toNat zk8) ≤ (List.length al1)))
 (cond (smallB ((List.length (([] ++ (List.take (Int.toNat zk8) al1)) ++ [z9])) + (List.length (List.drop (Int.toNat zk8) al1))) 64)
 (Option.bind (g54 nodes0 ((([] ++ (List.take (Int.toNat zk8) al1)) ++ [z9]) ++ (List.drop (Int.toNat zk8) al1))) fun r12 =>
 cond (!r12.2.1)
 (some (al1,20,()))
 (some ((([] ++ (List.take (Int.toNat zk8) al1)) ++ [z9]) ++ (List.drop (Int.toNat zk8) al1),0,())))
 (none))
 (none))
 (none))
 (none))
 (none))
 (none))
 (none))
def F53 (L : Lp) (g80 : (List Share) → Int → Option Bool) (g25 : Res → Option Bool) (g55 : (List Alloc) → Int → Option Int) (g54 : (List Res) → (List Alloc) → Option ((List Res) × (Bool × Unit))) (nodes0 : (List Res)) (al1 : (List Alloc)) (a2 : Alloc) : Option ((List Alloc) × (Int × Unit)) :=
 cond (decide (a2.job < 1))
 (some (al1,2,()))
 (cond (decide (1048576 < a2.job))
 (some (al1,2,()))
 (cond (decide ((List.length a2.shares : Int) = 0))
 (some (al1,2,()))
 (Option.bind (g80 a2.shares (List.length nodes0 : Int)) fun r3 =>
 cond (!r3)
 (some (al1,2,()))
 (Option.bind (g25 a2.need) fun r4 =>
 cond (!r4)
 (some (al1,2,()))
 (Option.bind (g55 al1 a2.job) fun r5 =>
 cond (decide (0 ≤ r5))
 (some (al1,31,()))
 (L (fun (s6 : ((Unit × (Int × Unit)) × (Alloc × Unit))) nx7 => l53_0 g54 nodes0 al1 nx7 s6.1.2.1 s6.2.1) (((),0,()),(a2,()))))))))
theorem e53 (L : Lp) (g80 : (List Share) → Int → Option Bool) (g25 : Res → Option Bool) (g55 : (List Alloc) → Int → Option Int) (g54 : (List Res) → (List Alloc) → Option ((List Res) × (Bool × Unit))) (x : s53.args.den) (h : denH s53.heap) : nrun [⟨80,s80,fun x h => g80 x.1 x.2.1⟩,⟨25,s25,fun x h => g25 x.1⟩,⟨55,s55,fun x h => g55 x.1 x.2.1⟩,⟨54,s54,fun x h => g54 x.1 x.2.1⟩] L n53 s53 x h = F53 L g80 g25 g55 g54 x.1 x.2.1 x.2.2.1 := by kernel_rfl
def f53 : (List Res) → (List Alloc) → Alloc → Option ((List Alloc) × (Int × Unit)) := F53 (@LN LOOPS) f80 f25 f55 f54
@[reducible] def t53 : Ent := ⟨53,s53,fun x h => f53 x.1 x.2.1 x.2.2.1⟩
theorem k53 : chkNF Try.prog Try.f53 n53 = true := by kernel_rfl
theorem ok53 : NOk Try.prog t53 := NOk.body (T := [t80,t25,t55,t54]) mixed (nall_cons ok80 (nall_cons ok25 (nall_cons ok55 (nall_cons ok54 nall_nil)))) (oneEach_of (by kernel_rfl)) Try.func53 k53 (by kernel_rfl) (fun x h => e53 _ _ _ _ _ x h)
def n26_1 : NFunc := ⟨23,.seq (.region 1 [
 o1 4 (.alloc [iz,iz,iz,iz,iz,.zsl]) 0,
 o1 5 (.move kf) 1] []) (.seq (.seq (.region 0 [
 oM 8 0 0,
 o1 9 (.eqP false (tm 8) (.const (.nilp))) 0] []) (.cond (tm 9) (.seq (.region 0 [
 o1 10 (.build [iz,iz,iz,iz,iz,.zsl] []) 0,
 oS 6 4 10 0,
 o1 5 (.move kf) 0] []) (.ret)) (.skip))) (.seq (.region 5 [
 oM 12 0 0,
 o1 13 (.nilCheck (tm 12)) 0,
 oF 14 1 13 0,
 oL 15 14 0,
 oM 16 1 0,
 o1 17 (.call (.const (.fn 1000761 [])) [(vw 15),(vv 16)] false 4) 0,
 oM 11 17 4,
 oX 18 11 0 4,
 oX 19 11 1 4,
 o1 6 (.alloc [iz,iz,iz,iz,iz,.zsl]) 4,
 oS 6 6 18 5,
 oM 7 19 5] []) (.seq (.region 4 [
 oT 20 6 6 0,
 o1 21 (.call (fc 47) [(vv 20)] false 4) 0,
 oM 22 7 4,
 oS 6 4 21 4,
 oM 5 22 4] []) (.ret)))),[.cell true 6 4,.tmp 5],true⟩
def s26_1 : Sig := ⟨(.cons (.ptr 0 0 0) (.cons (.v (.int .i64)) .nil)),[.cell false (.cons (.v (.list .res)) (.cons (.mp 1) .nil)),.typed (.pair (.int .i64) .alloc)],((.tup (.cons (.v .alloc) (.cons (.v .bool) .nil))),[.cell false (.cons (.v (.list .res)) (.cons (.mp 1) .nil)),.typed (.pair (.int .i64) .alloc)]),[]⟩
def F26_1 (L : Lp) (gM1 : Int → (List (Int × Alloc)) → Option ((Alloc × (Bool × Unit)) × ((List (Int × Alloc)) × Unit))) (g47 : Alloc → Option Alloc) (job0 : Int) (a1 : (List Res)) (a2 : (List (Int × Alloc))) : Option ((Alloc × (Bool × Unit)) × (((List Res) × (Unit × Unit)) × ((List (Int × Alloc)) × Unit))) :=
 Option.bind (gM1 job0 a2) fun r3 =>
 Option.bind (g47 r3.1.1) fun r4 =>
 some ((r4,r3.1.2.1,()),((a1,(),()),r3.2.1,()))
theorem e26_1 (L : Lp) (gM1 : Int → (List (Int × Alloc)) → Option ((Alloc × (Bool × Unit)) × ((List (Int × Alloc)) × Unit))) (g47 : Alloc → Option Alloc) (x : s26_1.args.den) (h : denH s26_1.heap) : nrun [⟨1000761,sM1,fun x h => gM1 x.2.1 h.1⟩,⟨47,s47,fun x h => g47 x.1⟩] L n26_1 s26_1 x h = F26_1 L gM1 g47 x.2.1 h.1.1 h.2.1 := by kernel_rfl
def f26_1 : Int → (List Res) → (List (Int × Alloc)) → Option ((Alloc × (Bool × Unit)) × (((List Res) × (Unit × Unit)) × ((List (Int × Alloc)) × Unit))) := F26_1 (@LN LOOPS) fM1 f47
@[reducible] def t26_1 : Ent := ⟨26,s26_1,fun x h => f26_1 x.2.1 h.1.1 h.2.1⟩
theorem k26_1 : chkNF Try.prog Try.f26 n26_1 = true := by kernel_rfl
theorem ok26_1 : NOk Try.prog t26_1 := NOk.body (T := [tM1,t47]) mixed (nall_prim okM1 (nall_cons ok47 nall_nil)) (oneEach_of (by kernel_rfl)) Try.func26 k26_1 (by kernel_rfl) (fun x h => e26_1 _ _ _ x h)
def n82 : NFunc := ⟨26,.seq (.region 0 [
 o1 4 (.move kf) 0] []) (.seq (.seq (.region 0 [
 oM 6 0 0,
 o1 7 (.len (tm 6)) 0,
 oM 8 1 0,
 o1 9 (.len (tm 8)) 0,
 oB 10 .neq 7 9 0] []) (.cond (tm 10) (.seq (.region 0 [
 o1 4 (.move kf) 0] []) (.ret)) (.skip))) (.seq (.seq (.region 0 [
 o1 5 (.move (ki 0)) 0] []) (.block 0 (.loop [0,1,5] ⟨[(5,vI)],[0,1],[]⟩ (.seq (.seq (.region 0 [
 oM 11 5 0,
 oM 12 0 0,
 o1 13 (.len (tm 12)) 0,
 oB 14 .lss 11 13 0] []) (.cond (tm 14) (.skip) (.exit 0))) (.seq (.block 1 (.seq (.region 0 [
 o4 17 (.move (tm 0)) 0 [],
 o4 18 (.move (tm 5)) 0 [],
 o4 19 (.indexSl 2 (tm 17) (tm 18)) 0 [],
 o4 20 (.load true 2 (tm 19)) 0 [],
 o4 21 (.move (tm 1)) 0 [],
 o4 22 (.move (tm 5)) 0 [],
 o4 23 (.indexSl 2 (tm 21) (tm 22)) 0 [],
 o4 24 (.load true 2 (tm 23)) 0 [],
 o4 25 (.eqAgg (true,[.int .i64,.int .i64]) (tm 20) (tm 24)) 0 []] []) (.cond (tm 25) (.seq (.region 0 [
 o1 4 (.move kf) 0] []) (.ret)) (.skip)))) (.region 0 [
 oM 15 5 0,
 oC 16 .add 15 1 0,
 oM 5 16 0] [])))))) (.seq (.region 0 [
 o1 4 (.move kt) 0] []) (.ret)))),[.tmp 4],true⟩
def s82 : Sig := ⟨(.cons (.v (.list .share)) (.cons (.v (.list .share)) .nil)),[],((.v .bool),[]),[]⟩
def l82_0 (a0 : (List Share)) (b1 : (List Share)) (nx3 : ((Int × Unit) × Unit) → Option Bool) (i4 : Int) : Option Bool :=
 cond (decide (i4 < (List.length a0 : Int)))
 (cond (decide (0 ≤ i4))
 (Option.bind (a0[Int.toNat i4]?) fun y5 =>
 cond (decide (0 ≤ i4))
 (Option.bind (b1[Int.toNat i4]?) fun y6 =>
 cond (!((decide (y5.node = y6.node)) && ((decide (y5.many = y6.many)) && true)))
 (some false)
 (nx3 ((IntKind.wrap .i64 (i4 + 1),()),())))
 (none))
 (none))
 (some true)
def F82 (L : Lp)  (a0 : (List Share)) (b1 : (List Share)) : Option Bool :=
 cond (!decide ((List.length a0 : Int) = (List.length b1 : Int)))
 (some false)
 (L (fun (s2 : ((Int × Unit) × Unit)) nx3 => l82_0 a0 b1 nx3 s2.1.1) ((0,()),()))
theorem e82 (L : Lp)  (x : s82.args.den) (h : denH s82.heap) : nrun [] L n82 s82 x h = F82 L  x.1 x.2.1 := by kernel_rfl
def f82 : (List Share) → (List Share) → Option Bool := F82 (@LN LOOPS) 
@[reducible] def t82 : Ent := ⟨82,s82,fun x h => f82 x.1 x.2.1⟩
theorem k82 : chkNF Try.prog Try.f82 n82 = true := by kernel_rfl
theorem ok82 : NOk Try.prog t82 := NOk.body (T := []) mixed nall_nil (oneEach_of (by kernel_rfl)) Try.func82 k82 (by kernel_rfl) (fun x h => e82 _  x h)
def n56 : NFunc := ⟨55,.seq (.region 0 [
 o1 4 (.move kf) 0] []) (.seq (.seq (.region 0 [
 oM 6 0 0,
 o1 7 (.len (tm 6)) 0,
 oM 8 1 0,
 o1 9 (.len (tm 8)) 0,
 oB 10 .neq 7 9 0] []) (.cond (tm 10) (.seq (.region 0 [
 o1 4 (.move kf) 0] []) (.ret)) (.skip))) (.seq (.seq (.region 0 [
 o1 5 (.move (ki 0)) 0] []) (.block 0 (.loop [0,1,5] ⟨[(5,vI)],[0,1],[]⟩ (.seq (.seq (.region 0 [
 oM 11 5 0,
 oM 12 0 0,
 o1 13 (.len (tm 12)) 0,
 oB 14 .lss 11 13 0] []) (.cond (tm 14) (.skip) (.exit 0))) (.seq (.block 1 (.seq (.region 4 [
 o4 17 (.move (tm 0)) 0 [],
 o4 18 (.move (tm 5)) 0 [],
 o4 19 (.indexSl 6 (tm 17) (tm 18)) 0 [],
 o4 20 (.fieldAddr 0 (tm 19)) 0 [],
 o4 21 (.load false 1 (tm 20)) 0 [],
 o4 22 (.move (tm 1)) 0 [],
 o4 23 (.move (tm 5)) 0 [],
 o4 24 (.indexSl 6 (tm 22) (tm 23)) 0 [],
 o4 25 (.fieldAddr 0 (tm 24)) 0 [],
 o4 26 (.load false 1 (tm 25)) 0 [],
 o4 27 (.bin .neq (tm 21) (tm 26)) 0 [],
 o4 28 (.move (tm 27)) 0 [],
 ⟨(some 29),.move (tm 0),(some (28,false)),0,(some ([],none))⟩,
 ⟨(some 30),.move (tm 5),(some (28,false)),0,(some ([],none))⟩,
 ⟨(some 31),.indexSl 6 (tm 29) (tm 30),(some (28,false)),0,(some ([],none))⟩,
 ⟨(some 32),.fieldAddr 1 (tm 31),(some (28,false)),0,(some ([],none))⟩,
 ⟨(some 33),.load true 4 (tm 32),(some (28,false)),0,(some ([],none))⟩,
 ⟨(some 34),.move (tm 1),(some (28,false)),0,(some ([],none))⟩,
 ⟨(some 35),.move (tm 5),(some (28,false)),0,(some ([],none))⟩,
 ⟨(some 36),.indexSl 6 (tm 34) (tm 35),(some (28,false)),0,(some ([],none))⟩,
 ⟨(some 37),.fieldAddr 1 (tm 36),(some (28,false)),0,(some ([],none))⟩,
 ⟨(some 38),.load true 4 (tm 37),(some (28,false)),0,(some ([],none))⟩,
 ⟨(some 39),.eqAgg (true,[.int .i64,.int .i64,.int .i64,.int .i64]) (tm 33) (tm 38),(some (28,false)),0,(some ([],none))⟩,
 o4 40 (.pick (tm 28) kt (tm 39)) 0 [],
 o4 41 (.move (tm 40)) 0 [],
 ⟨(some 42),.move (tm 0),(some (41,false)),0,(some ([],none))⟩,
 ⟨(some 43),.move (tm 5),(some (41,false)),0,(some ([],none))⟩,
 ⟨(some 44),.indexSl 6 (tm 42) (tm 43),(some (41,false)),0,(some ([],none))⟩,
 ⟨(some 45),.fieldAddr 5 (tm 44),(some (41,false)),0,(some ([],none))⟩,
 ⟨(some 46),.load false 1 (tm 45),(some (41,false)),0,(some ([],none))⟩,
 ⟨(some 47),.move (tm 1),(some (41,false)),0,(some ([],none))⟩,
 ⟨(some 48),.move (tm 5),(some (41,false)),0,(some ([],none))⟩,
 ⟨(some 49),.indexSl 6 (tm 47) (tm 48),(some (41,false)),0,(some ([],none))⟩,
 ⟨(some 50),.fieldAddr 5 (tm 49),(some (41,false)),0,(some ([],none))⟩,
 ⟨(some 51),.load false 1 (tm 50),(some (41,false)),0,(some ([],none))⟩,
 ⟨(some 52),.call (fc 82) [(vv 46),(vv 51)] false 4,(some (41,false)),0,(some ([],none))⟩,
 ⟨(some 53),.un .not (tm 52),(some (41,false)),4,(some ([0,1,2,3],none))⟩,
 o4 54 (.pick (tm 41) kt (tm 53)) 4 [0,1,2,3]] []) (.cond (tm 54) (.seq (.region 0 [
 o1 4 (.move kf) 0] []) (.ret)) (.skip)))) (.region 0 [
 oM 15 5 0,
 oC 16 .add 15 1 0,
 oM 5 16 0] [])))))) (.seq (.region 0 [
 o1 4 (.move kt) 0] []) (.ret)))),[.tmp 4],true⟩
def s56 : Sig := ⟨(.cons (.v (.list .alloc)) (.cons (.v (.list .alloc)) .nil)),[],((.v .bool),[]),[]⟩
def l56_0 (g82 : (List Share) → (List Share) → Option Bool) (a0 : (List Alloc)) (b1 : (List Alloc)) (nx3 : ((Int × Unit) × Unit) → Option Bool) (i4 : Int) : Option Bool :=
 cond (decide (i4 < (List.length a0 : Int)))
 (cond (decide (0 ≤ i4))
 (Option.bind (a0[Int.toNat i4]?) fun y5 =>
 cond (decide (0 ≤ i4))
 (Option.bind (b1[Int.toNat i4]?) fun y6 =>
 cond (!decide (y5.job = y6.job))
 (some false)
 (cond (decide (0 ≤ i4))
 (Option.bind (a0[Int.toNat i4]?) fun y7 =>
 cond (decide (0 ≤ i4))
 (Option.bind (b1[Int.toNat i4]?) fun y8 =>
 cond (!((decide (y7.need.cpu = y8.need.cpu)) && ((decide (y7.need.mem = y8.need.mem)) && ((decide (y7.need.gpu = y8.need.gpu)) && ((decide (y7.need.lic = y8.need.lic)) && true)))))
 (some false)
 (cond (decide (0 ≤ i4))
 (Option.bind (a0[Int.toNat i4]?) fun y9 =>
 cond (decide (0 ≤ i4))
 (Option.bind (b1[Int.toNat i4]?) fun y10 =>
 Option.bind (g82 y9.shares y10.shares) fun r11 =>
 cond (!r11)
 (some false)
 (nx3 ((IntKind.wrap .i64 (i4 + 1),()),())))
 (none))
 (none)))
 (none))
 (none)))
 (none))
 (none))
 (some true)
def F56 (L : Lp) (g82 : (List Share) → (List Share) → Option Bool) (a0 : (List Alloc)) (b1 : (List Alloc)) : Option Bool :=
 cond (!decide ((List.length a0 : Int) = (List.length b1 : Int)))
 (some false)
 (L (fun (s2 : ((Int × Unit) × Unit)) nx3 => l56_0 g82 a0 b1 nx3 s2.1.1) ((0,()),()))
theorem e56 (L : Lp) (g82 : (List Share) → (List Share) → Option Bool) (x : s56.args.den) (h : denH s56.heap) : nrun [⟨82,s82,fun x h => g82 x.1 x.2.1⟩] L n56 s56 x h = F56 L g82 x.1 x.2.1 := by kernel_rfl
def f56 : (List Alloc) → (List Alloc) → Option Bool := F56 (@LN LOOPS) f82
@[reducible] def t56 : Ent := ⟨56,s56,fun x h => f56 x.1 x.2.1⟩
theorem k56 : chkNF Try.prog Try.f56 n56 = true := by kernel_rfl
theorem ok56 : NOk Try.prog t56 := NOk.body (T := [t82]) mixed (nall_cons ok82 nall_nil) (oneEach_of (by kernel_rfl)) Try.func56 k56 (by kernel_rfl) (fun x h => e56 _ _ x h)
def n57 : NFunc := ⟨26,.seq (.region 0 [
 o1 4 (.move kf) 0] []) (.seq (.seq (.region 0 [
 oM 6 0 0,
 o1 7 (.len (tm 6)) 0,
 oM 8 1 0,
 o1 9 (.len (tm 8)) 0,
 oB 10 .neq 7 9 0] []) (.cond (tm 10) (.seq (.region 0 [
 o1 4 (.move kf) 0] []) (.ret)) (.skip))) (.seq (.seq (.region 0 [
 oM 11 0 0,
 o1 12 (.len (tm 11)) 0,
 o1 13 (.move (ki 0)) 0] []) (.block 0 (.loop [0,1,12,13] ⟨[(13,vI)],[0,1,12],[]⟩ (.seq (.region 0 [
 oB 14 .lss 13 12 0] []) (.seq (.cond (tm 14) (.skip) (.exit 0)) (.seq (.block 1 (.seq (.region 0 [
 oM 15 13 0,
 oM 5 15 0] []) (.seq (.region 0 [
 o4 16 (.move (tm 0)) 0 [],
 o4 17 (.move (tm 5)) 0 [],
 o4 18 (.indexSl 4 (tm 16) (tm 17)) 0 [],
 o4 19 (.load true 4 (tm 18)) 0 [],
 o4 20 (.move (tm 1)) 0 [],
 o4 21 (.move (tm 5)) 0 [],
 o4 22 (.indexSl 4 (tm 20) (tm 21)) 0 [],
 o4 23 (.load true 4 (tm 22)) 0 [],
 o4 24 (.eqAgg (true,[.int .i64,.int .i64,.int .i64,.int .i64]) (tm 19) (tm 23)) 0 []] []) (.cond (tm 24) (.seq (.region 0 [
 o1 4 (.move kf) 0] []) (.ret)) (.skip))))) (.region 0 [
 oC 25 .add 13 1 0,
 oM 13 25 0] []))))))) (.seq (.region 0 [
 o1 4 (.move kt) 0] []) (.ret)))),[.tmp 4],true⟩
def s57 : Sig := ⟨(.cons (.v (.list .res)) (.cons (.v (.list .res)) .nil)),[],((.v .bool),[]),[]⟩
def l57_0 (a0 : (List Res)) (b1 : (List Res)) (nx3 : ((Int × Unit) × Unit) → Option Bool) (z4 : Int) : Option Bool :=
 cond (decide (z4 < (List.length a0 : Int)))
 (cond (decide (0 ≤ z4))
 (Option.bind (a0[Int.toNat z4]?) fun y5 =>
 cond (decide (0 ≤ z4))
 (Option.bind (b1[Int.toNat z4]?) fun y6 =>
 cond (!((decide (y5.cpu = y6.cpu)) && ((decide (y5.mem = y6.mem)) && ((decide (y5.gpu = y6.gpu)) && ((decide (y5.lic = y6.lic)) && true)))))
 (some false)
 (nx3 ((IntKind.wrap .i64 (z4 + 1),()),())))
 (none))
 (none))
 (some true)
def F57 (L : Lp)  (a0 : (List Res)) (b1 : (List Res)) : Option Bool :=
 cond (!decide ((List.length a0 : Int) = (List.length b1 : Int)))
 (some false)
 (L (fun (s2 : ((Int × Unit) × Unit)) nx3 => l57_0 a0 b1 nx3 s2.1.1) ((0,()),()))
theorem e57 (L : Lp)  (x : s57.args.den) (h : denH s57.heap) : nrun [] L n57 s57 x h = F57 L  x.1 x.2.1 := by kernel_rfl
def f57 : (List Res) → (List Res) → Option Bool := F57 (@LN LOOPS) 
@[reducible] def t57 : Ent := ⟨57,s57,fun x h => f57 x.1 x.2.1⟩
theorem k57 : chkNF Try.prog Try.f57 n57 = true := by kernel_rfl
theorem ok57 : NOk Try.prog t57 := NOk.body (T := []) mixed nall_nil (oneEach_of (by kernel_rfl)) Try.func57 k57 (by kernel_rfl) (fun x h => e57 _  x h)
def n29 : NFunc := ⟨58,.seq (.region 1 [
 o1 5 (.box 18 (tm 1)) 0,
 o1 8 (.move kf) 1] []) (.seq (.region 4 [
 oF 15 0 5 0,
 oL 16 15 0,
 oM 17 2 0,
 o1 18 (.call (fc 54) [(vv 16),(vv 17)] false 4) 0,
 oM 14 18 4,
 oX 19 14 0 4,
 oX 20 14 1 4,
 oM 9 19 4,
 oM 10 20 4] []) (.seq (.region 5 [
 oM 22 0 0,
 oM 23 3 0,
 o1 24 (.call (fc 26) [(vw 22),(vv 23)] false 4) 0,
 oM 21 24 4,
 oX 25 21 0 4,
 oX 26 21 1 4,
 o1 11 (.alloc [iz,iz,iz,iz,iz,.zsl]) 4,
 oS 6 11 25 5,
 oM 12 26 5] []) (.seq (.region 4 [
 oM 27 2 0,
 oM 28 3 0,
 o1 29 (.call (fc 55) [(vv 27),(vv 28)] false 4) 0,
 oM 13 29 4] []) (.seq (.join [2,0,9] [] ⟨[(0,(.ptr 0 0 0))],[2,9],[.cell false (.cons (.v (.list .res)) (.cons (.mp 1) .nil)),.typed (.pair (.int .i64) .alloc)]⟩ (.seq (.region 5 [
 o4 30 (.move (tm 12)) 0 [],
 o4 31 (.move (tm 13)) 0 [],
 o4 32 (.bin .geq (tm 31) (ki 0)) 0 [],
 o4 33 (.eqB true (tm 30) (tm 32)) 0 [],
 o4 34 (.move (tm 33)) 0 [],
 ⟨(some 35),.move (tm 12),(some (34,false)),0,(some ([],none))⟩,
 ⟨(some 36),.move (tm 35),(some (34,false)),0,(some ([],none))⟩,
 ⟨(some 37),.load true 6 (tm 11),(some (36,true)),0,(some ([],none))⟩,
 ⟨(some 38),.buildSlice 6 1 true [iz,iz,iz,iz,iz,.zsl] [(0,(tm 37))],(some (36,true)),0,(some ([],none))⟩,
 ⟨(some 39),.move (tm 2),(some (36,true)),1,(some ([],none))⟩,
 ⟨(some 40),.move (tm 13),(some (36,true)),1,(some ([],none))⟩,
 ⟨(some 41),.move (tm 13),(some (36,true)),1,(some ([],none))⟩,
 ⟨(some 42),.bin .add (tm 41) (ki 1),(some (36,true)),1,(some ([],none))⟩,
 ⟨(some 43),.slice 6 (tm 39) (some (tm 40)) (some (tm 42)) none,(some (36,true)),1,(some ([],none))⟩,
 ⟨(some 44),.call (fc 56) [(vv 38),(vv 43)] false 4,(some (36,true)),1,(some ([0],none))⟩,
 ⟨(some 45),.un .not (tm 44),(some (36,true)),5,(some ([0,1,2,3,4],none))⟩,
 ⟨(some 46),.pick (tm 36) (tm 45) kf,(some (34,false)),5,(some ([0,1,2,3,4],none))⟩,
 o4 47 (.pick (tm 34) kt (tm 46)) 5 [0,1,2,3,4]] []) (.cond (tm 47) (.seq (.region 0 [
 o1 8 (.move kf) 0] []) (.ret)) (.skip)))) (.seq (.region 16 [
 oM 48 0 0,
 o1 49 (.call (fc 20) [(vw 48)] false 4) 0,
 oM 50 9 4,
 o1 51 (.call (fc 57) [(vv 49),(vv 50)] false 4) 4,
 oM 52 51 8,
 o3 53 (.move (tm 0)) 52 8,
 o3 54 (.call (fc 21) [(vw 53)] false 4) 52 8,
 o3 55 (.move (tm 2)) 52 12,
 o3 56 (.call (fc 56) [(vv 54),(vv 55)] false 4) 52 12,
 o1 57 (.pick (tm 52) (tm 56) kf) 16,
 oM 8 57 16] []) (.ret)))))),[.tmp 8],true⟩
def s29 : Sig := ⟨(.cons (.ptr 0 0 0) (.cons (.v .spec) (.cons (.v (.list .alloc)) (.cons (.v (.int .i64)) .nil)))),[.cell false (.cons (.v (.list .res)) (.cons (.mp 1) .nil)),.typed (.pair (.int .i64) .alloc)],((.v .bool),[.cell false (.cons (.v (.list .res)) (.cons (.mp 1) .nil)),.typed (.pair (.int .i64) .alloc)]),[]⟩
def F29 (L : Lp) (g54 : (List Res) → (List Alloc) → Option ((List Res) × (Bool × Unit))) (g26_1 : Int → (List Res) → (List (Int × Alloc)) → Option ((Alloc × (Bool × Unit)) × (((List Res) × (Unit × Unit)) × ((List (Int × Alloc)) × Unit)))) (g55 : (List Alloc) → Int → Option Int) (g56 : (List Alloc) → (List Alloc) → Option Bool) (g20_1 : (List Res) → (List (Int × Alloc)) → Option ((List Res) × (((List Res) × (Unit × Unit)) × ((List (Int × Alloc)) × Unit)))) (g57 : (List Res) → (List Res) → Option Bool) (g21 : (List Res) → (List (Int × Alloc)) → Option ((List Alloc) × (((List Res) × (Unit × Unit)) × ((List (Int × Alloc)) × Unit)))) (as0 : Spec) (w1 : (List Alloc)) (job2 : Int) (a3 : (List Res)) (a4 : (List (Int × Alloc))) : Option (Bool × (((List Res) × (Unit × Unit)) × ((List (Int × Alloc)) × Unit))) :=
 Option.bind (g54 as0.nodes w1) fun r5 =>
 Option.bind (g26_1 job2 a3 a4) fun r6 =>
 Option.bind (g55 w1 job2) fun r7 =>
 Option.bind (α := (((Unit × Unit) × (((List Res) × (Unit × Unit)) × ((List (Int × Alloc)) × Unit))) ⊕ (Bool × (((List Res) × (Unit × Unit)) × ((List (Int × Alloc)) × Unit)))))
 (cond (!(r6.1.2.1 == (decide (0 ≤ r7))))
 (some (.inr (false,((r6.2.1.1,(),()),r6.2.2.1,()))))
 (cond r6.1.2.1
 (cond (decide (0 ≤ r7))
 (cond (decide (0 ≤ (IntKind.wrap .i64 (r7 + 1))))
 (cond ((decide ((Int.toNat r7) ≤ (Int.toNat (IntKind.wrap .i64 (r7 + 1))))) && (decide ((Int.toNat (IntKind.wrap .i64 (r7 + 1))) ≤ (List.length w1))))
 (let v8 := List.drop (Int.toNat r7) (List.take (Int.toNat (IntKind.wrap .i64 (r7 + 1))) w1)
 Option.bind (g56 [r6.1.1] v8) fun r9 =>
 cond (!r9)
 (some (.inr (false,((r6.2.1.1,(),()),r6.2.2.1,()))))
 (some (.inl (((),()),((r6.2.1.1,(),()),r6.2.2.1,())))))
 (none))
 (none))
 (none))
 (some (.inl (((),()),((r6.2.1.1,(),()),r6.2.2.1,())))))) (Sum.elim (fun x10 =>
 Option.bind (g20_1 x10.2.1.1 x10.2.2.1) fun r11 =>
 Option.bind (g57 r11.1 r5.1) fun r12 =>
 cond r12
 (Option.bind (g21 r11.2.1.1 r11.2.2.1) fun r13 =>
 Option.bind (g56 r13.1 w1) fun r14 =>
 some (r14,((r13.2.1.1,(),()),r13.2.2.1,())))
 (some (false,((r11.2.1.1,(),()),r11.2.2.1,())))) some)
theorem e29 (L : Lp) (g54 : (List Res) → (List Alloc) → Option ((List Res) × (Bool × Unit))) (g26_1 : Int → (List Res) → (List (Int × Alloc)) → Option ((Alloc × (Bool × Unit)) × (((List Res) × (Unit × Unit)) × ((List (Int × Alloc)) × Unit)))) (g55 : (List Alloc) → Int → Option Int) (g56 : (List Alloc) → (List Alloc) → Option Bool) (g20_1 : (List Res) → (List (Int × Alloc)) → Option ((List Res) × (((List Res) × (Unit × Unit)) × ((List (Int × Alloc)) × Unit)))) (g57 : (List Res) → (List Res) → Option Bool) (g21 : (List Res) → (List (Int × Alloc)) → Option ((List Alloc) × (((List Res) × (Unit × Unit)) × ((List (Int × Alloc)) × Unit)))) (x : s29.args.den) (h : denH s29.heap) : nrun [⟨54,s54,fun x h => g54 x.1 x.2.1⟩,⟨26,s26_1,fun x h => g26_1 x.2.1 h.1.1 h.2.1⟩,⟨55,s55,fun x h => g55 x.1 x.2.1⟩,⟨56,s56,fun x h => g56 x.1 x.2.1⟩,⟨20,s20_1,fun x h => g20_1 h.1.1 h.2.1⟩,⟨57,s57,fun x h => g57 x.1 x.2.1⟩,⟨21,s21,fun x h => g21 h.1.1 h.2.1⟩] L n29 s29 x h = F29 L g54 g26_1 g55 g56 g20_1 g57 g21 x.2.1 x.2.2.1 x.2.2.2.1 h.1.1 h.2.1 := by kernel_rfl
def f29 : Spec → (List Alloc) → Int → (List Res) → (List (Int × Alloc)) → Option (Bool × (((List Res) × (Unit × Unit)) × ((List (Int × Alloc)) × Unit))) := F29 (@LN LOOPS) f54 f26_1 f55 f56 f20_1 f57 f21
@[reducible] def t29 : Ent := ⟨29,s29,fun x h => f29 x.2.1 x.2.2.1 x.2.2.2.1 h.1.1 h.2.1⟩
theorem k29 : chkNF Try.prog Try.f29 n29 = true := by kernel_rfl
theorem ok29 : NOk Try.prog t29 := NOk.body (T := [t54,t26_1,t55,t56,t20_1,t57,t21]) mixed (nall_cons ok54 (nall_cons ok26_1 (nall_cons ok55 (nall_cons ok56 (nall_cons ok20_1 (nall_cons ok57 (nall_cons ok21 nall_nil))))))) (oneEach_of (by kernel_rfl)) Try.func29 k29 (by kernel_rfl) (fun x h => e29 _ _ _ _ _ _ _ _ x h)
def n28 : NFunc := ⟨69,.seq (.region 1 [
 o1 5 (.box 18 (tm 1)) 0,
 o1 8 (.move (.const (.zsl))) 1,
 o1 9 (.move kf) 1] []) (.seq (.seq (.region 0 [
 oM 16 3 0,
 o1 17 (.len (tm 16)) 0,
 o1 18 (.move (ki 0)) 0] []) (.block 0 (.loop [0,2,5,16,17,18] ⟨[(0,(.ptr 0 0 0)),(2,(.v (.list .alloc))),(5,(.ptr 2 0 0)),(18,vI)],[16,17],[.cell false (.cons (.v (.list .res)) (.cons (.mp 1) .nil)),.typed (.pair (.int .i64) .alloc),.one false .spec]⟩ (.seq (.region 0 [
 oB 19 .lss 18 17 0] []) (.seq (.cond (tm 19) (.skip) (.exit 0)) (.seq (.block 1 (.seq (.region 1 [
 o1 20 (.indexSl 7 (tm 16) (tm 18)) 0,
 oT 21 7 20 0,
 o1 11 (.alloc [.bool false,iz,iz,iz,iz,iz,.zsl]) 0,
 oS 7 11 21 1] []) (.seq (.seq (.region 0 [
 oF 22 0 11 0,
 oL 23 22 0] []) (.cond (tm 23) (.seq (.region 4 [
 oM 25 2 0,
 oF 26 1 11 0,
 oF 27 0 26 0,
 oL 28 27 0,
 o1 29 (.call (fc 52) [(vv 25),(vv 28)] false 4) 0,
 oM 24 29 4,
 oX 30 24 0 4,
 oX 31 24 1 4,
 oM 12 30 4,
 oM 13 31 4] []) (.seq (.region 0 [
 oM 32 12 0,
 oM 2 32 0] []) (.seq (.region 4 [
 oM 33 0 0,
 oF 34 1 11 0,
 oF 35 0 34 0,
 oL 36 35 0,
 o1 37 (.call (fc 18) [(vw 33),(vv 36)] false 4) 0,
 oM 38 13 4,
 oB 39 .neq 37 38 4] []) (.cond (tm 39) (.seq (.region 0 [
 oM 40 2 0,
 oM 8 40 0,
 o1 9 (.move kf) 0] []) (.ret)) (.skip))))) (.seq (.region 4 [
 oF 42 0 5 0,
 oL 43 42 0,
 oM 44 2 0,
 oF 45 1 11 0,
 oT 46 6 45 0,
 o1 47 (.call (fc 53) [(vv 43),(vv 44),(vv 46)] false 4) 0,
 oM 41 47 4,
 oX 48 41 0 4,
 oX 49 41 1 4,
 oM 14 48 4,
 oM 15 49 4] []) (.seq (.region 0 [
 oM 50 14 0,
 oM 2 50 0] []) (.seq (.region 4 [
 oM 51 0 0,
 oF 52 1 11 0,
 oT 53 6 52 0,
 o1 54 (.call (fc 19) [(vw 51),(vv 53)] false 4) 0,
 oM 55 15 4,
 oB 56 .neq 54 55 4] []) (.cond (tm 56) (.seq (.region 0 [
 oM 57 2 0,
 oM 8 57 0,
 o1 9 (.move kf) 0] []) (.ret)) (.skip))))))) (.seq (.region 4 [
 oM 58 0 0,
 oT 59 18 5 0,
 oM 60 2 0,
 oF 61 1 11 0,
 oF 62 0 61 0,
 oL 63 62 0,
 o1 64 (.call (fc 29) [(vw 58),(vv 59),(vv 60),(vv 63)] false 4) 0,
 o1 65 (.un .not (tm 64)) 4] []) (.cond (tm 65) (.seq (.region 0 [
 oM 66 2 0,
 oM 8 66 0,
 o1 9 (.move kf) 0] []) (.ret)) (.skip)))))) (.region 0 [
 oC 67 .add 18 1 0,
 oM 18 67 0] []))))))) (.seq (.region 0 [
 oM 68 2 0,
 oM 8 68 0,
 o1 9 (.move kt) 0] []) (.ret))),[.tmp 8,.tmp 9],true⟩
def s28 : Sig := ⟨(.cons (.ptr 0 0 0) (.cons (.v .spec) (.cons (.v (.list .alloc)) (.cons (.v (.list (.pair .bool .alloc))) .nil)))),[.cell false (.cons (.v (.list .res)) (.cons (.mp 1) .nil)),.typed (.pair (.int .i64) .alloc)],((.tup (.cons (.v (.list .alloc)) (.cons (.v .bool) .nil))),[.cell false (.cons (.v (.list .res)) (.cons (.mp 1) .nil)),.typed (.pair (.int .i64) .alloc)]),[]⟩
def l28_0 (g52 : (List Alloc) → Int → Option ((List Alloc) × (Int × Unit))) (g18_1 : Int → (List Res) → (List (Int × Alloc)) → Option (Int × (((List Res) × (Unit × Unit)) × ((List (Int × Alloc)) × Unit)))) (g29 : Spec → (List Alloc) → Int → (List Res) → (List (Int × Alloc)) → Option (Bool × (((List Res) × (Unit × Unit)) × ((List (Int × Alloc)) × Unit)))) (g53 : (List Res) → (List Alloc) → Alloc → Option ((List Alloc) × (Int × Unit))) (g19_1 : Alloc → (List Res) → (List (Int × Alloc)) → Option (Int × (((List Res) × (Unit × Unit)) × ((List (Int × Alloc)) × Unit)))) (todo2 : (List (Bool × Alloc))) (nx6 : ((Unit × ((List Alloc) × (Unit × (Int × Unit)))) × (((List Res) × (Unit × Unit)) × ((List (Int × Alloc)) × (Spec × Unit)))) → Option (((List Alloc) × (Bool × Unit)) × (((List Res) × (Unit × Unit)) × ((List (Int × Alloc)) × Unit)))) (w7 : (List Alloc)) (z8 : Int) (z9 : (List Res)) (z10 : (List (Int × Alloc))) (z11 : Spec) : Option (((List Alloc) × (Bool × Unit)) × (((List Res) × (Unit × Unit)) × ((List (Int × Alloc)) × Unit))) :=
 cond (decide (z8 < (List.length todo2 : Int)))
 (cond (decide (0 ≤ z8))
 (Option.bind (todo2[Int.toNat z8]?) fun y12 =>
 cond y12.1
 (Option.bind (g52 w7 y12.2.job) fun r13 =>
 Option.bind (g18_1 y12.2.job z9 z10) fun r14 =>
 cond (!decide (r14.1 = r13.2.1))
 (some ((r13.1,false,()),((r14.2.1.1,(),()),r14.2.2.1,())))
 (Option.bind (g29 z11 r13.1 y12.2.job r14.2.1.1 r14.2.2.1) fun r15 =>
 cond (!r15.1)
 (some ((r13.1,false,()),((r15.2.1.1,(),()),r15.2.2.1,())))
 (nx6 (((),r13.1,(),IntKind.wrap .i64 (z8 + 1),()),((r15.2.1.1,(),()),r15.2.2.1,z11,())))))
 (Option.bind (g53 z11.nodes w7 y12.2) fun r16 =>
 Option.bind (g19_1 y12.2 z9 z10) fun r17 =>
 cond (!decide (r17.1 = r16.2.1))
 (some ((r16.1,false,()),((r17.2.1.1,(),()),r17.2.2.1,())))
 (Option.bind (g29 z11 r16.1 y12.2.job r17.2.1.1 r17.2.2.1) fun r18 =>
 cond (!r18.1)
 (some ((r16.1,false,()),((r18.2.1.1,(),()),r18.2.2.1,())))
 (nx6 (((),r16.1,(),IntKind.wrap .i64 (z8 + 1),()),((r18.2.1.1,(),()),r18.2.2.1,z11,()))))))
 (none))
 (some ((w7,true,()),((z9,(),()),z10,())))
def F28 (L : Lp) (g52 : (List Alloc) → Int → Option ((List Alloc) × (Int × Unit))) (g18_1 : Int → (List Res) → (List (Int × Alloc)) → Option (Int × (((List Res) × (Unit × Unit)) × ((List (Int × Alloc)) × Unit)))) (g29 : Spec → (List Alloc) → Int → (List Res) → (List (Int × Alloc)) → Option (Bool × (((List Res) × (Unit × Unit)) × ((List (Int × Alloc)) × Unit)))) (g53 : (List Res) → (List Alloc) → Alloc → Option ((List Alloc) × (Int × Unit))) (g19_1 : Alloc → (List Res) → (List (Int × Alloc)) → Option (Int × (((List Res) × (Unit × Unit)) × ((List (Int × Alloc)) × Unit)))) (as0 : Spec) (w1 : (List Alloc)) (todo2 : (List (Bool × Alloc))) (a3 : (List Res)) (a4 : (List (Int × Alloc))) : Option (((List Alloc) × (Bool × Unit)) × (((List Res) × (Unit × Unit)) × ((List (Int × Alloc)) × Unit))) :=
 L (fun (s5 : ((Unit × ((List Alloc) × (Unit × (Int × Unit)))) × (((List Res) × (Unit × Unit)) × ((List (Int × Alloc)) × (Spec × Unit))))) nx6 => l28_0 g52 g18_1 g29 g53 g19_1 todo2 nx6 s5.1.2.1 s5.1.2.2.2.1 s5.2.1.1 s5.2.2.1 s5.2.2.2.1) (((),w1,(),0,()),((a3,(),()),a4,as0,()))
theorem e28 (L : Lp) (g52 : (List Alloc) → Int → Option ((List Alloc) × (Int × Unit))) (g18_1 : Int → (List Res) → (List (Int × Alloc)) → Option (Int × (((List Res) × (Unit × Unit)) × ((List (Int × Alloc)) × Unit)))) (g29 : Spec → (List Alloc) → Int → (List Res) → (List (Int × Alloc)) → Option (Bool × (((List Res) × (Unit × Unit)) × ((List (Int × Alloc)) × Unit)))) (g53 : (List Res) → (List Alloc) → Alloc → Option ((List Alloc) × (Int × Unit))) (g19_1 : Alloc → (List Res) → (List (Int × Alloc)) → Option (Int × (((List Res) × (Unit × Unit)) × ((List (Int × Alloc)) × Unit)))) (x : s28.args.den) (h : denH s28.heap) : nrun [⟨52,s52,fun x h => g52 x.1 x.2.1⟩,⟨18,s18_1,fun x h => g18_1 x.2.1 h.1.1 h.2.1⟩,⟨29,s29,fun x h => g29 x.2.1 x.2.2.1 x.2.2.2.1 h.1.1 h.2.1⟩,⟨53,s53,fun x h => g53 x.1 x.2.1 x.2.2.1⟩,⟨19,s19_1,fun x h => g19_1 x.2.1 h.1.1 h.2.1⟩] L n28 s28 x h = F28 L g52 g18_1 g29 g53 g19_1 x.2.1 x.2.2.1 x.2.2.2.1 h.1.1 h.2.1 := by kernel_rfl
def f28 : Spec → (List Alloc) → (List (Bool × Alloc)) → (List Res) → (List (Int × Alloc)) → Option (((List Alloc) × (Bool × Unit)) × (((List Res) × (Unit × Unit)) × ((List (Int × Alloc)) × Unit))) := F28 (@LN LOOPS) f52 f18_1 f29 f53 f19_1
@[reducible] def t28 : Ent := ⟨28,s28,fun x h => f28 x.2.1 x.2.2.1 x.2.2.2.1 h.1.1 h.2.1⟩
theorem k28 : chkNF Try.prog Try.f28 n28 = true := by kernel_rfl
theorem ok28 : NOk Try.prog t28 := NOk.body (T := [t52,t18_1,t29,t53,t19_1]) mixed (nall_cons ok52 (nall_cons ok18_1 (nall_cons ok29 (nall_cons ok53 (nall_cons ok19_1 nall_nil))))) (oneEach_of (by kernel_rfl)) Try.func28 k28 (by kernel_rfl) (fun x h => e28 _ _ _ _ _ _ x h)
def s51 : Sig := ⟨(.cons (.mp 0) .nil),[.typed (.pair (.int .i64) .alloc)],((.mp 1),[.typed (.pair (.int .i64) .alloc),.typed (.pair (.int .i64) .alloc)]),[]⟩
def f51 : (List (Int × Alloc)) → Option (Unit × ((List (Int × Alloc)) × ((List (Int × Alloc)) × Unit))) := mclone
@[reducible] def t51 : Ent := ⟨51,s51,fun x h => f51 h.1⟩
theorem ok51 : NOk Try.prog t51 := ext51
def n27_1 : NFunc := ⟨17,.seq (.region 0 [
 o1 2 (.move (.const (.nilp))) 0] []) (.seq (.seq (.region 0 [
 oM 3 0 0,
 o1 4 (.eqP false (tm 3) (.const (.nilp))) 0] []) (.cond (tm 4) (.seq (.region 0 [
 o1 2 (.move (.const (.nilp))) 0] []) (.ret)) (.skip))) (.seq (.post [2] [.frzC 2 0] (.region 9 [
 o4 5 (.move (tm 0)) 0 [],
 o4 6 (.nilCheck (tm 5)) 0 [],
 o4 7 (.fieldAddr 0 (tm 6)) 0 [],
 o4 8 (.load false 1 (tm 7)) 0 [],
 o4 9 (.call (fc 41) [(vv 8)] true 4) 0 [],
 o4 10 (.move (tm 0)) 4 [],
 o4 11 (.nilCheck (tm 10)) 4 [],
 o4 12 (.fieldAddr 1 (tm 11)) 4 [],
 o4 13 (.load false 1 (tm 12)) 4 [],
 o4 14 (.call (fc 51) [(vw 13)] false 4) 4 [0,1,2,3],
 o4 15 (.build [.zsl,.nilfn] [(0,1,(tm 9)),(1,1,(tm 14))]) 8 [0,1,2,3,4,5,6,7],
 o4 16 (.box 2 (tm 15)) 8 [0,1,2,3,4,5,6,7],
 o4 2 (.move (tm 16)) 9 [0,1,2,3,4,5,6,7,8]] [])) (.ret))),[.tmp 2],false⟩
def s27_1 : Sig := ⟨(.cons (.ptr 0 0 0) .nil),[.cell false (.cons (.v (.list .res)) (.cons (.mp 1) .nil)),.typed (.pair (.int .i64) .alloc)],((.ptr 2 0 0),[.cell false (.cons (.v (.list .res)) (.cons (.mp 1) .nil)),.typed (.pair (.int .i64) .alloc),.cell false (.cons (.v (.list .res)) (.cons (.mp 3) .nil)),.typed (.pair (.int .i64) .alloc)]),[]⟩
def F27_1 (L : Lp) (g41 : (List Res) → Option (Unit × ((List Res) × Unit))) (g51 : (List (Int × Alloc)) → Option (Unit × ((List (Int × Alloc)) × ((List (Int × Alloc)) × Unit)))) (a0 : (List Res)) (a1 : (List (Int × Alloc))) : Option (Unit × (((List Res) × (Unit × Unit)) × ((List (Int × Alloc)) × (((List Res) × (Unit × Unit)) × ((List (Int × Alloc)) × Unit))))) :=
 Option.bind (g41 a0) fun r2 =>
 Option.bind (g51 a1) fun r3 =>
 some ((),((a0,(),()),r3.2.1,(r2.2.1,(),()),r3.2.2.1,()))
theorem e27_1 (L : Lp) (g41 : (List Res) → Option (Unit × ((List Res) × Unit))) (g51 : (List (Int × Alloc)) → Option (Unit × ((List (Int × Alloc)) × ((List (Int × Alloc)) × Unit)))) (x : s27_1.args.den) (h : denH s27_1.heap) : nrun [⟨41,s41,fun x h => g41 x.1⟩,⟨51,s51,fun x h => g51 h.1⟩] L n27_1 s27_1 x h = F27_1 L g41 g51 h.1.1 h.2.1 := by kernel_rfl
def f27_1 : (List Res) → (List (Int × Alloc)) → Option (Unit × (((List Res) × (Unit × Unit)) × ((List (Int × Alloc)) × (((List Res) × (Unit × Unit)) × ((List (Int × Alloc)) × Unit))))) := F27_1 (@LN LOOPS) f41 f51
@[reducible] def t27_1 : Ent := ⟨27,s27_1,fun x h => f27_1 h.1.1 h.2.1⟩
theorem k27_1 : chkNF Try.prog Try.f27 n27_1 = true := by kernel_rfl
theorem ok27_1 : NOk Try.prog t27_1 := NOk.body (T := [t41,t51]) mixed (nall_cons ok41 (nall_cons ok51 nall_nil)) (oneEach_of (by kernel_rfl)) Try.func27 k27_1 (by kernel_rfl) (fun x h => e27_1 _ _ _ x h)
def n5 : NFunc := ⟨116,.seq (.region 1 [
 o1 3 (.box 18 (tm 0)) 0,
 o1 6 (.move kf) 1] []) (.seq (.seq (.region 4 [
 o1 17 (.call (fc 13) [] false 4) 0,
 o1 18 (.un .not (tm 17)) 4] []) (.cond (tm 18) (.seq (.region 0 [
 o1 6 (.move kf) 0] []) (.ret)) (.skip))) (.seq (.region 0 [
 o1 7 (.move (.const (.nilp))) 0] []) (.seq (.seq (.region 5 [
 oM 20 7 0,
 o1 21 (.call (fc 26) [(vw 20),(false,(ki 1))] false 4) 0,
 oM 19 21 4,
 oX 22 19 0 4,
 oX 23 19 1 4,
 o1 8 (.alloc [iz,iz,iz,iz,iz,.zsl]) 4,
 oS 6 8 22 5,
 oM 9 23 5] []) (.seq (.region 20 [
 oM 24 9 0,
 oM 25 24 0,
 oN 26 7 25 0,
 o2 27 (.build [iz,iz,iz,iz,iz,.zsl] []) 25 0,
 o2 28 (.call (fc 19) [(vw 26),(vv 27)] false 4) 25 0,
 o2 29 (.bin .neq (tm 28) (ki 1)) 25 4,
 o1 30 (.pick (tm 25) kt (tm 29)) 4,
 oM 31 30 4,
 oN 32 7 31 4,
 o2 33 (.call (fc 18) [(vw 32),(false,(ki 1))] false 4) 31 4,
 o2 34 (.bin .neq (tm 33) (ki 1)) 31 8,
 o1 35 (.pick (tm 31) kt (tm 34)) 8,
 oM 36 35 8,
 oN 37 7 36 8,
 o2 38 (.call (fc 20) [(vw 37)] false 4) 36 8,
 o2 39 (.len (tm 38)) 36 12,
 oN 40 7 36 12,
 o2 41 (.call (fc 21) [(vw 40)] false 4) 36 12,
 o2 42 (.len (tm 41)) 36 16,
 o2 43 (.bin .add (tm 39) (tm 42)) 36 16,
 o2 44 (.bin .gtr (tm 43) (ki 0)) 36 16,
 o1 45 (.pick (tm 36) kt (tm 44)) 16,
 oM 46 45 16,
 oN 47 7 46 16,
 o2 48 (.call (fc 27) [(vw 47)] false 4) 46 16,
 o2 49 (.eqP true (tm 48) (.const (.nilp))) 46 20,
 o1 50 (.pick (tm 46) kt (tm 49)) 20] []) (.cond (tm 50) (.seq (.region 0 [
 o1 6 (.move kf) 0] []) (.ret)) (.skip)))) (.seq (.seq (.region 12 [
 oT 51 18 3 0,
 o1 52 (.call (fc 14) [(vv 51)] false 4) 0,
 o1 53 (.un .not (tm 52)) 4,
 oM 54 53 4,
 oN 55 1 54 4,
 o2 56 (.call (fc 15) [(vv 55)] false 4) 54 4,
 o2 57 (.un .not (tm 56)) 54 8,
 o1 58 (.pick (tm 54) kt (tm 57)) 8,
 oM 59 58 8,
 oN 60 2 59 8,
 o2 61 (.call (fc 15) [(vv 60)] false 4) 59 8,
 o2 62 (.un .not (tm 61)) 59 12,
 o1 63 (.pick (tm 59) kt (tm 62)) 12] []) (.cond (tm 63) (.seq (.region 0 [
 o1 6 (.move kt) 0] []) (.ret)) (.skip))) (.seq (.region 4 [
 oT 65 18 3 0,
 o1 66 (.call (fc 17) [(vv 65)] false 4) 0,
 oM 64 66 4,
 oX 67 64 0 4,
 oX 68 64 1 4,
 oM 10 67 4,
 oM 11 68 4] []) (.seq (.seq (.region 4 [
 oT 69 18 3 0,
 o1 70 (.call (fc 16) [(vv 69)] false 4) 0,
 o1 71 (.un .not (tm 70)) 4] []) (.cond (tm 71) (.seq (.region 0 [
 oM 72 10 0,
 o1 73 (.eqP false (tm 72) (.const (.nilp))) 0,
 oM 74 73 0,
 o3 75 (.move (tm 11)) 74 0,
 o3 76 (.bin .eql (tm 75) (ki 2)) 74 0,
 o1 77 (.pick (tm 74) (tm 76) kf) 0,
 oM 6 77 0] []) (.ret)) (.skip))) (.seq (.seq (.region 0 [
 oM 78 10 0,
 o1 79 (.eqP false (tm 78) (.const (.nilp))) 0,
 oM 80 79 0,
 oN 81 11 80 0,
 o2 82 (.bin .neq (tm 81) (ki 0)) 80 0,
 o1 83 (.pick (tm 80) kt (tm 82)) 0] []) (.cond (tm 83) (.seq (.region 0 [
 o1 6 (.move kf) 0] []) (.ret)) (.skip))) (.seq (.region 4 [
 oM 85 10 0,
 oT 86 18 3 0,
 oM 87 1 0,
 o1 88 (.call (fc 28) [(vw 85),(vv 86),(false,(.const (.zsl))),(vv 87)] false 4) 0,
 oM 84 88 4,
 oX 89 84 0 4,
 oX 90 84 1 4,
 oM 12 89 4,
 oM 13 90 4] []) (.seq (.seq (.region 0 [
 oM 91 13 0,
 o1 92 (.un .not (tm 91)) 0] []) (.cond (tm 92) (.seq (.region 0 [
 o1 6 (.move kf) 0] []) (.ret)) (.skip))) (.seq (.region 4 [
 oM 93 10 0,
 o1 94 (.call (fc 27) [(vw 93)] false 4) 0,
 oM 14 94 4] []) (.seq (.region 4 [
 oM 96 14 0,
 oT 97 18 3 0,
 oM 98 12 0,
 oM 99 2 0,
 o1 100 (.call (fc 28) [(vw 96),(vv 97),(vv 98),(vv 99)] false 4) 0,
 oM 95 100 4,
 oX 101 95 0 4,
 oX 102 95 1 4,
 oM 15 101 4,
 oM 16 102 4] []) (.seq (.region 8 [
 oM 103 16 0,
 oM 104 103 0,
 o3 105 (.move (tm 10)) 104 0,
 o3 106 (.load true 18 (tm 3)) 104 0,
 o3 107 (.move (tm 12)) 104 0,
 o3 108 (.call (fc 29) [(vw 105),(vv 106),(vv 107),(false,(ki 1))] false 4) 104 0,
 o1 109 (.pick (tm 104) (tm 108) kf) 4,
 oM 110 109 4,
 o3 111 (.move (tm 14)) 110 4,
 o3 112 (.load true 18 (tm 3)) 110 4,
 o3 113 (.move (tm 15)) 110 4,
 o3 114 (.call (fc 29) [(vw 111),(vv 112),(vv 113),(false,(ki 1))] false 4) 110 4,
 o1 115 (.pick (tm 110) (tm 114) kf) 8,
 oM 6 115 8] []) (.ret))))))))))))),[.tmp 6],true⟩
def s5 : Sig := ⟨(.cons (.v .spec) (.cons (.v (.list (.pair .bool .alloc))) (.cons (.v (.list (.pair .bool .alloc))) .nil))),[],((.v .bool),[]),[]⟩
def F5 (L : Lp) (g13 : Option Bool) (g26 : Int → Option (Alloc × (Bool × Unit))) (g19 : Alloc → Option Int) (g18 : Int → Option Int) (g20 : Option (List Res)) (g21_1 : Option (List Alloc)) (g27 : Option Unit) (g14 : Spec → Option Bool) (g15 : (List (Bool × Alloc)) → Option Bool) (g17 : Spec → Option ((Unit × (Int × Unit)) ⊕ ((Unit × (Int × Unit)) × (((List Res) × (Unit × Unit)) × ((List (Int × Alloc)) × Unit))))) (g16 : Spec → Option Bool) (g28 : Spec → (List Alloc) → (List (Bool × Alloc)) → (List Res) → (List (Int × Alloc)) → Option (((List Alloc) × (Bool × Unit)) × (((List Res) × (Unit × Unit)) × ((List (Int × Alloc)) × Unit)))) (g27_1 : (List Res) → (List (Int × Alloc)) → Option (Unit × (((List Res) × (Unit × Unit)) × ((List (Int × Alloc)) × (((List Res) × (Unit × Unit)) × ((List (Int × Alloc)) × Unit)))))) (g29 : Spec → (List Alloc) → Int → (List Res) → (List (Int × Alloc)) → Option (Bool × (((List Res) × (Unit × Unit)) × ((List (Int × Alloc)) × Unit)))) (as0 : Spec) (a1 : (List (Bool × Alloc))) (b2 : (List (Bool × Alloc))) : Option Bool :=
 Option.bind (g13) fun r3 =>
 cond (!r3)
 (some false)
 (Option.bind (g26 1) fun r4 =>
 cond r4.2.1
 (some false)
 (Option.bind (g19 (Alloc.mk 0 (Res.mk 0 0 0 0) [])) fun r5 =>
 cond (!decide (r5 = 1))
 (some false)
 (Option.bind (g18 1) fun r6 =>
 cond (!decide (r6 = 1))
 (some false)
 (Option.bind (g20) fun r7 =>
 Option.bind (g21_1) fun r8 =>
 cond (decide (0 < (IntKind.wrap .i64 ((List.length r7 : Int) + (List.length r8 : Int)))))
 (some false)
 (Option.bind (g27) fun r9 =>
 Option.bind (g14 as0) fun r10 =>
 cond (!r10)
 (some true)
 (Option.bind (g15 a1) fun r11 =>
 cond (!r11)
 (some true)
 (Option.bind (g15 b2) fun r12 =>
 cond (!r12)
 (some true)
 (Option.bind (g17 as0) (Sum.elim (fun r13 =>
 Option.bind (g16 as0) fun r14 =>
 cond (!r14)
 (some (decide (r13.2.1 = 2)))
 (some false)) (fun r15 =>
 Option.bind (g16 as0) fun r16 =>
 cond (!r16)
 (some false)
 (cond (!decide (r15.1.2.1 = 0))
 (some false)
 (Option.bind (g28 as0 [] a1 r15.2.1.1 r15.2.2.1) fun r17 =>
 cond (!r17.1.2.1)
 (some false)
 (Option.bind (g27_1 r17.2.1.1 r17.2.2.1) fun r18 =>
 Option.bind (g28 as0 r17.1.1 b2 r18.2.2.2.1.1 r18.2.2.2.2.1) fun r19 =>
 cond r19.1.2.1
 (Option.bind (g29 as0 r17.1.1 1 r18.2.1.1 r18.2.2.1) fun r20 =>
 cond r20.1
 (Option.bind (g29 as0 r19.1.1 1 r19.2.1.1 r19.2.2.1) fun r21 =>
 some r21.1)
 (some false))
 (some false))))))))))))))
theorem e5 (L : Lp) (g13 : Option Bool) (g26 : Int → Option (Alloc × (Bool × Unit))) (g19 : Alloc → Option Int) (g18 : Int → Option Int) (g20 : Option (List Res)) (g21_1 : Option (List Alloc)) (g27 : Option Unit) (g14 : Spec → Option Bool) (g15 : (List (Bool × Alloc)) → Option Bool) (g17 : Spec → Option ((Unit × (Int × Unit)) ⊕ ((Unit × (Int × Unit)) × (((List Res) × (Unit × Unit)) × ((List (Int × Alloc)) × Unit))))) (g16 : Spec → Option Bool) (g28 : Spec → (List Alloc) → (List (Bool × Alloc)) → (List Res) → (List (Int × Alloc)) → Option (((List Alloc) × (Bool × Unit)) × (((List Res) × (Unit × Unit)) × ((List (Int × Alloc)) × Unit)))) (g27_1 : (List Res) → (List (Int × Alloc)) → Option (Unit × (((List Res) × (Unit × Unit)) × ((List (Int × Alloc)) × (((List Res) × (Unit × Unit)) × ((List (Int × Alloc)) × Unit)))))) (g29 : Spec → (List Alloc) → Int → (List Res) → (List (Int × Alloc)) → Option (Bool × (((List Res) × (Unit × Unit)) × ((List (Int × Alloc)) × Unit)))) (x : s5.args.den) (h : denH s5.heap) : nrun [⟨13,s13,fun x h => g13 ⟩,⟨26,s26,fun x h => g26 x.2.1⟩,⟨19,s19,fun x h => g19 x.2.1⟩,⟨18,s18,fun x h => g18 x.2.1⟩,⟨20,s20,fun x h => g20 ⟩,⟨21,s21_1,fun x h => g21_1 ⟩,⟨27,s27,fun x h => g27 ⟩,⟨14,s14,fun x h => g14 x.1⟩,⟨15,s15,fun x h => g15 x.1⟩,⟨17,s17,fun x h => g17 x.1⟩,⟨16,s16,fun x h => g16 x.1⟩,⟨28,s28,fun x h => g28 x.2.1 x.2.2.1 x.2.2.2.1 h.1.1 h.2.1⟩,⟨27,s27_1,fun x h => g27_1 h.1.1 h.2.1⟩,⟨29,s29,fun x h => g29 x.2.1 x.2.2.1 x.2.2.2.1 h.1.1 h.2.1⟩] L n5 s5 x h = F5 L g13 g26 g19 g18 g20 g21_1 g27 g14 g15 g17 g16 g28 g27_1 g29 x.1 x.2.1 x.2.2.1 := by kernel_rfl
def f5 : Spec → (List (Bool × Alloc)) → (List (Bool × Alloc)) → Option Bool := F5 (@LN LOOPS) f13 f26 f19 f18 f20 f21_1 f27 f14 f15 f17 f16 f28 f27_1 f29
@[reducible] def t5 : Ent := ⟨5,s5,fun x h => f5 x.1 x.2.1 x.2.2.1⟩
theorem k5 : chkNF Try.prog Try.f5 n5 = true := by kernel_rfl
theorem ok5 : NOk Try.prog t5 := NOk.body (T := [t13,t26,t19,t18,t20,t21_1,t27,t14,t15,t17,t16,t28,t27_1,t29]) mixed (nall_cons ok13 (nall_cons ok26 (nall_cons ok19 (nall_cons ok18 (nall_cons ok20 (nall_cons ok21_1 (nall_cons ok27 (nall_cons ok14 (nall_cons ok15 (nall_cons ok17 (nall_cons ok16 (nall_cons ok28 (nall_cons ok27_1 (nall_cons ok29 nall_nil)))))))))))))) (oneEach_of (by kernel_rfl)) Try.func5 k5 (by kernel_rfl) (fun x h => e5 _ _ _ _ _ _ _ _ _ _ _ _ _ _ _ x h)
end NM
end Go.Proofs.Ytfelhbeiegppgaa
end
section
namespace Go.Proofs.Ytfelhbeiegppgaa
namespace NM
open AM
def resOk (a : Res) : Bool := decide (0 ≤ a.cpu ∧ a.cpu ≤ 1048576 ∧ 0 ≤ a.mem ∧ a.mem ≤ 1048576 ∧ 0 ≤ a.gpu ∧ a.gpu ≤ 1048576 ∧ 0 ≤ a.lic ∧ a.lic ≤ 1048576)
def asc (e : Int) : Int → List Int → Bool
 | _, [] => true
 | a, n :: l => decide (a < n) && decide (n < e) && asc e n l
def nodesOk (s : Spec) : Bool := decide (1 ≤ s.nodes.length ∧ s.nodes.length ≤ 16) && s.nodes.all resOk
def partsOk (s : Spec) : Bool := decide (1 ≤ s.parts.length ∧ s.parts.length ≤ 8) && s.parts.all fun p => decide (1 ≤ p.length) && asc s.nodes.length (-1) p
def queueOk (s : Spec) (q : Queue) : Bool := decide (0 ≤ q.part ∧ q.part < s.parts.length) && asc s.users (-1) q.users && decide (1 ≤ q.maxJobs ∧ q.maxJobs ≤ 256 ∧ 1 ≤ q.maxRun ∧ q.maxRun ≤ 256 ∧ 1 ≤ q.maxUser ∧ q.maxUser ≤ 256 ∧ 0 ≤ q.qos ∧ q.qos ≤ 100)
def queuesOk (s : Spec) : Bool := decide (1 ≤ s.queues.length ∧ s.queues.length ≤ 8) && s.queues.all (queueOk s)
def weightsOk (w : Weights) : Bool := decide (0 ≤ w.age ∧ w.age ≤ 1000 ∧ 0 ≤ w.size ∧ w.size ≤ 1000 ∧ 0 ≤ w.qos ∧ w.qos ≤ 1000 ∧ 0 ≤ w.share ∧ w.share ≤ 1000)
theorem p_numbers (a : Res) : f74 a = some (a.cpu, a.mem, a.gpu, a.lic) := rfl
theorem p_vecRight (a : Res) : f45 a = some (resOk a) := by
 unfold f45 F45
 simp only [p_numbers, Option.bind_some, cond_somes]
 congr 1
 rw [Bool.eq_iff_iff]
 simp [resOk]
theorem p_nodesRight (s : Spec) (hs : Rng.P s) : f95 s = some (nodesOk s) := by
 unfold f95 F95
 rw [all_loop s.nodes (fun z => ((z, ()), ())) resOk true hs.1.1]
 · simp only [cond_somes, nodesOk, Bool.and_true]
   congr 1
   cases s.nodes.all resOk <;> rw [Bool.eq_iff_iff] <;> simp <;> omega
 · intro next
   simp [l95_0]
 · intro z x next h0 h1 h2 h3
   simp only [l95_0, h0, h1, h2, h3, decide_true, cond_true, Option.bind_some, p_vecRight]
   cases resOk x <;> rfl
theorem p_ascending (l : List Int) (hl : l.length ≤ maxLen) (e : Int) : f115 l e = some (asc e (-1) l) := by
 unfold f115 F115
 rw [list_loop l (fun b z => ((b, z, ()), ())) (fun b x => cond (decide (x ≤ b) || decide (e ≤ x)) (.inr (some false)) (.inl x)) (fun _ => some true) hl]
 · generalize (-1 : Int) = a
   clear hl
   induction l generalizing a with
   | nil => rfl
   | cons n l ih =>
     simp only [runL, asc]
     by_cases h1 : n ≤ a
     · simp [h1]; omega
     · by_cases h2 : e ≤ n
       · simp [h1, h2]; omega
       · have h3 : a < n := by omega
         have h4 : n < e := by omega
         simp [h1, h2, h3, h4, ih]
 · intro b next
   simp [l115_0]
 · intro b z x next h0 h1 h2 h3
   simp only [l115_0, h0, h1, h2, h3, decide_true, cond_true, Option.bind_some]
   by_cases h4 : x ≤ b <;> by_cases h5 : e ≤ x <;> simp [h4, h5]
theorem p_partsRight (s : Spec) (hs : Rng.P s) : f97 s = some (partsOk s) := by
 unfold f97 F97
 rw [all_loop s.parts (fun z => (((), z, ()), (s, ()))) (fun p => decide (1 ≤ p.length) && asc s.nodes.length (-1) p) true hs.2.1.1]
 · simp only [cond_somes, partsOk, Bool.and_true]
   congr 1
   cases s.parts.all _ <;> rw [Bool.eq_iff_iff] <;> simp <;> omega
 · intro next
   simp [l97_0]
 · intro z x next h0 h1 h2 h3
   have hx := (hs.2.1.2 x (List.mem_of_getElem? h2)).1
   simp only [l97_0, h0, h1, h2, h3, decide_true, cond_true, Option.bind_some, p_ascending x hx]
   by_cases h4 : x.length < 1
   · have : x = [] := List.eq_nil_of_length_eq_zero (by omega)
     simp [this]
   · have h5 : 1 ≤ x.length := by omega
     have h6 : ¬ ((x.length : Int) < 1) := by omega
     simp only [h5, h6, decide_true, decide_false, cond_false, Bool.true_and]
     cases asc s.nodes.length (-1) x <;> rfl
theorem p_queuesRight (s : Spec) (hs : Rng.P s) : f100 s = some (queuesOk s) := by
 unfold f100 F100
 rw [all_loop s.queues (fun z => (((), z, ()), (s, ()))) (queueOk s) true hs.2.2.1.1]
 · simp only [cond_somes, queuesOk, Bool.and_true]
   congr 1
   cases s.queues.all _ <;> rw [Bool.eq_iff_iff] <;> simp <;> omega
 · intro next
   simp [l100_0]
 · intro z x next h0 h1 h2 h3
   have hx : x.users.length ≤ maxLen := (hs.2.2.1.2 x (List.mem_of_getElem? h2)).2.1.1
   simp only [l100_0, h0, h1, h2, h3, decide_true, cond_true, Option.bind_some, p_ascending _ hx, chk0 next, chk1]
   congr 1
   simp only [queueOk]
   cases asc s.users (-1) x.users <;> rw [Bool.eq_iff_iff] <;> simp <;> omega
theorem p_weightsRight (w : Weights) : f102 w = some (weightsOk w) := by
 unfold f102 F102
 simp only [cond_somes]
 congr 1
 rw [Bool.eq_iff_iff]
 simp [weightsOk]
def inB (n lo hi : Int) : Bool := decide (lo ≤ n) && decide (n ≤ hi)
theorem p_c1 (s : Spec) (hs : Rng.P s) : f94 s.nodes s.parts s.queues s.users s.weights.age s.weights.size s.weights.qos s.weights.share s.decay s.mode s.jobs s.ids s.versions s.linger s.keep s.inn s.out s.cache = some (nodesOk s) := (congrArg (fun o => Option.bind o fun r => some r) (p_nodesRight s hs)).trans rfl
theorem p_c2 (s : Spec) (hs : Rng.P s) : f96 s.nodes s.parts s.queues s.users s.weights.age s.weights.size s.weights.qos s.weights.share s.decay s.mode s.jobs s.ids s.versions s.linger s.keep s.inn s.out s.cache = some (partsOk s) := (congrArg (fun o => Option.bind o fun r => some r) (p_partsRight s hs)).trans rfl
theorem p_c3 (s : Spec) (hs : Rng.P s) : f99 s.nodes s.parts s.queues s.users s.weights.age s.weights.size s.weights.qos s.weights.share s.decay s.mode s.jobs s.ids s.versions s.linger s.keep s.inn s.out s.cache = some (queuesOk s) := (congrArg (fun o => Option.bind o fun r => some r) (p_queuesRight s hs)).trans rfl
theorem p_c4 (s : Spec) : f101 s.nodes s.parts s.queues s.users s.weights.age s.weights.size s.weights.qos s.weights.share s.decay s.mode s.jobs s.ids s.versions s.linger s.keep s.inn s.out s.cache = some (weightsOk s.weights) := (congrArg (fun o => Option.bind o fun r => some r) (p_weightsRight s.weights)).trans rfl
theorem p_c5 (s : Spec) : f103 s.nodes s.parts s.queues s.users s.weights.age s.weights.size s.weights.qos s.weights.share s.decay s.mode s.jobs s.ids s.versions s.linger s.keep s.inn s.out s.cache = some (decide (s.mode = 1) || decide (s.mode = 2)) := by
 unfold f103 F103
 simp only [cond_somes, Bool.cond_true_left]
theorem p_within (lo n hi : Int) : f116 lo n hi = some (inB n lo hi) := by
 unfold f116 F116
 simp only [cond_somes, Bool.cond_false_right, inB]
def flaw (s : Spec) : List UInt8 := cond (!(nodesOk s)) [78, 111, 100, 101, 115] (cond (!(partsOk s)) [80, 97, 114, 116, 115] (cond (!(inB s.users 1 8)) [85, 115, 101, 114, 115] (cond (!(queuesOk s)) [81, 117, 101, 117, 101, 115] (cond (!(weightsOk s.weights)) [87, 101, 105, 103, 104, 116, 115] (cond (!(inB s.decay 1 16)) [68, 101, 99, 97, 121] (cond (!(decide (s.mode = 1) || decide (s.mode = 2))) [77, 111, 100, 101] (cond (!(inB s.jobs 1 256)) [74, 111, 98, 115] (cond (!(inB s.ids 1 1048576)) [73, 100, 115] (cond (!(inB s.versions 1 65536)) [86, 101, 114, 115, 105, 111, 110, 115] (cond (!(inB s.linger 0 65536)) [76, 105, 110, 103, 101, 114] (cond (!(inB s.keep 1 16)) [75, 101, 101, 112] (cond (!(inB s.inn 1 8)) [73, 110] (cond (!(inB s.out 1 16)) [79, 117, 116] (cond (!(inB s.cache 0 16)) [67, 97, 99, 104, 101] ([])))))))))))))))
def specOk (s : Spec) : Bool := nodesOk s && (partsOk s && (inB s.users 1 8 && (queuesOk s && (weightsOk s.weights && (inB s.decay 1 16 && ((decide (s.mode = 1) || decide (s.mode = 2)) && (inB s.jobs 1 256 && (inB s.ids 1 1048576 && (inB s.versions 1 65536 && (inB s.linger 0 65536 && (inB s.keep 1 16 && (inB s.inn 1 8 && (inB s.out 1 16 && (inB s.cache 0 16))))))))))))))
theorem p_Flaw (s : Spec) (hs : Rng.P s) : f70 s = some (flaw s) := by
 unfold f70 F70
 rw [show f88 s = some _ from rfl]
 simp only [Option.bind_some, p_c1 s hs, p_c2 s hs, p_c3 s hs, p_c4 s, p_c5 s, p_within, cond_somes]
 rfl
theorem flaw_bits (b0 b1 b2 b3 b4 b5 b6 b7 b8 b9 b10 b11 b12 b13 b14 : Bool) : decide (cond (!b0) [78, 111, 100, 101, 115] (cond (!b1) [80, 97, 114, 116, 115] (cond (!b2) [85, 115, 101, 114, 115] (cond (!b3) [81, 117, 101, 117, 101, 115] (cond (!b4) [87, 101, 105, 103, 104, 116, 115] (cond (!b5) [68, 101, 99, 97, 121] (cond (!b6) [77, 111, 100, 101] (cond (!b7) [74, 111, 98, 115] (cond (!b8) [73, 100, 115] (cond (!b9) [86, 101, 114, 115, 105, 111, 110, 115] (cond (!b10) [76, 105, 110, 103, 101, 114] (cond (!b11) [75, 101, 101, 112] (cond (!b12) [73, 110] (cond (!b13) [79, 117, 116] (cond (!b14) [67, 97, 99, 104, 101] ([]))))))))))))))) = ([] : List UInt8)) = (b0 && (b1 && (b2 && (b3 && (b4 && (b5 && (b6 && (b7 && (b8 && (b9 && (b10 && (b11 && (b12 && (b13 && (b14))))))))))))))) := by
 cases b0; exact rfl
 cases b1; exact rfl
 cases b2; exact rfl
 cases b3; exact rfl
 cases b4; exact rfl
 cases b5; exact rfl
 cases b6; exact rfl
 cases b7; exact rfl
 cases b8; exact rfl
 cases b9; exact rfl
 cases b10; exact rfl
 cases b11; exact rfl
 cases b12; exact rfl
 cases b13; exact rfl
 cases b14; exact rfl
 rfl
theorem p_Right (s : Spec) (hs : Rng.P s) : f40 s = some (specOk s) := by
 unfold f40 F40
 rw [p_Flaw s hs]
 simp only [Option.bind_some, flaw, specOk]
 exact congrArg some (flaw_bits _ _ _ _ _ _ _ _ _ _ _ _ _ _ _)
theorem r_in (n lo hi : Int) : f66 n lo hi = some (inB n lo hi) := by
 unfold f66 F66
 simp only [cond_somes, Bool.cond_false_right, inB]
theorem r_right1 (n : Int) : f50 n = some (inB n 0 1048576) := by
 unfold f50 F50
 simp only [cond_somes, Bool.cond_false_right, inB]
theorem r_vecRight (a : Res) : f25 a = some (resOk a) := by
 unfold f25 F25
 simp only [r_right1, Option.bind_some, cond_somes, Bool.cond_false_right]
 congr 1
 rw [Bool.eq_iff_iff]
 simp [resOk, inB, and_assoc]
theorem r_nodes (s : Spec) (hs : Rng.P s) : f67 s = some (nodesOk s) := by
 unfold f67 F67
 rw [all_loop s.nodes (fun z => (((), z, ()), (s, ()))) resOk (inB s.nodes.length 1 16) hs.1.1]
 · congr 1
   rw [nodesOk, Bool.and_comm]
   congr 1
   rw [Bool.eq_iff_iff]
   simp [inB]
   omega
 · intro next
   simp [l67_0, r_in]
 · intro z x next h0 h1 h2 h3
   simp only [l67_0, h0, h1, h2, h3, decide_true, cond_true, Option.bind_some, r_vecRight]
   cases resOk x <;> rfl
theorem r_Rising (l : List Int) (hl : l.length ≤ maxLen) (e : Int) : f87 l e = some (asc e (-1) l) := by
 unfold f87 F87
 have hml : maxLen = 9223372036854775807 := rfl
 rw [list_loopI (β := Int) l (fun b z => ((z, ()), ())) (fun a z => (z = 0 ∧ a = -1) ∨ (0 < z ∧ l[(z - 1).toNat]? = some a ∧ 0 ≤ a)) (fun b x => cond (decide (x ≤ b) || decide (e ≤ x)) (.inr (some false)) (.inl x)) (fun _ => some true) hl ?_ ?_ (-1) (.inl ⟨rfl, rfl⟩)]
 · generalize (-1 : Int) = a
   clear hl
   induction l generalizing a with
   | nil => rfl
   | cons n l ih =>
     simp only [runL, asc]
     by_cases h1 : n ≤ a
     · simp [h1]; omega
     · by_cases h2 : e ≤ n
       · simp [h1, h2]; omega
       · have h3 : a < n := by omega
         have h4 : n < e := by omega
         simp [h1, h2, h3, h4, ih]
 · intro b next _
   simp [l87_0]
 · intro b z x next hI h0 h1 h2 h3
   simp only [l87_0, h0, h1, h2, h3, decide_true, cond_true, Option.bind_some]
   have hw : IntKind.wrap .i64 (z - 1) = z - 1 := wi (by omega) (by omega)
   rw [hw]
   by_cases h5 : e ≤ x
   · simp only [h5, decide_true, Bool.or_true, cond_true]
     by_cases h6 : x < 0 <;> simp [h6]
   · have h5' : decide (e ≤ x) = false := by simp [h5]
     rcases hI with ⟨rfl, rfl⟩ | ⟨hz, ha, hn⟩
     · by_cases h6 : x < 0
       · have h7 : x ≤ -1 := by omega
         simp [h6, h7]
       · have h7 : ¬ (x ≤ -1) := by omega
         simp [h5, h6, h7]
         exact ⟨by simpa using h2, by omega⟩
     · have hz1 : 0 ≤ z - 1 := by omega
       have hzz : z + 1 - 1 = z := by omega
       by_cases h6 : x ≤ b
       · by_cases h7 : x < 0
         · simp [h6, h7]
         · simp only [h6, h7, h5, hz, hz1, ha, decide_true, decide_false, cond_true, cond_false, Option.bind_some, Bool.true_or]
       · have h7 : ¬ (x < 0) := by omega
         simp only [h6, h7, h5, hz, hz1, ha, decide_true, decide_false, cond_true, cond_false, Option.bind_some, Bool.or_false]
         refine ⟨.inr ⟨by omega, ?_, by omega⟩, trivial⟩
         rw [hzz]; exact h2
theorem r_parts (s : Spec) (hs : Rng.P s) : f68 s = some (partsOk s) := by
 unfold f68 F68
 rw [all_loop s.parts (fun z => (((), z, ()), (s, ()))) (fun p => decide (1 ≤ p.length) && asc s.nodes.length (-1) p) (inB s.parts.length 1 8) hs.2.1.1]
 · congr 1
   rw [partsOk, Bool.and_comm]
   congr 1
   rw [Bool.eq_iff_iff]
   simp [inB]
   omega
 · intro next
   simp [l68_0, r_in]
 · intro z x next h0 h1 h2 h3
   have hx : x.length ≤ maxLen := (hs.2.1.2 x (List.mem_of_getElem? h2)).1
   simp only [l68_0, h0, h1, h2, h3, decide_true, cond_true, Option.bind_some, r_Rising x hx, chk0 next, chk1]
   congr 1
   cases asc s.nodes.length (-1) x <;> rw [Bool.eq_iff_iff] <;> simp <;> omega
theorem r_queues (s : Spec) (hs : Rng.P s) : f69 s = some (queuesOk s) := by
 unfold f69 F69
 rw [all_loop s.queues (fun z => (((), z, ()), (s, ()))) (queueOk s) (inB s.queues.length 1 8) hs.2.2.1.1]
 · congr 1
   rw [queuesOk, Bool.and_comm]
   congr 1
   rw [Bool.eq_iff_iff]
   simp [inB]
   omega
 · intro next
   simp [l69_0, r_in]
 · intro z x next h0 h1 h2 h3
   have hx : x.users.length ≤ maxLen := (hs.2.2.1.2 x (List.mem_of_getElem? h2)).2.1.1
   simp only [l69_0, h0, h1, h2, h3, decide_true, cond_true, Option.bind_some, r_Rising _ hx, r_in, chk0 next, chk1]
   congr 1
   simp only [queueOk, inB]
   cases asc s.users (-1) x.users <;> rw [Bool.eq_iff_iff] <;> simp <;> omega
theorem mode_in (n : Int) : inB n 1 2 = (decide (n = 1) || decide (n = 2)) := by
 rw [Bool.eq_iff_iff]; simp [inB]; omega
theorem weights_in (w : Weights) : cond (inB w.age 0 1000) (cond (inB w.size 0 1000) (cond (inB w.qos 0 1000) (inB w.share 0 1000) false) false) false = weightsOk w := by
 rw [Bool.eq_iff_iff]; simp [inB, weightsOk]; omega
theorem r_Flaw (s : Spec) (hs : Rng.P s) : f39 s = some (flaw s) := by
 unfold f39 F39
 simp only [r_in, Option.bind_some, cond_somes, cond_mk, cond_self, weights_in, mode_in, r_nodes s hs, r_parts s hs, r_queues s hs]
 rfl
theorem r_Right (s : Spec) (hs : Rng.P s) : f16 s = some (specOk s) := by
 unfold f16 F16
 rw [r_Flaw s hs]
 simp only [Option.bind_some, flaw, specOk]
 exact congrArg some (flaw_bits _ _ _ _ _ _ _ _ _ _ _ _ _ _ _)
def fewB (s : Spec) : Bool := decide (s.nodes.length ≤ 40 ∧ s.parts.length ≤ 20 ∧ s.queues.length ≤ 20) && (s.parts.all (fun p => decide (p.length ≤ 40)) && s.queues.all (fun q => decide (q.users.length ≤ 40)))
theorem r_Few (s : Spec) (hs : Rng.P s) : f14 s = some (fewB s) := by
 unfold f14 F14
 rw [all_loop s.parts (fun z => (((), z, ()), (s, ()))) (fun p => decide (p.length ≤ 40)) (s.queues.all (fun q => decide (q.users.length ≤ 40))) hs.2.1.1]
 · simp only [cond_somes, fewB]
   congr 1
   cases s.parts.all _ <;> cases s.queues.all _ <;> rw [Bool.eq_iff_iff] <;> simp <;> omega
 · intro next
   simp only [l14_1, Int.lt_irrefl, decide_false, cond_false]
   rw [all_loop s.queues (fun z => ((z, ()), ())) (fun q => decide (q.users.length ≤ 40)) true hs.2.2.1.1]
   · simp
   · intro next
     simp [l14_0]
   · intro z x next h0 h1 h2 h3
     simp only [l14_0, h0, h1, h2, h3, decide_true, cond_true, Option.bind_some, chk0 next]
     congr 1
     rw [Bool.eq_iff_iff]; simp; omega
 · intro z x next h0 h1 h2 h3
   simp only [l14_1, h0, h1, h2, h3, decide_true, cond_true, Option.bind_some, chk0 next]
   congr 1
   rw [Bool.eq_iff_iff]; simp; omega
end NM
end Go.Proofs.Ytfelhbeiegppgaa
end
