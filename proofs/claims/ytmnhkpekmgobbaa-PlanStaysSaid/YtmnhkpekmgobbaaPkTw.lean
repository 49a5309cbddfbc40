/-
  What the proof of PlanStays leans on, part 23. (Many texts laid together by program.)
-/
import Derived.Test.YtmnhkpekmgobbaaPkTv
set_option linter.unnecessarySimpa false
set_option linter.unusedSimpArgs false
set_option linter.unusedVariables false
section
set_option maxRecDepth 100000
set_option maxHeartbeats 4000000
namespace Go.Proofs.Ytmnhkpekmgobbaa
namespace NM
open AM Go.RowKit
def n125_1 : NFunc := ⟨79,.seq (.region 1 [
 o1 9 (.box 4 (tm 4)) 0,
 o1 10 (.move (ki 0)) 1] []) (.seq (.region 1 [
 oM 18 3 0,
 o1 19 (.len (tm 18)) 0,
 o1 20 (.makeSlice 1 24 true [.zsl] (tm 19) (tm 19)) 0,
 oM 11 20 1] [⟨20,some (.list .step),none⟩]) (.seq (.seq (.region 0 [
 oM 21 3 0,
 o1 22 (.len (tm 21)) 0,
 o1 23 (.move (ki 0)) 0] []) (.block 0 (.loop [0,1,2,3,9,11,21,22,23] ⟨[(0,(.ptr 0 0 0)),(9,(.ptr 2 0 0)),(11,(.slw 3 1)),(23,vI)],[1,2,3,21,22],[.cell false (.cons vI (.cons (.v (.list (.list (.int .i64)))) (.cons (.slw 1 1) .nil))),.typed (.list .step),.one false .res,.typed (.list .step)]⟩ (.seq (.region 0 [
 oB 24 .lss 23 22 0] []) (.seq (.cond (tm 24) (.skip) (.exit 0)) (.seq (.block 1 (.seq (.region 1 [
 oM 25 23 0,
 o1 26 (.indexSl 2 (tm 21) (tm 23)) 0,
 oT 27 2 26 0,
 o1 13 (.alloc [iz,iz]) 0,
 oM 12 25 1,
 oS 2 13 27 1] []) (.seq (.region 5 [
 oT 29 4 9 0,
 oF 30 1 13 0,
 oL 31 30 0,
 o1 32 (.call (fc 157) [(vv 29),(vv 31)] false 4) 0,
 oM 28 32 4,
 oX 33 28 0 4,
 oX 34 28 1 4,
 o1 14 (.alloc [iz,iz,iz,iz]) 4,
 oS 4 14 33 5,
 oM 15 34 5] []) (.seq (.seq (.region 0 [
 oM 35 15 0,
 oC 36 .neq 35 0 0] []) (.cond (tm 36) (.seq (.region 0 [
 oM 37 15 0,
 oM 10 37 0] []) (.ret)) (.skip))) (.seq (.region 4 [
 o4 39 (.move (tm 11)) 0 [],
 o4 40 (.move (tm 12)) 0 [],
 o4 41 (.move (tm 0)) 0 [],
 o4 42 (.nilCheck (tm 41)) 0 [],
 o4 43 (.fieldAddr 2 (tm 42)) 0 [],
 o4 44 (.load false 1 (tm 43)) 0 [],
 o4 45 (.fieldAddr 0 (tm 13)) 0 [],
 o4 46 (.load false 1 (tm 45)) 0 [],
 o4 47 (.indexSl 1 (tm 44) (tm 46)) 0 [],
 o4 48 (.load false 1 (tm 47)) 0 [],
 o4 49 (.move (tm 1)) 0 [],
 o4 50 (.move (tm 2)) 0 [],
 o4 51 (.load true 4 (tm 14)) 0 [],
 o4 52 (.call (fc 126) [(vv 48),(vv 49),(vv 50),(vv 51)] false 4) 0 [],
 o4 38 (.move (tm 52)) 4 [0,1,2,3],
 o4 53 (.extract (tm 38) 0) 4 [0,1,2,3],
 o4 54 (.extract (tm 38) 1) 4 [0,1,2,3],
 o4 55 (.indexSl 1 (tm 39) (tm 40)) 4 [0,1,2,3],
 ⟨none,.store 1 (tm 55) (tm 53),none,4,(some ([0,1,2,3],none))⟩,
 o4 15 (.move (tm 54)) 4 [0,1,2,3]] []) (.seq (.region 0 [
 oM 56 15 0,
 oC 57 .neq 56 0 0] []) (.cond (tm 57) (.seq (.region 0 [
 oM 58 15 0,
 oM 10 58 0] []) (.ret)) (.skip)))))))) (.region 0 [
 oC 59 .add 23 1 0,
 oM 23 59 0] []))))))) (.seq (.seq (.region 0 [
 oM 60 3 0,
 o1 61 (.len (tm 60)) 0,
 o1 62 (.move (ki 0)) 0] []) (.block 2 (.loop [0,11,60,61,62] ⟨[(0,(.ptr 0 0 0)),(11,(.slw 2 1)),(62,vI)],[60,61],[.cell false (.cons vI (.cons (.v (.list (.list (.int .i64)))) (.cons (.slw 1 1) .nil))),.typed (.list .step),.typed (.list .step)]⟩ (.seq (.region 0 [
 oB 63 .lss 62 61 0] []) (.seq (.cond (tm 63) (.skip) (.exit 2)) (.seq (.block 3 (.seq (.region 1 [
 oM 64 62 0,
 o1 65 (.indexSl 2 (tm 60) (tm 62)) 0,
 oT 66 2 65 0,
 o1 17 (.alloc [iz,iz]) 0,
 oM 16 64 1,
 oS 2 17 66 1] []) (.region 0 [
 o4 67 (.move (tm 0)) 0 [],
 o4 68 (.nilCheck (tm 67)) 0 [],
 o4 69 (.fieldAddr 2 (tm 68)) 0 [],
 o4 70 (.load false 1 (tm 69)) 0 [],
 o4 71 (.fieldAddr 0 (tm 17)) 0 [],
 o4 72 (.load false 1 (tm 71)) 0 [],
 o4 73 (.move (tm 11)) 0 [],
 o4 74 (.move (tm 16)) 0 [],
 o4 75 (.indexSl 1 (tm 73) (tm 74)) 0 [],
 o4 76 (.load false 1 (tm 75)) 0 [],
 o4 77 (.indexSl 1 (tm 70) (tm 72)) 0 [],
 ⟨none,.store 1 (tm 77) (tm 76),none,0,(some ([],none))⟩] []))) (.region 0 [
 oC 78 .add 62 1 0,
 oM 62 78 0] []))))))) (.seq (.region 0 [
 o1 10 (.move (ki 0)) 0] []) (.ret))))),[.tmp 10],true⟩
def s125_1 : Sig := ⟨(.cons (.ptr 0 0 0) (.cons (.v (.int .i64)) (.cons (.v (.int .i64)) (.cons (.v (.list .share)) (.cons (.v .res) .nil))))),[.cell false (.cons (.v (.int .i64)) (.cons (.v (.list (.list (.int .i64)))) (.cons (.slw 1 1) .nil))),.typed (.list .step)],((.v (.int .i64)),[.cell false (.cons (.v (.int .i64)) (.cons (.v (.list (.list (.int .i64)))) (.cons (.slw 1 1) .nil))),.typed (.list .step)]),[]⟩
def l125_1_0 (al2 : (List Share)) (nx21 : ((Unit × (Unit × (Int × Unit))) × (Tac × Tag)) → Option (Int × Taa)) (z22 : Int) (z23 : Int) (z24 : (List (List Int))) (z25 : (List (List Step))) (z26 : (List (List Step))) : Option (Int × Taa) :=
 cond (decide (z22 < (List.length al2 : Int)))
 (cond (decide (0 ≤ z22))
 (Option.bind (al2[Int.toNat z22]?) fun y27 =>
 cond (decide (0 ≤ z22))
 (cond (decide ((Int.toNat z22) < (List.length z26)))
 (Option.bind (z26[Int.toNat z22]?) fun y28 =>
 cond (decide (0 ≤ y27.node))
 (cond (decide ((Int.toNat y27.node) < (List.length z25)))
 (Option.bind (z25[Int.toNat y27.node]?) fun y29 =>
 nx21 (((),(),IntKind.wrap .i64 (z22 + 1),()),((z23,z24,(),()),List.set z25 (Int.toNat y27.node) y28,z26,())))
 (none))
 (none))
 (none))
 (none))
 (none))
 (some (0,((z23,z24,(),()),z25,())))
def l125_1_1 (L : Lp) (g157 : Res → Int → Option (Res × (Int × Unit))) (g126 : (List Step) → Int → Int → Res → Option ((List Step) × (Int × Unit))) (from0 : Int) (to1 : Int) (al2 : (List Share)) (nx8 : (Tak × (Tac × ((List (List Step)) × (Res × ((List (List Step)) × Unit))))) → Option (Int × Taa)) (z9 : Int) (z10 : Int) (z11 : (List (List Int))) (z12 : (List (List Step))) (z13 : Res) (z14 : (List (List Step))) : Option (Int × Taa) :=
 cond (decide (z9 < (List.length al2 : Int)))
 (cond (decide (0 ≤ z9))
 (Option.bind (al2[Int.toNat z9]?) fun y15 =>
 Option.bind (g157 z13 y15.many) fun r16 =>
 cond (!decide (r16.2.1 = 0))
 (some (r16.2.1,((z10,z11,(),()),z12,())))
 (cond (decide (0 ≤ y15.node))
 (cond (decide ((Int.toNat y15.node) < (List.length z12)))
 (Option.bind (z12[Int.toNat y15.node]?) fun y17 =>
 Option.bind (g126 y17 from0 to1 r16.1) fun r18 =>
 cond (decide (0 ≤ z9))
 (cond (decide ((Int.toNat z9) < (List.length z14)))
 (Option.bind (z14[Int.toNat z9]?) fun y19 =>
 cond (!decide (r18.2.1 = 0))
 (some (r18.2.1,((z10,z11,(),()),z12,())))
 (nx8 (((),(),(),IntKind.wrap .i64 (z9 + 1),()),((z10,z11,(),()),z12,z13,List.set z14 (Int.toNat z9) r18.1,()))))
 (none))
 (none))
 (none))
 (none)))
 (none))
 (L (fun (s20 : ((Unit × (Unit × (Int × Unit))) × (Tac × Tag))) nx21 => l125_1_0 al2 nx21 s20.1.2.2.1 s20.2.1.1 s20.2.1.2.1 s20.2.2.1 s20.2.2.2.1) (((),(),0,()),((z10,z11,(),()),z12,z14,())))
def F125_1 (L : Lp) (g157 : Res → Int → Option (Res × (Int × Unit))) (g126 : (List Step) → Int → Int → Res → Option ((List Step) × (Int × Unit))) (from0 : Int) (to1 : Int) (al2 : (List Share)) (need3 : Res) (a4 : Int) (a5 : (List (List Int))) (a6 : (List (List Step))) : Option (Int × Taa) :=
 cond (decide (0 ≤ (List.length al2 : Int)))
 (cond (decide (0 ≤ (List.length al2 : Int)))
 (cond ((decide ((Int.toNat (List.length al2 : Int)) ≤ (Int.toNat (List.length al2 : Int)))) && ((decide ((Int.toNat (List.length al2 : Int)) * 24 ≤ 1099511627776)) && (decide ((Int.toNat (List.length al2 : Int)) ≤ 4294967296))))
 (L (fun (s7 : (Tak × (Tac × ((List (List Step)) × (Res × ((List (List Step)) × Unit)))))) nx8 => l125_1_1 L g157 g126 from0 to1 al2 nx8 s7.1.2.2.2.1 s7.2.1.1 s7.2.1.2.1 s7.2.2.1 s7.2.2.2.1 s7.2.2.2.2.1) (((),(),(),0,()),((a4,a5,(),()),a6,need3,(List.replicate (Int.toNat (List.length al2 : Int)) [] : List (List Step)),())))
 (none))
 (none))
 (none)
theorem e125_1 (L : Lp) (g157 : Res → Int → Option (Res × (Int × Unit))) (g126 : (List Step) → Int → Int → Res → Option ((List Step) × (Int × Unit))) (x : s125_1.args.den) (h : denH s125_1.heap) : nrun [⟨157,s157,fun x h => g157 x.1 x.2.1⟩,⟨126,s126,fun x h => g126 x.1 x.2.1 x.2.2.1 x.2.2.2.1⟩] L n125_1 s125_1 x h = F125_1 L g157 g126 x.2.1 x.2.2.1 x.2.2.2.1 x.2.2.2.2.1 h.1.1 h.1.2.1 h.2.1 := by kernel_rfl
def f125_1 : Int → Int → (List Share) → Res → Int → (List (List Int)) → (List (List Step)) → Option (Int × Taa) := F125_1 (@LN LOOPS) f157 f126
@[reducible] def t125_1 : Ent := ⟨125,s125_1,fun x h => f125_1 x.2.1 x.2.2.1 x.2.2.2.1 x.2.2.2.2.1 h.1.1 h.1.2.1 h.2.1⟩
theorem k125_1 : chkNF Try.prog Try.f125 n125_1 = true := by kernel_rfl
theorem ok125_1 : NOk Try.prog t125_1 := NOk.body (T := [t157,t126]) mixed (nall_cons ok157 (nall_cons ok126 nall_nil)) (oneEach_of (by kernel_rfl)) Try.func125 k125_1 (by kernel_rfl) (fun x h => e125_1 _ _ _ x h)
def n69 : NFunc := ⟨54,.seq (.region 1 [
 o1 8 (.box 4 (tm 3)) 0,
 o1 10 (.move (ki 0)) 1] []) (.seq (.seq (.region 0 [
 oM 11 0 0,
 o1 12 (.eqP false (tm 11) (.const (.nilp))) 0] []) (.cond (tm 12) (.seq (.region 0 [
 o1 10 (.move (ki 1)) 0] []) (.ret)) (.skip))) (.seq (.seq (.region 8 [
 oM 13 1 0,
 oM 14 0 0,
 o1 15 (.nilCheck (tm 14)) 0,
 oF 16 0 15 0,
 oL 17 16 0,
 oB 18 .lss 13 17 0,
 oM 19 18 0,
 oN 20 1 19 0,
 o2 21 (.bin .gtr (tm 20) (ki 1099511627776)) 19 0,
 o1 22 (.pick (tm 19) kt (tm 21)) 0,
 oM 23 22 0,
 oN 24 2 23 0,
 oN 25 0 23 0,
 o2 26 (.nilCheck (tm 25)) 23 0,
 o2 27 (.fieldAddr 2 (tm 26)) 23 0,
 o2 28 (.load false 1 (tm 27)) 23 0,
 o2 29 (.len (tm 28)) 23 0,
 o2 30 (.call (fc 107) [(vv 24),(vv 29)] false 4) 23 0,
 o2 31 (.un .not (tm 30)) 23 4,
 o1 32 (.pick (tm 23) kt (tm 31)) 4,
 oM 33 32 4,
 o2 34 (.load true 4 (tm 8)) 33 4,
 o2 35 (.call (fc 108) [(vv 34)] false 4) 33 4,
 o2 36 (.un .not (tm 35)) 33 8,
 o1 37 (.pick (tm 33) kt (tm 36)) 8,
 oM 38 37 8,
 oN 39 4 38 8,
 o2 40 (.bin .lss (tm 39) (ki 1)) 38 8,
 o1 41 (.pick (tm 38) kt (tm 40)) 8,
 oM 42 41 8,
 oN 43 4 42 8,
 o2 44 (.bin .gtr (tm 43) (ki 65536)) 42 8,
 o1 45 (.pick (tm 42) kt (tm 44)) 8] []) (.cond (tm 45) (.seq (.region 0 [
 o1 10 (.move (ki 2)) 0] []) (.ret)) (.skip))) (.seq (.region 4 [
 oM 46 0 0,
 oM 47 1 0,
 oM 48 1 0,
 oM 49 4 0,
 oB 50 .add 48 49 0,
 oM 51 2 0,
 oT 52 4 8 0,
 o1 53 (.call (fc 125) [(vw 46),(vv 47),(vv 50),(vv 51),(vv 52)] false 4) 0,
 oM 10 53 4] []) (.ret)))),[.tmp 10],true⟩
def s69 : Sig := ⟨(.cons (.ptr 0 0 0) (.cons (.v (.int .i64)) (.cons (.v (.list .share)) (.cons (.v .res) (.cons (.v (.int .i64)) .nil))))),[.cell false (.cons (.v (.int .i64)) (.cons (.v (.list (.list (.int .i64)))) (.cons (.slw 1 1) .nil))),.typed (.list .step)],((.v (.int .i64)),[.cell false (.cons (.v (.int .i64)) (.cons (.v (.list (.list (.int .i64)))) (.cons (.slw 1 1) .nil))),.typed (.list .step)]),[]⟩
def F69 (L : Lp) (g107 : (List Share) → Int → Option Bool) (g108 : Res → Option Bool) (g125_1 : Int → Int → (List Share) → Res → Int → (List (List Int)) → (List (List Step)) → Option (Int × Taa)) (at0 : Int) (al1 : (List Share)) (need2 : Res) (wall3 : Int) (a4 : Int) (a5 : (List (List Int))) (a6 : (List (List Step))) : Option (Int × Taa) :=
 cond (decide (at0 < a4))
 (some (2,((a4,a5,(),()),a6,())))
 (cond (decide (1099511627776 < at0))
 (some (2,((a4,a5,(),()),a6,())))
 (Option.bind (g107 al1 (List.length a6 : Int)) fun r7 =>
 cond (!r7)
 (some (2,((a4,a5,(),()),a6,())))
 (Option.bind (g108 need2) fun r8 =>
 cond (!r8)
 (some (2,((a4,a5,(),()),a6,())))
 (cond (decide (wall3 < 1))
 (some (2,((a4,a5,(),()),a6,())))
 (cond (decide (65536 < wall3))
 (some (2,((a4,a5,(),()),a6,())))
 (Option.bind (g125_1 at0 (IntKind.wrap .i64 (at0 + wall3)) al1 need2 a4 a5 a6) fun r9 =>
 cond (true && ((decide ((List.length r9.2.2.1) = (List.length a6))) && true))
 (some (r9.1,((r9.2.1.1,r9.2.1.2.1,(),()),r9.2.2.1,())))
 (none)))))))
theorem e69 (L : Lp) (g107 : (List Share) → Int → Option Bool) (g108 : Res → Option Bool) (g125_1 : Int → Int → (List Share) → Res → Int → (List (List Int)) → (List (List Step)) → Option (Int × Taa)) (x : s69.args.den) (h : denH s69.heap) : nrun [⟨107,s107,fun x h => g107 x.1 x.2.1⟩,⟨108,s108,fun x h => g108 x.1⟩,⟨125,s125_1,fun x h => g125_1 x.2.1 x.2.2.1 x.2.2.2.1 x.2.2.2.2.1 h.1.1 h.1.2.1 h.2.1⟩] L n69 s69 x h = F69 L g107 g108 g125_1 x.2.1 x.2.2.1 x.2.2.2.1 x.2.2.2.2.1 h.1.1 h.1.2.1 h.2.1 := by kernel_rfl
def f69 : Int → (List Share) → Res → Int → Int → (List (List Int)) → (List (List Step)) → Option (Int × Taa) := F69 (@LN LOOPS) f107 f108 f125_1
@[reducible] def t69 : Ent := ⟨69,s69,fun x h => f69 x.2.1 x.2.2.1 x.2.2.2.1 x.2.2.2.2.1 h.1.1 h.1.2.1 h.2.1⟩
theorem k69 : chkNF Try.prog Try.f69 n69 = true := by kernel_rfl
theorem ok69 : NOk Try.prog t69 := NOk.body (T := [t107,t108,t125_1]) mixed (nall_cons ok107 (nall_cons ok108 (nall_cons ok125_1 nall_nil))) (oneEach_of (by kernel_rfl)) Try.func69 k69 (by kernel_rfl) (fun x h => e69 _ _ _ _ x h)
def n132 : NFunc := ⟨26,.seq (.region 0 [
 o1 4 (.move kf) 0] []) (.seq (.seq (.region 0 [
 oM 6 0 0,
 o1 7 (.len (tm 6)) 0,
 oM 8 1 0,
 o1 9 (.len (tm 8)) 0,
 oB 10 .neq 7 9 0] []) (.cond (tm 10) (.seq (.region 0 [
 o1 4 (.move kf) 0] []) (.ret)) (.skip))) (.seq (.seq (.region 0 [
 o1 5 (.move (ki 0)) 0] []) (.block 0 (.loop [0,1,5] ⟨[(5,vI)],[0,1],[]⟩ (.seq (.seq (.region 0 [
 oM 11 5 0,
 oM 12 0 0,
 o1 13 (.len (tm 12)) 0,
 oB 14 .lss 11 13 0] []) (.cond (tm 14) (.skip) (.exit 0))) (.seq (.block 1 (.seq (.region 0 [
 o4 17 (.move (tm 0)) 0 [],
 o4 18 (.move (tm 5)) 0 [],
 o4 19 (.indexSl 2 (tm 17) (tm 18)) 0 [],
 o4 20 (.load true 2 (tm 19)) 0 [],
 o4 21 (.move (tm 1)) 0 [],
 o4 22 (.move (tm 5)) 0 [],
 o4 23 (.indexSl 2 (tm 21) (tm 22)) 0 [],
 o4 24 (.load true 2 (tm 23)) 0 [],
 o4 25 (.eqAgg (true,[.int .i64,.int .i64]) (tm 20) (tm 24)) 0 []] []) (.cond (tm 25) (.seq (.region 0 [
 o1 4 (.move kf) 0] []) (.ret)) (.skip)))) (.region 0 [
 oM 15 5 0,
 oC 16 .add 15 1 0,
 oM 5 16 0] [])))))) (.seq (.region 0 [
 o1 4 (.move kt) 0] []) (.ret)))),[.tmp 4],true⟩
def s132 : Sig := ⟨(.cons (.v (.list .share)) (.cons (.v (.list .share)) .nil)),[],((.v .bool),[]),[]⟩
def l132_0 (a0 : (List Share)) (b1 : (List Share)) (nx3 : ((Int × Unit) × Unit) → Option Bool) (i4 : Int) : Option Bool :=
 cond (decide (i4 < (List.length a0 : Int)))
 (cond (decide (0 ≤ i4))
 (Option.bind (a0[Int.toNat i4]?) fun y5 =>
 cond (decide (0 ≤ i4))
 (Option.bind (b1[Int.toNat i4]?) fun y6 =>
 cond (!((decide (y5.node = y6.node)) && ((decide (y5.many = y6.many)) && true)))
 (some false)
 (nx3 ((IntKind.wrap .i64 (i4 + 1),()),())))
 (none))
 (none))
 (some true)
def F132 (L : Lp)  (a0 : (List Share)) (b1 : (List Share)) : Option Bool :=
 cond (!decide ((List.length a0 : Int) = (List.length b1 : Int)))
 (some false)
 (L (fun (s2 : ((Int × Unit) × Unit)) nx3 => l132_0 a0 b1 nx3 s2.1.1) ((0,()),()))
theorem e132 (L : Lp)  (x : s132.args.den) (h : denH s132.heap) : nrun [] L n132 s132 x h = F132 L  x.1 x.2.1 := by kernel_rfl
def f132 : (List Share) → (List Share) → Option Bool := F132 (@LN LOOPS) 
@[reducible] def t132 : Ent := ⟨132,s132,fun x h => f132 x.1 x.2.1⟩
theorem k132 : chkNF Try.prog Try.f132 n132 = true := by kernel_rfl
theorem ok132 : NOk Try.prog t132 := NOk.body (T := []) mixed nall_nil (oneEach_of (by kernel_rfl)) Try.func132 k132 (by kernel_rfl) (fun x h => e132 _  x h)
def n70 : NFunc := ⟨24,.seq (.region 2 [
 o1 2 (.box 3 (tm 0)) 0,
 o1 3 (.box 3 (tm 1)) 1,
 o1 4 (.move kf) 2] []) (.seq (.region 4 [
 oF 5 0 2 0,
 oL 6 5 0,
 oF 7 0 3 0,
 oL 8 7 0,
 oB 9 .eql 6 8 0,
 oM 10 9 0,
 o3 11 (.fieldAddr 1 (tm 2)) 10 0,
 o3 12 (.load false 1 (tm 11)) 10 0,
 o3 13 (.fieldAddr 1 (tm 3)) 10 0,
 o3 14 (.load false 1 (tm 13)) 10 0,
 o3 15 (.bin .eql (tm 12) (tm 14)) 10 0,
 o1 16 (.pick (tm 10) (tm 15) kf) 0,
 oM 17 16 0,
 o3 18 (.fieldAddr 2 (tm 2)) 17 0,
 o3 19 (.load false 1 (tm 18)) 17 0,
 o3 20 (.fieldAddr 2 (tm 3)) 17 0,
 o3 21 (.load false 1 (tm 20)) 17 0,
 o3 22 (.call (fc 132) [(vv 19),(vv 21)] false 4) 17 0,
 o1 23 (.pick (tm 17) (tm 22) kf) 4,
 oM 4 23 4] []) (.ret)),[.tmp 4],true⟩
def s70 : Sig := ⟨(.cons (.v (.pair (.int .i64) (.pair (.int .i64) (.list .share)))) (.cons (.v (.pair (.int .i64) (.pair (.int .i64) (.list .share)))) .nil)),[],((.v .bool),[]),[]⟩
def F70 (L : Lp) (g132 : (List Share) → (List Share) → Option Bool) (a0 : (Int × (Int × (List Share)))) (b1 : (Int × (Int × (List Share)))) : Option Bool :=
 cond (decide (a0.1 = b1.1))
 (cond (decide (a0.2.1 = b1.2.1))
 (Option.bind (g132 a0.2.2 b1.2.2) fun r2 =>
 some r2)
 (some false))
 (some false)
theorem e70 (L : Lp) (g132 : (List Share) → (List Share) → Option Bool) (x : s70.args.den) (h : denH s70.heap) : nrun [⟨132,s132,fun x h => g132 x.1 x.2.1⟩] L n70 s70 x h = F70 L g132 x.1 x.2.1 := by kernel_rfl
def f70 : (Int × (Int × (List Share))) → (Int × (Int × (List Share))) → Option Bool := F70 (@LN LOOPS) f132
@[reducible] def t70 : Ent := ⟨70,s70,fun x h => f70 x.1 x.2.1⟩
theorem k70 : chkNF Try.prog Try.f70 n70 = true := by kernel_rfl
theorem ok70 : NOk Try.prog t70 := NOk.body (T := [t132]) mixed (nall_cons ok132 nall_nil) (oneEach_of (by kernel_rfl)) Try.func70 k70 (by kernel_rfl) (fun x h => e70 _ _ x h)
def n11 : NFunc := ⟨140,.seq (.region 1 [
 o1 3 (.box 21 (tm 0)) 0,
 o1 6 (.move kf) 1] []) (.seq (.seq (.region 4 [
 o1 20 (.call (fc 60) [] false 4) 0,
 o1 21 (.un .not (tm 20)) 4] []) (.cond (tm 21) (.seq (.region 0 [
 o1 6 (.move kf) 0] []) (.ret)) (.skip))) (.seq (.seq (.region 4 [
 oT 22 21 3 0,
 o1 23 (.call (fc 61) [(vv 22)] false 4) 0,
 o1 24 (.un .not (tm 23)) 4,
 oM 25 24 4,
 oN 26 1 25 4,
 o2 27 (.len (tm 26)) 25 4,
 o2 28 (.bin .gtr (tm 27) (ki 8)) 25 4,
 o1 29 (.pick (tm 25) kt (tm 28)) 4,
 oM 30 29 4,
 oN 31 1 30 4,
 o2 32 (.len (tm 31)) 30 4,
 o2 33 (.bin .eql (tm 32) (ki 0)) 30 4,
 o1 34 (.pick (tm 30) kt (tm 33)) 4] []) (.cond (tm 34) (.seq (.region 0 [
 o1 6 (.move kt) 0] []) (.ret)) (.skip))) (.seq (.region 4 [
 oF 36 0 3 0,
 oT 37 18 36 0,
 oF 38 18 3 0,
 oL 39 38 0,
 oF 40 19 3 0,
 oL 41 40 0,
 oF 42 20 3 0,
 oL 43 42 0,
 o1 44 (.call (fc 62) [(vv 37),(vv 39),(vv 41),(vv 43)] false 4) 0,
 oM 35 44 4,
 oX 45 35 0 4,
 oX 46 35 1 4,
 oM 7 45 4,
 oM 8 46 4] []) (.seq (.join [1,7,2] [] ⟨[(7,(.ptr 0 0 0))],[1,2],[.cell false (.cons vI (.cons (.v (.list (.list (.int .i64)))) (.cons (.slw 1 1) .nil))),.typed (.list .step)]⟩ (.post [1,7,2] [.frzC 7 1] (.seq (.region 0 [
 oM 47 8 0,
 oC 48 .neq 47 0 0] []) (.cond (tm 48) (.seq (.region 0 [
 oM 49 7 0,
 o1 50 (.eqP false (tm 49) (.const (.nilp))) 0,
 oM 6 50 0] []) (.ret)) (.skip))))) (.seq (.region 4 [
 oM 51 7 0,
 o1 52 (.call (fc 68) [(vw 51)] false 4) 0,
 oM 9 52 4] []) (.seq (.region 0 [
 oM 53 2 0,
 o1 54 (.conv .i64 (tm 53)) 0,
 oM 55 1 0,
 o1 56 (.len (tm 55)) 0,
 oB 57 .rem 54 56 0,
 oM 10 57 0] []) (.seq (.region 1 [
 o1 11 (.alloc [iz,iz,.zsl]) 0] []) (.seq (.region 0 [
 o1 12 (.move kf) 0] []) (.seq (.seq (.region 0 [
 oM 58 1 0,
 o1 59 (.len (tm 58)) 0,
 o1 60 (.move (ki 0)) 0] []) (.block 0 (.loop [1,7,9,10,11,12,58,59,60] ⟨[(7,(.ptr 0 0 0)),(9,(.ptr 1 0 0)),(11,(.ptr 2 0 0)),(12,(.v .bool)),(60,vI)],[1,10,58,59],[.cell false (.cons vI (.cons (.v (.list (.list (.int .i64)))) (.cons (.slw 3 1) .nil))),.cell false (.cons vI (.cons (.v (.list (.list (.int .i64)))) (.cons (.slw 4 1) .nil))),.cell false (.cons vI (.cons vI (.cons (.v (.list .share)) .nil))),.typed (.list .step),.typed (.list .step)]⟩ (.seq (.region 0 [
 oB 61 .lss 60 59 0] []) (.seq (.cond (tm 61) (.skip) (.exit 0)) (.seq (.block 1 (.seq (.region 1 [
 oM 62 60 0,
 o1 63 (.indexSl 7 (tm 58) (tm 60)) 0,
 oT 64 7 63 0,
 o1 14 (.alloc [iz,iz,iz,iz,iz,iz,iz]) 0,
 oM 13 62 1,
 oS 7 14 64 1] []) (.seq (.region 5 [
 oM 66 7 0,
 oF 67 0 14 0,
 oL 68 67 0,
 oF 69 1 14 0,
 oL 70 69 0,
 oF 71 2 14 0,
 oT 72 4 71 0,
 oF 73 6 14 0,
 oL 74 73 0,
 o1 75 (.call (fc 63) [(vw 66),(vv 68),(vv 70),(vv 72),(vv 74)] false 4) 0,
 oM 65 75 4,
 oX 76 65 0 4,
 oX 77 65 1 4,
 o1 15 (.alloc [iz,iz,.zsl]) 4,
 oS 3 15 76 5,
 oM 16 77 5] []) (.seq (.meet [1,7,9,10,11,12,58,59,60,14,15,13,16] [] ⟨[(7,(.ptr 0 0 0)),(9,(.ptr 1 0 0)),(11,(.ptr 2 0 0)),(12,(.v .bool)),(14,(.ptr 3 0 0)),(15,(.ptr 4 0 0))],[1,10,13,16,58,59,60],[.cell false (.cons vI (.cons (.v (.list (.list (.int .i64)))) (.cons (.slw 5 1) .nil))),.cell false (.cons vI (.cons (.v (.list (.list (.int .i64)))) (.cons (.slw 6 1) .nil))),.cell false (.cons vI (.cons vI (.cons (.v (.list .share)) .nil))),.one false (.pair (.int .i64) (.pair (.int .i64) (.pair .res (.int .i64)))),.one false (.pair (.int .i64) (.pair (.int .i64) (.list .share))),.typed (.list .step),.typed (.list .step)]⟩ (.seq (.region 0 [
 oM 78 13 0,
 oM 79 10 0,
 oB 80 .eql 78 79 0] []) (.cond (tm 80) (.region 0 [
 oT 81 3 15 0,
 oM 82 16 0,
 oS 3 11 81 0,
 oM 12 82 0] []) (.skip)))) (.seq (.seq (.region 0 [
 oM 83 16 0,
 o1 84 (.un .not (tm 83)) 0] []) (.cond (tm 84) (.exit 1) (.skip))) (.seq (.region 8 [
 oM 85 7 0,
 oF 86 1 15 0,
 oL 87 86 0,
 oF 88 2 15 0,
 oL 89 88 0,
 oF 90 2 14 0,
 oT 91 4 90 0,
 oF 92 6 14 0,
 oL 93 92 0,
 o1 94 (.call (fc 69) [(vw 85),(vv 87),(vv 89),(vv 91),(vv 93)] false 4) 0,
 oC 95 .neq 94 0 4,
 oM 96 95 4,
 oN 97 13 96 4,
 oN 98 10 96 4,
 o2 99 (.bin .neq (tm 97) (tm 98)) 96 4,
 oN 100 99 96 4,
 o3 101 (.move (tm 9)) 100 4,
 o3 102 (.fieldAddr 1 (tm 15)) 100 4,
 o3 103 (.load false 1 (tm 102)) 100 4,
 o3 104 (.fieldAddr 2 (tm 15)) 100 4,
 o3 105 (.load false 1 (tm 104)) 100 4,
 o3 106 (.fieldAddr 2 (tm 14)) 100 4,
 o3 107 (.load true 4 (tm 106)) 100 4,
 o3 108 (.fieldAddr 6 (tm 14)) 100 4,
 o3 109 (.load false 1 (tm 108)) 100 4,
 o3 110 (.call (fc 69) [(vw 101),(vv 103),(vv 105),(vv 107),(vv 109)] false 4) 100 4,
 o3 111 (.bin .neq (tm 110) (ki 0)) 100 8,
 o2 112 (.pick (tm 100) (tm 111) kf) 96 8,
 o1 113 (.pick (tm 96) kt (tm 112)) 8] []) (.cond (tm 113) (.seq (.region 0 [
 o1 6 (.move kf) 0] []) (.ret)) (.skip)))))))) (.region 0 [
 oC 114 .add 60 1 0,
 oM 60 114 0] []))))))) (.seq (.region 1 [
 oM 115 1 0,
 oM 116 10 0,
 o1 117 (.indexSl 7 (tm 115) (tm 116)) 0,
 oT 118 7 117 0,
 o1 17 (.alloc [iz,iz,iz,iz,iz,iz,iz]) 0,
 oS 7 17 118 1] []) (.seq (.region 5 [
 oM 120 9 0,
 oF 121 0 17 0,
 oL 122 121 0,
 oF 123 1 17 0,
 oL 124 123 0,
 oF 125 2 17 0,
 oT 126 4 125 0,
 oF 127 6 17 0,
 oL 128 127 0,
 o1 129 (.call (fc 63) [(vw 120),(vv 122),(vv 124),(vv 126),(vv 128)] false 4) 0,
 oM 119 129 4,
 oX 130 119 0 4,
 oX 131 119 1 4,
 o1 18 (.alloc [iz,iz,.zsl]) 4,
 oS 3 18 130 5,
 oM 19 131 5] []) (.seq (.region 4 [
 oM 132 19 0,
 oM 133 12 0,
 o1 134 (.eqB false (tm 132) (tm 133)) 0,
 oM 135 134 0,
 o3 136 (.load true 3 (tm 11)) 135 0,
 o3 137 (.load true 3 (tm 18)) 135 0,
 o3 138 (.call (fc 70) [(vv 136),(vv 137)] false 4) 135 0,
 o1 139 (.pick (tm 135) (tm 138) kf) 4,
 oM 6 139 4] []) (.ret))))))))))))),[.tmp 6],true⟩
def s11 : Sig := ⟨(.cons (.v (.pair .spec (.pair (.int .i64) (.pair (.list .run) (.list .booking))))) (.cons (.v (.list (.pair (.int .i64) (.pair (.int .i64) (.pair .res (.int .i64)))))) (.cons (.v (.int .u8)) .nil))),[],((.v .bool),[]),[]⟩
def l11_0 (g63 : Int → Int → Res → Int → Int → (List (List Int)) → (List (List Step)) → Option Tah) (g69 : Int → (List Share) → Res → Int → Int → (List (List Int)) → (List (List Step)) → Option (Int × Taa)) (g70 : (Int × (Int × (List Share))) → (Int × (Int × (List Share))) → Option Bool) (al1 : (List (Int × (Int × (Res × Int))))) (at2 : Int) (nx9 : Tai → Option Bool) (was10 : Bool) (z11 : Int) (z12 : Int) (z13 : (List (List Int))) (z14 : Int) (z15 : (List (List Int))) (z16 : Int) (z17 : Int) (z18 : (List Share)) (z19 : (List (List Step))) (z20 : (List (List Step))) : Option Bool :=
 cond (decide (z11 < (List.length al1 : Int)))
 (cond (decide (0 ≤ z11))
 (Option.bind (al1[Int.toNat z11]?) fun y21 =>
 Option.bind (g63 y21.1 y21.2.1 y21.2.2.1 y21.2.2.2 z12 z13 z19) fun r22 =>
 cond (true && ((decide ((List.length r22.2.2.1) = (List.length z19))) && true))
 (Option.bind (α := Tap)
 (cond (decide (z11 = (Int.tmod (IntKind.wrap .i64 (at2)) (List.length al1 : Int))))
 (some (((),(),(),r22.1.2.1,(),(),()),((r22.2.1.1,r22.2.1.2.1,(),()),(z14,z15,(),()),(r22.1.1.1,r22.1.1.2.1,r22.1.1.2.2,()),y21,r22.1.1,r22.2.2.1,z20,())))
 (some (((),(),(),was10,(),(),()),((r22.2.1.1,r22.2.1.2.1,(),()),(z14,z15,(),()),(z16,z17,z18,()),y21,r22.1.1,r22.2.2.1,z20,())))) fun x23 =>
 cond (!r22.1.2.1)
 (nx9 (((),(),(),x23.1.2.2.2.1,IntKind.wrap .i64 (z11 + 1),()),((x23.2.1.1,x23.2.1.2.1,(),()),(x23.2.2.1.1,x23.2.2.1.2.1,(),()),(x23.2.2.2.1.1,x23.2.2.2.1.2.1,x23.2.2.2.1.2.2.1,()),x23.2.2.2.2.2.2.1,x23.2.2.2.2.2.2.2.1,())))
 (Option.bind (g69 x23.2.2.2.2.2.1.2.1 x23.2.2.2.2.2.1.2.2 x23.2.2.2.2.1.2.2.1 x23.2.2.2.2.1.2.2.2 x23.2.1.1 x23.2.1.2.1 x23.2.2.2.2.2.2.1) fun r24 =>
 cond (true && ((decide ((List.length r24.2.2.1) = (List.length x23.2.2.2.2.2.2.1))) && true))
 (cond (!decide (r24.1 = 0))
 (some false)
 (cond (!decide (z11 = (Int.tmod (IntKind.wrap .i64 (at2)) (List.length al1 : Int))))
 (Option.bind (g69 x23.2.2.2.2.2.1.2.1 x23.2.2.2.2.2.1.2.2 x23.2.2.2.2.1.2.2.1 x23.2.2.2.2.1.2.2.2 x23.2.2.1.1 x23.2.2.1.2.1 x23.2.2.2.2.2.2.2.1) fun r25 =>
 cond (true && ((decide ((List.length r25.2.2.1) = (List.length x23.2.2.2.2.2.2.2.1))) && true))
 (cond (!decide (r25.1 = 0))
 (some false)
 (nx9 (((),(),(),x23.1.2.2.2.1,IntKind.wrap .i64 (z11 + 1),()),((r24.2.1.1,r24.2.1.2.1,(),()),(r25.2.1.1,r25.2.1.2.1,(),()),(x23.2.2.2.1.1,x23.2.2.2.1.2.1,x23.2.2.2.1.2.2.1,()),r24.2.2.1,r25.2.2.1,()))))
 (none))
 (nx9 (((),(),(),x23.1.2.2.2.1,IntKind.wrap .i64 (z11 + 1),()),((r24.2.1.1,r24.2.1.2.1,(),()),(x23.2.2.1.1,x23.2.2.1.2.1,(),()),(x23.2.2.2.1.1,x23.2.2.2.1.2.1,x23.2.2.2.1.2.2.1,()),r24.2.2.1,x23.2.2.2.2.2.2.2.1,())))))
 (none)))
 (none))
 (none))
 (cond (decide (0 ≤ (Int.tmod (IntKind.wrap .i64 (at2)) (List.length al1 : Int))))
 (Option.bind (al1[Int.toNat (Int.tmod (IntKind.wrap .i64 (at2)) (List.length al1 : Int))]?) fun y26 =>
 Option.bind (g63 y26.1 y26.2.1 y26.2.2.1 y26.2.2.2 z14 z15 z20) fun r27 =>
 cond (true && ((decide ((List.length r27.2.2.1) = (List.length z20))) && true))
 (cond (r27.1.2.1 == was10)
 (Option.bind (g70 (z16,(z17,z18)) r27.1.1) fun r28 =>
 some r28)
 (some false))
 (none))
 (none))
def l11_1 (g63 : Int → Int → Res → Int → Int → (List (List Int)) → (List (List Step)) → Option Tah) (g69 : Int → (List Share) → Res → Int → Int → (List (List Int)) → (List (List Step)) → Option (Int × Taa)) (g70 : (Int × (Int × (List Share))) → (Int × (Int × (List Share))) → Option Bool) (al1 : (List (Int × (Int × (Res × Int))))) (at2 : Int) (nx33 : Tai → Option Bool) (was34 : Bool) (z35 : Int) (z36 : Int) (z37 : (List (List Int))) (z38 : Int) (z39 : (List (List Int))) (z40 : Int) (z41 : Int) (z42 : (List Share)) (z43 : (List (List Step))) (z44 : (List (List Step))) : Option Bool :=
 cond (decide (z35 < (List.length al1 : Int)))
 (cond (decide (0 ≤ z35))
 (Option.bind (al1[Int.toNat z35]?) fun y45 =>
 Option.bind (g63 y45.1 y45.2.1 y45.2.2.1 y45.2.2.2 z36 z37 z43) fun r46 =>
 cond (true && ((decide ((List.length r46.2.2.1) = (List.length z43))) && true))
 (Option.bind (α := Tap)
 (cond (decide (z35 = (Int.tmod (IntKind.wrap .i64 (at2)) (List.length al1 : Int))))
 (some (((),(),(),r46.1.2.1,(),(),()),((r46.2.1.1,r46.2.1.2.1,(),()),(z38,z39,(),()),(r46.1.1.1,r46.1.1.2.1,r46.1.1.2.2,()),y45,r46.1.1,r46.2.2.1,z44,())))
 (some (((),(),(),was34,(),(),()),((r46.2.1.1,r46.2.1.2.1,(),()),(z38,z39,(),()),(z40,z41,z42,()),y45,r46.1.1,r46.2.2.1,z44,())))) fun x47 =>
 cond (!r46.1.2.1)
 (nx33 (((),(),(),x47.1.2.2.2.1,IntKind.wrap .i64 (z35 + 1),()),((x47.2.1.1,x47.2.1.2.1,(),()),(x47.2.2.1.1,x47.2.2.1.2.1,(),()),(x47.2.2.2.1.1,x47.2.2.2.1.2.1,x47.2.2.2.1.2.2.1,()),x47.2.2.2.2.2.2.1,x47.2.2.2.2.2.2.2.1,())))
 (Option.bind (g69 x47.2.2.2.2.2.1.2.1 x47.2.2.2.2.2.1.2.2 x47.2.2.2.2.1.2.2.1 x47.2.2.2.2.1.2.2.2 x47.2.1.1 x47.2.1.2.1 x47.2.2.2.2.2.2.1) fun r48 =>
 cond (true && ((decide ((List.length r48.2.2.1) = (List.length x47.2.2.2.2.2.2.1))) && true))
 (cond (!decide (r48.1 = 0))
 (some false)
 (cond (!decide (z35 = (Int.tmod (IntKind.wrap .i64 (at2)) (List.length al1 : Int))))
 (Option.bind (g69 x47.2.2.2.2.2.1.2.1 x47.2.2.2.2.2.1.2.2 x47.2.2.2.2.1.2.2.1 x47.2.2.2.2.1.2.2.2 x47.2.2.1.1 x47.2.2.1.2.1 x47.2.2.2.2.2.2.2.1) fun r49 =>
 cond (true && ((decide ((List.length r49.2.2.1) = (List.length x47.2.2.2.2.2.2.2.1))) && true))
 (cond (!decide (r49.1 = 0))
 (some false)
 (nx33 (((),(),(),x47.1.2.2.2.1,IntKind.wrap .i64 (z35 + 1),()),((r48.2.1.1,r48.2.1.2.1,(),()),(r49.2.1.1,r49.2.1.2.1,(),()),(x47.2.2.2.1.1,x47.2.2.2.1.2.1,x47.2.2.2.1.2.2.1,()),r48.2.2.1,r49.2.2.1,()))))
 (none))
 (nx33 (((),(),(),x47.1.2.2.2.1,IntKind.wrap .i64 (z35 + 1),()),((r48.2.1.1,r48.2.1.2.1,(),()),(x47.2.2.1.1,x47.2.2.1.2.1,(),()),(x47.2.2.2.1.1,x47.2.2.2.1.2.1,x47.2.2.2.1.2.2.1,()),r48.2.2.1,x47.2.2.2.2.2.2.2.1,())))))
 (none)))
 (none))
 (none))
 (cond (decide (0 ≤ (Int.tmod (IntKind.wrap .i64 (at2)) (List.length al1 : Int))))
 (Option.bind (al1[Int.toNat (Int.tmod (IntKind.wrap .i64 (at2)) (List.length al1 : Int))]?) fun y50 =>
 Option.bind (g63 y50.1 y50.2.1 y50.2.2.1 y50.2.2.2 z38 z39 z44) fun r51 =>
 cond (true && ((decide ((List.length r51.2.2.1) = (List.length z44))) && true))
 (cond (r51.1.2.1 == was34)
 (Option.bind (g70 (z40,(z41,z42)) r51.1.1) fun r52 =>
 some r52)
 (some false))
 (none))
 (none))
def F11 (L : Lp) (g60 : Option Bool) (g61 : Tal → Option Bool) (g62 : Spec → Int → (List Run) → (List Booking) → Option Taf) (g68 : Int → (List (List Int)) → (List (List Step)) → Option (Unit × (Tac × ((List (List Step)) × Taa)))) (g63 : Int → Int → Res → Int → Int → (List (List Int)) → (List (List Step)) → Option Tah) (g69 : Int → (List Share) → Res → Int → Int → (List (List Int)) → (List (List Step)) → Option (Int × Taa)) (g70 : (Int × (Int × (List Share))) → (Int × (Int × (List Share))) → Option Bool) (w0 : Tal) (al1 : (List (Int × (Int × (Res × Int))))) (at2 : Int) : Option Bool :=
 Option.bind (g60) fun r3 =>
 cond (!r3)
 (some false)
 (Option.bind (g61 w0) fun r4 =>
 cond (!r4)
 (some true)
 (cond (decide (8 < (List.length al1 : Int)))
 (some true)
 (cond (decide ((List.length al1 : Int) = 0))
 (some true)
 (Option.bind (g62 w0.1 w0.2.1 w0.2.2.1 w0.2.2.2) (Sum.elim (fun r5 =>
 Option.bind (α := (((Unit × Unit) × Taa) ⊕ Bool))
 (cond (!decide (r5.2.1 = 0))
 (some (.inr true))
 (none)) (Sum.elim (fun x6 =>
 Option.bind (g68 x6.2.1.1 x6.2.1.2.1 x6.2.2.1) fun r7 =>
 cond (true && ((decide ((List.length r7.2.2.1) = (List.length x6.2.2.1))) && true))
 (cond (decide ((List.length al1 : Int) = 0))
 (none)
 (L (fun (s8 : Tai) nx9 => l11_0 g63 g69 g70 al1 at2 nx9 s8.1.2.2.2.1 s8.1.2.2.2.2.1 s8.2.1.1 s8.2.1.2.1 s8.2.2.1.1 s8.2.2.1.2.1 s8.2.2.2.1.1 s8.2.2.2.1.2.1 s8.2.2.2.1.2.2.1 s8.2.2.2.2.1 s8.2.2.2.2.2.1) (((),(),(),false,0,()),((r7.2.1.1,r7.2.1.2.1,(),()),(r7.2.2.2.1.1,r7.2.2.2.1.2.1,(),()),(0,0,[],()),r7.2.2.1,r7.2.2.2.2.1,()))))
 (none)) some)) (fun r29 =>
 Option.bind (α := (((Unit × Unit) × Taa) ⊕ Bool))
 (cond (!decide (r29.1.2.1 = 0))
 (some (.inr false))
 (some (.inl (((),()),((r29.2.1.1,r29.2.2.1,(),()),r29.2.2.2.1,()))))) (Sum.elim (fun x30 =>
 Option.bind (g68 x30.2.1.1 x30.2.1.2.1 x30.2.2.1) fun r31 =>
 cond (true && ((decide ((List.length r31.2.2.1) = (List.length x30.2.2.1))) && true))
 (cond (decide ((List.length al1 : Int) = 0))
 (none)
 (L (fun (s32 : Tai) nx33 => l11_1 g63 g69 g70 al1 at2 nx33 s32.1.2.2.2.1 s32.1.2.2.2.2.1 s32.2.1.1 s32.2.1.2.1 s32.2.2.1.1 s32.2.2.1.2.1 s32.2.2.2.1.1 s32.2.2.2.1.2.1 s32.2.2.2.1.2.2.1 s32.2.2.2.2.1 s32.2.2.2.2.2.1) (((),(),(),false,0,()),((r31.2.1.1,r31.2.1.2.1,(),()),(r31.2.2.2.1.1,r31.2.2.2.1.2.1,(),()),(0,0,[],()),r31.2.2.1,r31.2.2.2.2.1,()))))
 (none)) some)))))))
theorem e11 (L : Lp) (g60 : Option Bool) (g61 : Tal → Option Bool) (g62 : Spec → Int → (List Run) → (List Booking) → Option Taf) (g68 : Int → (List (List Int)) → (List (List Step)) → Option (Unit × (Tac × ((List (List Step)) × Taa)))) (g63 : Int → Int → Res → Int → Int → (List (List Int)) → (List (List Step)) → Option Tah) (g69 : Int → (List Share) → Res → Int → Int → (List (List Int)) → (List (List Step)) → Option (Int × Taa)) (g70 : (Int × (Int × (List Share))) → (Int × (Int × (List Share))) → Option Bool) (x : s11.args.den) (h : denH s11.heap) : nrun [⟨60,s60,fun x h => g60 ⟩,⟨61,s61,fun x h => g61 x.1⟩,⟨62,s62,fun x h => g62 x.1 x.2.1 x.2.2.1 x.2.2.2.1⟩,⟨68,s68,fun x h => g68 h.1.1 h.1.2.1 h.2.1⟩,⟨63,s63,fun x h => g63 x.2.1 x.2.2.1 x.2.2.2.1 x.2.2.2.2.1 h.1.1 h.1.2.1 h.2.1⟩,⟨69,s69,fun x h => g69 x.2.1 x.2.2.1 x.2.2.2.1 x.2.2.2.2.1 h.1.1 h.1.2.1 h.2.1⟩,⟨70,s70,fun x h => g70 x.1 x.2.1⟩] L n11 s11 x h = F11 L g60 g61 g62 g68 g63 g69 g70 x.1 x.2.1 x.2.2.1 := by kernel_rfl
def f11 : Tal → (List (Int × (Int × (Res × Int)))) → Int → Option Bool := F11 (@LN LOOPS) f60 f61 f62 f68 f63 f69 f70
@[reducible] def t11 : Ent := ⟨11,s11,fun x h => f11 x.1 x.2.1 x.2.2.1⟩
theorem k11 : chkNF Try.prog Try.f11 n11 = true := by kernel_rfl
theorem ok11 : NOk Try.prog t11 := NOk.body (T := [t60,t61,t62,t68,t63,t69,t70]) mixed (nall_cons ok60 (nall_cons ok61 (nall_cons ok62 (nall_cons ok68 (nall_cons ok63 (nall_cons ok69 (nall_cons ok70 nall_nil))))))) (oneEach_of (by kernel_rfl)) Try.func11 k11 (by kernel_rfl) (fun x h => e11 _ _ _ _ _ _ _ _ x h)
end NM
end Go.Proofs.Ytmnhkpekmgobbaa
end
section
namespace Go.Proofs.Ytmnhkpekmgobbaa
namespace NM
open AM
def resOk (a : Res) : Bool := decide (0 ≤ a.cpu ∧ a.cpu ≤ 1048576 ∧ 0 ≤ a.mem ∧ a.mem ≤ 1048576 ∧ 0 ≤ a.gpu ∧ a.gpu ≤ 1048576 ∧ 0 ≤ a.lic ∧ a.lic ≤ 1048576)
def asc (e : Int) : Int → List Int → Bool
 | _, [] => true
 | a, n :: l => decide (a < n) && decide (n < e) && asc e n l
def nodesOk (s : Spec) : Bool := decide (1 ≤ s.nodes.length ∧ s.nodes.length ≤ 16) && s.nodes.all resOk
def partsOk (s : Spec) : Bool := decide (1 ≤ s.parts.length ∧ s.parts.length ≤ 8) && s.parts.all fun p => decide (1 ≤ p.length) && asc s.nodes.length (-1) p
def queueOk (s : Spec) (q : Queue) : Bool := decide (0 ≤ q.part ∧ q.part < s.parts.length) && asc s.users (-1) q.users && decide (1 ≤ q.maxJobs ∧ q.maxJobs ≤ 256 ∧ 1 ≤ q.maxRun ∧ q.maxRun ≤ 256 ∧ 1 ≤ q.maxUser ∧ q.maxUser ≤ 256 ∧ 0 ≤ q.qos ∧ q.qos ≤ 100)
def queuesOk (s : Spec) : Bool := decide (1 ≤ s.queues.length ∧ s.queues.length ≤ 8) && s.queues.all (queueOk s)
def weightsOk (w : Weights) : Bool := decide (0 ≤ w.age ∧ w.age ≤ 1000 ∧ 0 ≤ w.size ∧ w.size ≤ 1000 ∧ 0 ≤ w.qos ∧ w.qos ≤ 1000 ∧ 0 ≤ w.share ∧ w.share ≤ 1000)
theorem p_numbers (a : Res) : f160 a = some (a.cpu, a.mem, a.gpu, a.lic) := rfl
theorem p_vecRightS (a : Res) : f108 a = some (resOk a) := by
 unfold f108 F108
 simp only [p_numbers, Option.bind_some, cond_somes]
 congr 1
 rw [Bool.eq_iff_iff]
 simp [resOk]
theorem p_nodesRight (s : Spec) (hs : Rng.P s) : f205 s = some (nodesOk s) := by
 unfold f205 F205
 rw [all_loop s.nodes (fun z => ((z, ()), ())) resOk true hs.1.1]
 · simp only [cond_somes, nodesOk, Bool.and_true]
   congr 1
   cases s.nodes.all resOk <;> rw [Bool.eq_iff_iff] <;> simp <;> omega
 · intro next
   simp [l205_0]
 · intro z x next h0 h1 h2 h3
   simp only [l205_0, h0, h1, h2, h3, decide_true, cond_true, Option.bind_some, p_vecRightS]
   cases resOk x <;> rfl
theorem p_ascending (l : List Int) (hl : l.length ≤ maxLen) (e : Int) : f221 l e = some (asc e (-1) l) := by
 unfold f221 F221
 rw [list_loop l (fun b z => ((b, z, ()), ())) (fun b x => cond (decide (x ≤ b) || decide (e ≤ x)) (.inr (some false)) (.inl x)) (fun _ => some true) hl]
 · generalize (-1 : Int) = a
   clear hl
   induction l generalizing a with
   | nil => rfl
   | cons n l ih =>
     simp only [runL, asc]
     by_cases h1 : n ≤ a
     · simp [h1]; omega
     · by_cases h2 : e ≤ n
       · simp [h1, h2]; omega
       · have h3 : a < n := by omega
         have h4 : n < e := by omega
         simp [h1, h2, h3, h4, ih]
 · intro b next
   simp [l221_0]
 · intro b z x next h0 h1 h2 h3
   simp only [l221_0, h0, h1, h2, h3, decide_true, cond_true, Option.bind_some]
   by_cases h4 : x ≤ b <;> by_cases h5 : e ≤ x <;> simp [h4, h5]
theorem p_partsRight (s : Spec) (hs : Rng.P s) : f207 s = some (partsOk s) := by
 unfold f207 F207
 rw [all_loop s.parts (fun z => (((), z, ()), (s, ()))) (fun p => decide (1 ≤ p.length) && asc s.nodes.length (-1) p) true hs.2.1.1]
 · simp only [cond_somes, partsOk, Bool.and_true]
   congr 1
   cases s.parts.all _ <;> rw [Bool.eq_iff_iff] <;> simp <;> omega
 · intro next
   simp [l207_0]
 · intro z x next h0 h1 h2 h3
   have hx := (hs.2.1.2 x (List.mem_of_getElem? h2)).1
   simp only [l207_0, h0, h1, h2, h3, decide_true, cond_true, Option.bind_some, p_ascending x hx]
   by_cases h4 : x.length < 1
   · have : x = [] := List.eq_nil_of_length_eq_zero (by omega)
     simp [this]
   · have h5 : 1 ≤ x.length := by omega
     have h6 : ¬ ((x.length : Int) < 1) := by omega
     simp only [h5, h6, decide_true, decide_false, cond_false, Bool.true_and]
     cases asc s.nodes.length (-1) x <;> rfl
theorem p_queuesRight (s : Spec) (hs : Rng.P s) : f210 s = some (queuesOk s) := by
 unfold f210 F210
 rw [all_loop s.queues (fun z => (((), z, ()), (s, ()))) (queueOk s) true hs.2.2.1.1]
 · simp only [cond_somes, queuesOk, Bool.and_true]
   congr 1
   cases s.queues.all _ <;> rw [Bool.eq_iff_iff] <;> simp <;> omega
 · intro next
   simp [l210_0]
 · intro z x next h0 h1 h2 h3
   have hx : x.users.length ≤ maxLen := (hs.2.2.1.2 x (List.mem_of_getElem? h2)).2.1.1
   simp only [l210_0, h0, h1, h2, h3, decide_true, cond_true, Option.bind_some, p_ascending _ hx, chk0 next, chk1]
   congr 1
   simp only [queueOk]
   cases asc s.users (-1) x.users <;> rw [Bool.eq_iff_iff] <;> simp <;> omega
theorem p_weightsRight (w : Weights) : f212 w = some (weightsOk w) := by
 unfold f212 F212
 simp only [cond_somes]
 congr 1
 rw [Bool.eq_iff_iff]
 simp [weightsOk]
def inRg (n lo hi : Int) : Bool := decide (lo ≤ n) && decide (n ≤ hi)
theorem p_c1 (s : Spec) (hs : Rng.P s) : f204 s.nodes s.parts s.queues s.users s.weights.age s.weights.size s.weights.qos s.weights.share s.decay s.mode s.jobs s.ids s.versions s.linger s.keep s.inn s.out s.cache = some (nodesOk s) := (congrArg (fun o => Option.bind o fun r => some r) (p_nodesRight s hs)).trans rfl
theorem p_c2 (s : Spec) (hs : Rng.P s) : f206 s.nodes s.parts s.queues s.users s.weights.age s.weights.size s.weights.qos s.weights.share s.decay s.mode s.jobs s.ids s.versions s.linger s.keep s.inn s.out s.cache = some (partsOk s) := (congrArg (fun o => Option.bind o fun r => some r) (p_partsRight s hs)).trans rfl
theorem p_c3 (s : Spec) (hs : Rng.P s) : f209 s.nodes s.parts s.queues s.users s.weights.age s.weights.size s.weights.qos s.weights.share s.decay s.mode s.jobs s.ids s.versions s.linger s.keep s.inn s.out s.cache = some (queuesOk s) := (congrArg (fun o => Option.bind o fun r => some r) (p_queuesRight s hs)).trans rfl
theorem p_c4 (s : Spec) : f211 s.nodes s.parts s.queues s.users s.weights.age s.weights.size s.weights.qos s.weights.share s.decay s.mode s.jobs s.ids s.versions s.linger s.keep s.inn s.out s.cache = some (weightsOk s.weights) := (congrArg (fun o => Option.bind o fun r => some r) (p_weightsRight s.weights)).trans rfl
theorem p_c5 (s : Spec) : f213 s.nodes s.parts s.queues s.users s.weights.age s.weights.size s.weights.qos s.weights.share s.decay s.mode s.jobs s.ids s.versions s.linger s.keep s.inn s.out s.cache = some (decide (s.mode = 1) || decide (s.mode = 2)) := by
 unfold f213 F213
 simp only [cond_somes, Bool.cond_true_left]
theorem p_within (lo n hi : Int) : f222 lo n hi = some (inRg n lo hi) := by
 unfold f222 F222
 simp only [cond_somes, Bool.cond_false_right, inRg]
def flaw (s : Spec) : List UInt8 := cond (!(nodesOk s)) [78, 111, 100, 101, 115] (cond (!(partsOk s)) [80, 97, 114, 116, 115] (cond (!(inRg s.users 1 8)) [85, 115, 101, 114, 115] (cond (!(queuesOk s)) [81, 117, 101, 117, 101, 115] (cond (!(weightsOk s.weights)) [87, 101, 105, 103, 104, 116, 115] (cond (!(inRg s.decay 1 16)) [68, 101, 99, 97, 121] (cond (!(decide (s.mode = 1) || decide (s.mode = 2))) [77, 111, 100, 101] (cond (!(inRg s.jobs 1 256)) [74, 111, 98, 115] (cond (!(inRg s.ids 1 1048576)) [73, 100, 115] (cond (!(inRg s.versions 1 65536)) [86, 101, 114, 115, 105, 111, 110, 115] (cond (!(inRg s.linger 0 65536)) [76, 105, 110, 103, 101, 114] (cond (!(inRg s.keep 1 16)) [75, 101, 101, 112] (cond (!(inRg s.inn 1 8)) [73, 110] (cond (!(inRg s.out 1 16)) [79, 117, 116] (cond (!(inRg s.cache 0 16)) [67, 97, 99, 104, 101] ([])))))))))))))))
def specOk (s : Spec) : Bool := nodesOk s && (partsOk s && (inRg s.users 1 8 && (queuesOk s && (weightsOk s.weights && (inRg s.decay 1 16 && ((decide (s.mode = 1) || decide (s.mode = 2)) && (inRg s.jobs 1 256 && (inRg s.ids 1 1048576 && (inRg s.versions 1 65536 && (inRg s.linger 0 65536 && (inRg s.keep 1 16 && (inRg s.inn 1 8 && (inRg s.out 1 16 && (inRg s.cache 0 16))))))))))))))
theorem p_Flaw (s : Spec) (hs : Rng.P s) : f156 s = some (flaw s) := by
 unfold f156 F156
 rw [show f184 s = some _ from rfl]
 simp only [Option.bind_some, p_c1 s hs, p_c2 s hs, p_c3 s hs, p_c4 s, p_c5 s, p_within, cond_somes]
 rfl
theorem flaw_bits (b0 b1 b2 b3 b4 b5 b6 b7 b8 b9 b10 b11 b12 b13 b14 : Bool) : decide (cond (!b0) [78, 111, 100, 101, 115] (cond (!b1) [80, 97, 114, 116, 115] (cond (!b2) [85, 115, 101, 114, 115] (cond (!b3) [81, 117, 101, 117, 101, 115] (cond (!b4) [87, 101, 105, 103, 104, 116, 115] (cond (!b5) [68, 101, 99, 97, 121] (cond (!b6) [77, 111, 100, 101] (cond (!b7) [74, 111, 98, 115] (cond (!b8) [73, 100, 115] (cond (!b9) [86, 101, 114, 115, 105, 111, 110, 115] (cond (!b10) [76, 105, 110, 103, 101, 114] (cond (!b11) [75, 101, 101, 112] (cond (!b12) [73, 110] (cond (!b13) [79, 117, 116] (cond (!b14) [67, 97, 99, 104, 101] ([]))))))))))))))) = ([] : List UInt8)) = (b0 && (b1 && (b2 && (b3 && (b4 && (b5 && (b6 && (b7 && (b8 && (b9 && (b10 && (b11 && (b12 && (b13 && (b14))))))))))))))) := by
 cases b0; exact rfl
 cases b1; exact rfl
 cases b2; exact rfl
 cases b3; exact rfl
 cases b4; exact rfl
 cases b5; exact rfl
 cases b6; exact rfl
 cases b7; exact rfl
 cases b8; exact rfl
 cases b9; exact rfl
 cases b10; exact rfl
 cases b11; exact rfl
 cases b12; exact rfl
 cases b13; exact rfl
 cases b14; exact rfl
 rfl
theorem p_SpecRight (s : Spec) (hs : Rng.P s) : f103 s = some (specOk s) := by
 unfold f103 F103
 rw [p_Flaw s hs]
 simp only [Option.bind_some, flaw, specOk]
 exact congrArg some (flaw_bits _ _ _ _ _ _ _ _ _ _ _ _ _ _ _)
def fewB (s : Spec) : Bool := decide (s.nodes.length ≤ 40 ∧ s.parts.length ≤ 20 ∧ s.queues.length ≤ 20) && (s.parts.all (fun p => decide (p.length ≤ 40)) && s.queues.all (fun q => decide (q.users.length ≤ 40)))
theorem r_Few (s : Spec) (hs : Rng.P s) : f44 s = some (fewB s) := by
 unfold f44 F44
 rw [all_loop s.parts (fun z => (((), z, ()), (s, ()))) (fun p => decide (p.length ≤ 40)) (s.queues.all (fun q => decide (q.users.length ≤ 40))) hs.2.1.1]
 · simp only [cond_somes, fewB]
   congr 1
   cases s.parts.all _ <;> cases s.queues.all _ <;> rw [Bool.eq_iff_iff] <;> simp <;> omega
 · intro next
   simp only [l44_1, Int.lt_irrefl, decide_false, cond_false]
   rw [all_loop s.queues (fun z => ((z, ()), ())) (fun q => decide (q.users.length ≤ 40)) true hs.2.2.1.1]
   · simp
   · intro next
     simp [l44_0]
   · intro z x next h0 h1 h2 h3
     simp only [l44_0, h0, h1, h2, h3, decide_true, cond_true, Option.bind_some, chk0 next]
     congr 1
     rw [Bool.eq_iff_iff]; simp; omega
 · intro z x next h0 h1 h2 h3
   simp only [l44_1, h0, h1, h2, h3, decide_true, cond_true, Option.bind_some, chk0 next]
   congr 1
   rw [Bool.eq_iff_iff]; simp; omega
theorem loop_run {σ ω : Type} {f : σ → (σ → Option ω) → Option ω} {r : Option ω} (n : Nat) (hn : n < LOOPS) (s : Nat → σ) (hs : ∀ i, i < n → ∀ next, f (s i) next = next (s (i + 1))) (hend : ∀ next, f (s n) next = r) : LN LOOPS f (s 0) = r := by
 have key : ∀ m i, i ≤ n → n - i < m → loopN f m (s i) = r := by
   intro m
   induction m with
   | zero => intro i _ h; omega
   | succ m ih =>
     intro i hi hm
     simp only [loopN]
     rcases Nat.lt_or_ge i n with h | h
     · rw [hs i h]
       exact ih (i + 1) h (by omega)
     · have : i = n := by omega
       subst this
       exact hend _
 exact key LOOPS 0 (Nat.zero_le _) (by omega)
def zRes (a : Res) : Bool := (decide (a.cpu = 0)) && ((decide (a.mem = 0)) && ((decide (a.gpu = 0)) && ((decide (a.lic = 0)) && true)))
def stepC (x y n : Int) : Int := if 0 < y then min n (x / y) else n
def countI (a b : Res) : Int := if resOk a = true ∧ resOk b = true ∧ zRes b = false then stepC a.lic b.lic (stepC a.gpu b.gpu (stepC a.mem b.mem (stepC a.cpu b.cpu 64))) else 0
theorem div_wrap {x y : Int} (hx : 0 ≤ x) (hx2 : x ≤ 1048576) (hy : 0 < y) : IntKind.wrap .i64 (Int.tdiv x y) = x / y := by
 rw [Int.tdiv_eq_ediv_of_nonneg hx]
 have h1 := Int.ediv_nonneg hx (Int.le_of_lt hy)
 have h2 := Int.ediv_le_self y hx
 exact wi (by omega) (by omega)
theorem min_if (a n : Int) : (if a < n then a else n) = min n a := by
 rw [Int.min_def]
 split <;> split <;> omega
def accC (a b : Res) : Nat → Int
 | 0 => 64
 | 1 => stepC a.cpu b.cpu 64
 | 2 => stepC a.mem b.mem (stepC a.cpu b.cpu 64)
 | 3 => stepC a.gpu b.gpu (stepC a.mem b.mem (stepC a.cpu b.cpu 64))
 | _ => stepC a.lic b.lic (stepC a.gpu b.gpu (stepC a.mem b.mem (stepC a.cpu b.cpu 64)))
theorem p_Count (a b : Res) : f190 a b = some (countI a b) := by
 unfold f190 F190
 simp only [p_vecRightS, p_numbers, Option.bind_some]
 unfold countI
 cases ha : resOk a with
 | false => simp
 | true =>
   cases hb : resOk b with
   | false => simp
   | true =>
     change cond (!true) _ (cond (!true) _ (cond (zRes b) _ _)) = _
     cases hz : zRes b with
     | true => simp
     | false =>
       simp only [Bool.not_true, cond_false, true_and, if_true]
       simp only [resOk, decide_eq_true_eq] at ha hb
       refine loop_run 4 (by decide) (fun i => ((accC a b i, (), (), (i : Int), ()), ((a.cpu, a.mem, a.gpu, a.lic), (b.cpu, b.mem, b.gpu, b.lic), ()))) (fun i hi next => ?_) (fun next => ?_)
       · match i, hi with
         | 0, _ =>
           by_cases hy : 0 < b.cpu
           · simp [l190_0, hy, accC, stepC, div_wrap ha.1 ha.2.1 hy, min_if, wi, show b.cpu ≠ 0 by omega]
           · simp [l190_0, hy, accC, stepC, wi]
         | 1, _ =>
           by_cases hy : 0 < b.mem
           · simp [l190_0, hy, accC, div_wrap ha.2.2.1 ha.2.2.2.1 hy, min_if, wi, show b.mem ≠ 0 by omega]
             simp [stepC, hy]
           · simp [l190_0, hy, accC, wi]
             simp [stepC, hy]
         | 2, _ =>
           by_cases hy : 0 < b.gpu
           · simp [l190_0, hy, accC, div_wrap ha.2.2.2.2.1 ha.2.2.2.2.2.1 hy, min_if, wi, show b.gpu ≠ 0 by omega]
             simp [stepC, hy]
           · simp [l190_0, hy, accC, wi]
             simp [stepC, hy]
         | 3, _ =>
           by_cases hy : 0 < b.lic
           · simp [l190_0, hy, accC, div_wrap ha.2.2.2.2.2.2.1 ha.2.2.2.2.2.2.2 hy, min_if, wi, show b.lic ≠ 0 by omega]
             simp [stepC, hy]
           · simp [l190_0, hy, accC, wi]
             simp [stepC, hy]
       · simp [l190_0, accC]
theorem stepC_nonneg {x y n : Int} (hx : 0 ≤ x) (hn : 0 ≤ n) : 0 ≤ stepC x y n := by
 unfold stepC
 split
 · rename_i h
   have := Int.ediv_nonneg hx (Int.le_of_lt h)
   omega
 · exact hn
theorem stepC_le {x y n : Int} : stepC x y n ≤ n := by
 unfold stepC
 split <;> omega
theorem countI_nonneg (a b : Res) : 0 ≤ countI a b := by
 unfold countI
 split
 · rename_i h
   have h1 := h.1
   simp only [resOk, decide_eq_true_eq] at h1
   exact stepC_nonneg h1.2.2.2.2.2.2.1 (stepC_nonneg h1.2.2.2.2.1 (stepC_nonneg h1.2.2.1 (stepC_nonneg h1.1 (by omega))))
 · omega
theorem countI_le (a b : Res) : countI a b ≤ 64 := by
 unfold countI
 split
 · exact Int.le_trans stepC_le (Int.le_trans stepC_le (Int.le_trans stepC_le stepC_le))
 · omega
theorem asc_mem {e : Int} : ∀ {l : List Int} {a : Int}, asc e a l = true → ∀ x, x ∈ l → a < x ∧ x < e
 | [], _, _, x, hx => by cases hx
 | n :: l, a, h, x, hx => by
   simp only [asc, Bool.and_eq_true, decide_eq_true_eq] at h
   rcases List.mem_cons.1 hx with rfl | hx
   · exact h.1
   · have := asc_mem h.2 x hx
     omega
theorem asc_len {e : Int} : ∀ {l : List Int} {a : Int}, asc e a l = true → l = [] ∨ (l.length : Int) + a < e
 | [], _, _ => .inl rfl
 | n :: l, a, h => by
   simp only [asc, Bool.and_eq_true, decide_eq_true_eq] at h
   right
   rcases asc_len h.2 with rfl | h2
   · simp only [List.length_cons, List.length_nil]; omega
   · simp only [List.length_cons]; omega
def z0 : Res := ⟨0, 0, 0, 0⟩
end NM
end Go.Proofs.Ytmnhkpekmgobbaa
end
