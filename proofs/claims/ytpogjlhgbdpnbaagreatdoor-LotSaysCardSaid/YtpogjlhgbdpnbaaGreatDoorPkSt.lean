/-
  What the proof of LotSays leans on, part 20. (Many texts laid together by program.)
-/
import Derived.Test.YtpogjlhgbdpnbaaGreatDoorPkSs
import Derived.Test.YtpogjlhgbdpnbaaGreatDoorProg
import Derived.ProofKit
set_option linter.unnecessarySimpa false
set_option linter.unusedSimpArgs false
set_option linter.unusedVariables false
namespace Go.Proofs.YtpogjlhgbdpnbaaGreatDoor
namespace NM
open AM
def tm (n : Nat) : Opd := .tmp n
def ki (n : Int) : Opd := .const (.int .i64 n)
def vI : Sh := .v (.int .i64)
def o1 (d : Nat) (p : AOp) (a : Nat) : AOper := ⟨some d, p, none, a, none⟩
def o2 (d : Nat) (p : AOp) (g a : Nat) : AOper := ⟨some d, p, some (g, false), a, none⟩
def o3 (d : Nat) (p : AOp) (g a : Nat) : AOper := ⟨some d, p, some (g, true), a, none⟩
def o4 (d : Nat) (p : AOp) (a : Nat) (l : List Nat) : AOper := ⟨some d, p, none, a, some (l, none)⟩
def iz : AVal := .int .i64 0
def vv (n : Nat) : Bool × Opd := (false, .tmp n)
def vw (n : Nat) : Bool × Opd := (true, .tmp n)
def fc (n : Nat) : Opd := .func n
def kf : Opd := .const (.bool false)
def kt : Opd := .const (.bool true)
def oM (d x a : Nat) : AOper := ⟨some d, .move (.tmp x), none, a, none⟩
def oN (d x g a : Nat) : AOper := ⟨some d, .move (.tmp x), some (g, false), a, none⟩
def oF (d k x a : Nat) : AOper := ⟨some d, .fieldAddr k (.tmp x), none, a, none⟩
def oL (d x a : Nat) : AOper := ⟨some d, .load false 1 (.tmp x), none, a, none⟩
def oT (d n x a : Nat) : AOper := ⟨some d, .load true n (.tmp x), none, a, none⟩
def oS (n x y a : Nat) : AOper := ⟨none, .store n (.tmp x) (.tmp y), none, a, none⟩
def oX (d x i a : Nat) : AOper := ⟨some d, .extract (.tmp x) i, none, a, none⟩
def oB (d : Nat) (o : BinOp) (x y a : Nat) : AOper := ⟨some d, .bin o (.tmp x) (.tmp y), none, a, none⟩
def oC (d : Nat) (o : BinOp) (x : Nat) (y : Int) (a : Nat) : AOper := ⟨some d, .bin o (.tmp x) (ki y), none, a, none⟩
end NM
end Go.Proofs.YtpogjlhgbdpnbaaGreatDoor
section
set_option maxRecDepth 100000
set_option maxHeartbeats 4000000
namespace Go.Proofs.YtpogjlhgbdpnbaaGreatDoor
namespace NM
open AM Go.RowKit
theorem mixed : Tryz.prog.follows .mixedOrders = true := by kernel_rfl
def s36 : Sig := ⟨(.cons (.v .str) (.cons (.v .str) .nil)),[],((.v (.list .str)),[]),[]⟩
def f36 : (List UInt8) → (List UInt8) → Option (List (List UInt8)) := splitF
@[reducible] def t36 : Ent := ⟨36,s36,fun x h => f36 x.1 x.2.1⟩
theorem ok36 : NOk Tryz.prog t36 := ext36
def n76 : NFunc := ⟨28,.seq (.region 0 [
 o1 2 (.move (.const (.str []))) 0] []) (.seq (.seq (.region 0 [
 oM 4 0 0,
 o1 5 (.nilCheck (tm 4)) 0,
 oF 6 0 5 0,
 oL 7 6 0,
 o1 8 (.len (tm 7)) 0,
 oC 9 .eql 8 0 0] []) (.cond (tm 9) (.seq (.region 0 [
 oM 10 0 0,
 o1 11 (.nilCheck (tm 10)) 0,
 oF 12 1 11 0,
 ⟨none,.store 1 (tm 12) kt,none,0,none⟩] []) (.seq (.region 0 [
 o1 2 (.move (.const (.str []))) 0] []) (.ret))) (.skip))) (.seq (.region 0 [
 oM 13 0 0,
 o1 14 (.nilCheck (tm 13)) 0,
 oF 15 0 14 0,
 oL 16 15 0,
 o1 17 (.indexSl 1 (tm 16) (ki 0)) 0,
 oL 18 17 0,
 oM 3 18 0] []) (.seq (.region 0 [
 oM 19 0 0,
 oM 20 0 0,
 o1 21 (.nilCheck (tm 20)) 0,
 oF 22 0 21 0,
 oL 23 22 0,
 o1 24 (.slice 1 (tm 23) (some (ki 1)) none none) 0,
 o1 25 (.nilCheck (tm 19)) 0,
 oF 26 0 25 0,
 oS 1 26 24 0] []) (.seq (.region 0 [
 oM 27 3 0,
 oM 2 27 0] []) (.ret))))),[.tmp 2],true⟩
def s76 : Sig := ⟨(.cons (.ptr 0 0 0) .nil),[.one false (.pair (.list .str) .bool)],((.v .str),[.one false (.pair (.list .str) .bool)]),[]⟩
def F76 (L : Lp)  (a0 : ((List (List UInt8)) × Bool)) : Option ((List UInt8) × (((List (List UInt8)) × Bool) × Unit)) :=
 cond (decide ((List.length a0.1 : Int) = 0))
 (some (([] : List UInt8),((a0.1,true),())))
 (Option.bind (a0.1[0]?) fun y1 =>
 cond (decide (1 ≤ (List.length a0.1)))
 (some (y1,((List.drop 1 a0.1,a0.2),())))
 (none))
theorem e76 (L : Lp)  (x : s76.args.den) (h : denH s76.heap) : nrun [] L n76 s76 x h = F76 L  h.1 := by kernel_rfl
def f76 : ((List (List UInt8)) × Bool) → Option ((List UInt8) × (((List (List UInt8)) × Bool) × Unit)) := F76 (@LN LOOPS) 
@[reducible] def t76 : Ent := ⟨76,s76,fun x h => f76 h.1⟩
theorem k76 : chkNF Tryz.prog Tryz.f76 n76 = true := by kernel_rfl
theorem ok76 : NOk Tryz.prog t76 := NOk.body (T := []) mixed nall_nil (oneEach_of (by kernel_rfl)) Tryz.func76 k76 (by kernel_rfl) (fun x h => e76 _  x h)
def n71 : NFunc := ⟨25,.seq (.region 0 [
 o1 2 (.move (ki 0)) 0] []) (.seq (.region 4 [
 oM 6 0 0,
 o1 7 (.call (fc 76) [(vw 6)] false 4) 0,
 oM 3 7 4] []) (.seq (.seq (.region 0 [
 o1 8 (.load true 11 (.glob 0)) 0,
 o1 9 (.move (ki 0)) 0] []) (.block 0 (.loopU [0,3,8,9] 12 (.seq (.region 0 [
 oC 10 .lss 9 11 0] []) (.seq (.cond (tm 10) (.skip) (.exit 0)) (.seq (.block 1 (.seq (.region 0 [
 oM 11 9 0,
 o1 12 (.indexVal false 11 1 (tm 8) (tm 9)) 0,
 oM 4 11 0,
 oM 5 12 0] []) (.seq (.region 0 [
 oM 13 4 0,
 oC 14 .gtr 13 0 0,
 oM 15 14 0,
 o3 16 (.move (tm 3)) 15 0,
 o3 17 (.move (tm 5)) 15 0,
 o3 18 (.bin .eql (tm 16) (tm 17)) 15 0,
 o1 19 (.pick (tm 15) (tm 18) kf) 0] []) (.cond (tm 19) (.seq (.region 0 [
 oM 20 4 0,
 oM 2 20 0] []) (.ret)) (.skip))))) (.region 0 [
 oC 21 .add 9 1 0,
 oM 9 21 0] []))))))) (.seq (.region 0 [
 oM 22 0 0,
 o1 23 (.nilCheck (tm 22)) 0,
 oF 24 1 23 0,
 ⟨none,.store 1 (tm 24) kt,none,0,none⟩] []) (.seq (.region 0 [
 o1 2 (.move (ki 0)) 0] []) (.ret))))),[.tmp 2],true⟩
def s71 : Sig := ⟨(.cons (.ptr 0 0 0) .nil),[.one false (.pair (.list .str) .bool)],((.v (.int .i64)),[.one false (.pair (.list .str) .bool)]),[]⟩
def F71 (L : Lp) (g76 : ((List (List UInt8)) × Bool) → Option ((List UInt8) × (((List (List UInt8)) × Bool) × Unit))) (a0 : ((List (List UInt8)) × Bool)) : Option (Int × (((List (List UInt8)) × Bool) × Unit)) :=
 Option.bind (g76 a0) fun r1 =>
 cond (decide (r1.1 = ([115,101,110,100] : List UInt8)))
 (some (1,(r1.2.1,())))
 (cond (decide (r1.1 = ([114,97,119] : List UInt8)))
 (some (2,(r1.2.1,())))
 (cond (decide (r1.1 = ([97,114,114,105,118,101] : List UInt8)))
 (some (3,(r1.2.1,())))
 (cond (decide (r1.1 = ([108,111,115,101] : List UInt8)))
 (some (4,(r1.2.1,())))
 (cond (decide (r1.1 = ([99,108,111,115,101] : List UInt8)))
 (some (5,(r1.2.1,())))
 (cond (decide (r1.1 = ([99,121,99,108,101] : List UInt8)))
 (some (6,(r1.2.1,())))
 (cond (decide (r1.1 = ([116,105,99,107] : List UInt8)))
 (some (7,(r1.2.1,())))
 (cond (decide (r1.1 = ([101,120,105,116] : List UInt8)))
 (some (8,(r1.2.1,())))
 (cond (decide (r1.1 = ([100,101,108,105,118,101,114] : List UInt8)))
 (some (9,(r1.2.1,())))
 (cond (decide (r1.1 = ([100,114,111,112] : List UInt8)))
 (some (10,(r1.2.1,())))
 (some (0,((r1.2.1.1,true),()))))))))))))
theorem e71 (L : Lp) (g76 : ((List (List UInt8)) × Bool) → Option ((List UInt8) × (((List (List UInt8)) × Bool) × Unit))) (x : s71.args.den) (h : denH s71.heap) : nrun [⟨76,s76,fun x h => g76 h.1⟩] L n71 s71 x h = F71 L g76 h.1 := by kernel_rfl
def f71 : ((List (List UInt8)) × Bool) → Option (Int × (((List (List UInt8)) × Bool) × Unit)) := F71 (@LN LOOPS) f76
@[reducible] def t71 : Ent := ⟨71,s71,fun x h => f71 h.1⟩
theorem k71 : chkNF Tryz.prog Tryz.f71 n71 = true := by kernel_rfl
theorem ok71 : NOk Tryz.prog t71 := NOk.body (T := [t76]) mixed (nall_cons ok76 nall_nil) (oneEach_of (by kernel_rfl)) Tryz.func71 k71 (by kernel_rfl) (fun x h => e71 _ _ x h)
def n57 : NFunc := ⟨9,.seq (.region 0 [
 o1 2 (.move kf) 0] []) (.seq (.region 0 [
 oM 3 0 0,
 oC 4 .geq 3 0 0,
 oM 5 4 0,
 o3 6 (.move (tm 0)) 5 0,
 o3 7 (.bin .leq (tm 6) (ki 281474976710656)) 5 0,
 o1 8 (.pick (tm 5) (tm 7) kf) 0,
 oM 2 8 0] []) (.ret)),[.tmp 2],true⟩
def s57 : Sig := ⟨(.cons (.v (.int .i64)) .nil),[],((.v .bool),[]),[]⟩
def F57 (L : Lp)  (an0 : Int) : Option Bool :=
 cond (decide (0 ≤ an0))
 (some (decide (an0 ≤ 281474976710656)))
 (some false)
theorem e57 (L : Lp)  (x : s57.args.den) (h : denH s57.heap) : nrun [] L n57 s57 x h = F57 L  x.1 := by kernel_rfl
def f57 : Int → Option Bool := F57 (@LN LOOPS) 
@[reducible] def t57 : Ent := ⟨57,s57,fun x h => f57 x.1⟩
theorem k57 : chkNF Tryz.prog Tryz.f57 n57 = true := by kernel_rfl
theorem ok57 : NOk Tryz.prog t57 := NOk.body (T := []) mixed nall_nil (oneEach_of (by kernel_rfl)) Tryz.func57 k57 (by kernel_rfl) (fun x h => e57 _  x h)
def n104 : NFunc := ⟨62,.seq (.region 0 [
 o1 4 (.move (ki 0)) 0] []) (.seq (.join [0,1] [] ⟨[(0,(.ptr 0 0 0))],[1],[.one false (.pair (.list .str) .bool)]⟩ (.seq (.region 0 [
 oM 7 1 0,
 o1 8 (.lenStr (tm 7)) 0,
 oC 9 .lss 8 1 0,
 oM 10 9 0,
 oN 11 1 10 0,
 o2 12 (.lenStr (tm 11)) 10 0,
 o2 13 (.bin .gtr (tm 12) (ki 15)) 10 0,
 o1 14 (.pick (tm 10) kt (tm 13)) 0,
 oM 15 14 0,
 oN 16 1 15 0,
 o2 17 (.indexStr (tm 16) (ki 0)) 15 0,
 o2 18 (.bin .eql (tm 17) (.const (.int .u8 (48)))) 15 0,
 oN 19 18 15 0,
 o3 20 (.move (tm 1)) 19 0,
 o3 21 (.lenStr (tm 20)) 19 0,
 o3 22 (.bin .gtr (tm 21) (ki 1)) 19 0,
 o2 23 (.pick (tm 19) (tm 22) kf) 15 0,
 o1 24 (.pick (tm 15) kt (tm 23)) 0] []) (.cond (tm 24) (.seq (.region 0 [
 oM 25 0 0,
 o1 26 (.nilCheck (tm 25)) 0,
 oF 27 1 26 0,
 ⟨none,.store 1 (tm 27) kt,none,0,none⟩] []) (.seq (.region 0 [
 o1 4 (.move (ki 0)) 0] []) (.ret))) (.skip)))) (.seq (.region 0 [
 o1 5 (.move (ki 0)) 0] []) (.seq (.seq (.region 0 [
 oM 28 1 0,
 o1 29 (.lenStr (tm 28)) 0,
 o1 30 (.move (ki 0)) 0] []) (.block 0 (.loop [0,1,5,29,30] ⟨[(0,(.ptr 0 0 0)),(5,vI),(30,vI)],[1,29],[.one false (.pair (.list .str) .bool)]⟩ (.seq (.region 0 [
 oB 31 .lss 30 29 0] []) (.seq (.cond (tm 31) (.skip) (.exit 0)) (.seq (.block 1 (.seq (.region 0 [
 oM 32 30 0,
 oM 6 32 0] []) (.seq (.seq (.region 0 [
 oM 33 1 0,
 oM 34 6 0,
 o1 35 (.indexStr (tm 33) (tm 34)) 0,
 o1 36 (.bin .lss (tm 35) (.const (.int .u8 (48)))) 0,
 oM 37 36 0,
 oN 38 1 37 0,
 oN 39 6 37 0,
 o2 40 (.indexStr (tm 38) (tm 39)) 37 0,
 o2 41 (.bin .gtr (tm 40) (.const (.int .u8 (57)))) 37 0,
 o1 42 (.pick (tm 37) kt (tm 41)) 0] []) (.cond (tm 42) (.seq (.region 0 [
 oM 43 0 0,
 o1 44 (.nilCheck (tm 43)) 0,
 oF 45 1 44 0,
 ⟨none,.store 1 (tm 45) kt,none,0,none⟩] []) (.seq (.region 0 [
 o1 4 (.move (ki 0)) 0] []) (.ret))) (.skip))) (.region 0 [
 oM 46 5 0,
 oC 47 .mul 46 10 0,
 oM 48 1 0,
 oM 49 6 0,
 o1 50 (.indexStr (tm 48) (tm 49)) 0,
 o1 51 (.bin .sub (tm 50) (.const (.int .u8 (48)))) 0,
 o1 52 (.conv .i64 (tm 51)) 0,
 oB 53 .add 47 52 0,
 oM 5 53 0] [])))) (.region 0 [
 oC 54 .add 30 1 0,
 oM 30 54 0] []))))))) (.seq (.seq (.region 4 [
 oM 55 5 0,
 o1 56 (.call (fc 57) [(vv 55)] false 4) 0,
 o1 57 (.un .not (tm 56)) 4] []) (.cond (tm 57) (.seq (.region 0 [
 oM 58 0 0,
 o1 59 (.nilCheck (tm 58)) 0,
 oF 60 1 59 0,
 ⟨none,.store 1 (tm 60) kt,none,0,none⟩] []) (.seq (.region 0 [
 o1 4 (.move (ki 0)) 0] []) (.ret))) (.skip))) (.seq (.region 0 [
 oM 61 5 0,
 oM 4 61 0] []) (.ret)))))),[.tmp 4],true⟩
def s104 : Sig := ⟨(.cons (.ptr 0 0 0) (.cons (.v .str) .nil)),[.one false (.pair (.list .str) .bool)],((.v (.int .i64)),[.one false (.pair (.list .str) .bool)]),[]⟩
def l104_0 (g57 : Int → Option Bool) (w0 : (List UInt8)) (nx5 : ((Unit × (Int × (Int × Unit))) × (((List (List UInt8)) × Bool) × Unit)) → Option (Int × (((List (List UInt8)) × Bool) × Unit))) (zn6 : Int) (z7 : Int) (z8 : ((List (List UInt8)) × Bool)) : Option (Int × (((List (List UInt8)) × Bool) × Unit)) :=
 cond (decide (z7 < (List.length w0 : Int)))
 (cond (decide (0 ≤ z7))
 (Option.bind (w0[Int.toNat z7]?) fun c9 =>
 cond (decide ((c9.toNat : Int) < 48))
 (some (0,((z8.1,true),())))
 (cond (decide (0 ≤ z7))
 (Option.bind (w0[Int.toNat z7]?) fun c10 =>
 cond (decide (57 < (c10.toNat : Int)))
 (some (0,((z8.1,true),())))
 (cond (decide (0 ≤ z7))
 (Option.bind (w0[Int.toNat z7]?) fun c11 =>
 let v12 := IntKind.wrap .i64 ((IntKind.wrap .i64 (zn6 * 10)) + (IntKind.wrap .i64 (IntKind.wrap .u8 ((c11.toNat : Int) - 48))))
 nx5 (((),v12,IntKind.wrap .i64 (z7 + 1),()),(z8,())))
 (none)))
 (none)))
 (none))
 (Option.bind (g57 zn6) fun r13 =>
 cond (!r13)
 (some (0,((z8.1,true),())))
 (some (zn6,(z8,()))))
def F104 (L : Lp) (g57 : Int → Option Bool) (w0 : (List UInt8)) (a1 : ((List (List UInt8)) × Bool)) : Option (Int × (((List (List UInt8)) × Bool) × Unit)) :=
 Option.bind (α := (((Unit × Unit) × (((List (List UInt8)) × Bool) × Unit)) ⊕ (Int × (((List (List UInt8)) × Bool) × Unit))))
 (cond (decide ((List.length w0 : Int) < 1))
 (some (.inr (0,((a1.1,true),()))))
 (cond (decide (15 < (List.length w0 : Int)))
 (some (.inr (0,((a1.1,true),()))))
 (Option.bind (w0[0]?) fun c2 =>
 cond (decide ((c2.toNat : Int) = 48))
 (cond (decide (1 < (List.length w0 : Int)))
 (some (.inr (0,((a1.1,true),()))))
 (some (.inl (((),()),(a1,())))))
 (some (.inl (((),()),(a1,()))))))) (Sum.elim (fun x3 =>
 L (fun (s4 : ((Unit × (Int × (Int × Unit))) × (((List (List UInt8)) × Bool) × Unit))) nx5 => l104_0 g57 w0 nx5 s4.1.2.1 s4.1.2.2.1 s4.2.1) (((),0,0,()),(x3.2.1,()))) some)
theorem e104 (L : Lp) (g57 : Int → Option Bool) (x : s104.args.den) (h : denH s104.heap) : nrun [⟨57,s57,fun x h => g57 x.1⟩] L n104 s104 x h = F104 L g57 x.2.1 h.1 := by kernel_rfl
def f104 : (List UInt8) → ((List (List UInt8)) × Bool) → Option (Int × (((List (List UInt8)) × Bool) × Unit)) := F104 (@LN LOOPS) f57
@[reducible] def t104 : Ent := ⟨104,s104,fun x h => f104 x.2.1 h.1⟩
theorem k104 : chkNF Tryz.prog Tryz.f104 n104 = true := by kernel_rfl
theorem ok104 : NOk Tryz.prog t104 := NOk.body (T := [t57]) mixed (nall_cons ok57 nall_nil) (oneEach_of (by kernel_rfl)) Tryz.func104 k104 (by kernel_rfl) (fun x h => e104 _ _ x h)
def n72 : NFunc := ⟨7,.seq (.region 0 [
 o1 2 (.move (ki 0)) 0] []) (.seq (.region 8 [
 oM 3 0 0,
 oM 4 0 0,
 o1 5 (.call (fc 76) [(vw 4)] false 4) 0,
 o1 6 (.call (fc 104) [(vw 3),(vv 5)] false 4) 4,
 oM 2 6 8] []) (.ret)),[.tmp 2],true⟩
def s72 : Sig := ⟨(.cons (.ptr 0 0 0) .nil),[.one false (.pair (.list .str) .bool)],((.v (.int .i64)),[.one false (.pair (.list .str) .bool)]),[]⟩
def F72 (L : Lp) (g76 : ((List (List UInt8)) × Bool) → Option ((List UInt8) × (((List (List UInt8)) × Bool) × Unit))) (g104 : (List UInt8) → ((List (List UInt8)) × Bool) → Option (Int × (((List (List UInt8)) × Bool) × Unit))) (a0 : ((List (List UInt8)) × Bool)) : Option (Int × (((List (List UInt8)) × Bool) × Unit)) :=
 Option.bind (g76 a0) fun r1 =>
 Option.bind (g104 r1.1 r1.2.1) fun r2 =>
 some (r2.1,(r2.2.1,()))
theorem e72 (L : Lp) (g76 : ((List (List UInt8)) × Bool) → Option ((List UInt8) × (((List (List UInt8)) × Bool) × Unit))) (g104 : (List UInt8) → ((List (List UInt8)) × Bool) → Option (Int × (((List (List UInt8)) × Bool) × Unit))) (x : s72.args.den) (h : denH s72.heap) : nrun [⟨76,s76,fun x h => g76 h.1⟩,⟨104,s104,fun x h => g104 x.2.1 h.1⟩] L n72 s72 x h = F72 L g76 g104 h.1 := by kernel_rfl
def f72 : ((List (List UInt8)) × Bool) → Option (Int × (((List (List UInt8)) × Bool) × Unit)) := F72 (@LN LOOPS) f76 f104
@[reducible] def t72 : Ent := ⟨72,s72,fun x h => f72 h.1⟩
theorem k72 : chkNF Tryz.prog Tryz.f72 n72 = true := by kernel_rfl
theorem ok72 : NOk Tryz.prog t72 := NOk.body (T := [t76,t104]) mixed (nall_cons ok76 (nall_cons ok104 nall_nil)) (oneEach_of (by kernel_rfl)) Tryz.func72 k72 (by kernel_rfl) (fun x h => e72 _ _ _ x h)
def n105 : NFunc := ⟨25,.seq (.region 0 [
 o1 2 (.move (ki 0)) 0] []) (.seq (.region 4 [
 oM 6 0 0,
 o1 7 (.call (fc 76) [(vw 6)] false 4) 0,
 oM 3 7 4] []) (.seq (.seq (.region 0 [
 o1 8 (.load true 13 (.glob 1)) 0,
 o1 9 (.move (ki 0)) 0] []) (.block 0 (.loopU [0,3,8,9] 14 (.seq (.region 0 [
 oC 10 .lss 9 13 0] []) (.seq (.cond (tm 10) (.skip) (.exit 0)) (.seq (.block 1 (.seq (.region 0 [
 oM 11 9 0,
 o1 12 (.indexVal false 13 1 (tm 8) (tm 9)) 0,
 oM 4 11 0,
 oM 5 12 0] []) (.seq (.region 0 [
 oM 13 4 0,
 oC 14 .gtr 13 0 0,
 oM 15 14 0,
 o3 16 (.move (tm 3)) 15 0,
 o3 17 (.move (tm 5)) 15 0,
 o3 18 (.bin .eql (tm 16) (tm 17)) 15 0,
 o1 19 (.pick (tm 15) (tm 18) kf) 0] []) (.cond (tm 19) (.seq (.region 0 [
 oM 20 4 0,
 oM 2 20 0] []) (.ret)) (.skip))))) (.region 0 [
 oC 21 .add 9 1 0,
 oM 9 21 0] []))))))) (.seq (.region 0 [
 oM 22 0 0,
 o1 23 (.nilCheck (tm 22)) 0,
 oF 24 1 23 0,
 ⟨none,.store 1 (tm 24) kt,none,0,none⟩] []) (.seq (.region 0 [
 o1 2 (.move (ki 0)) 0] []) (.ret))))),[.tmp 2],true⟩
def s105 : Sig := ⟨(.cons (.ptr 0 0 0) .nil),[.one false (.pair (.list .str) .bool)],((.v (.int .i64)),[.one false (.pair (.list .str) .bool)]),[]⟩
def F105 (L : Lp) (g76 : ((List (List UInt8)) × Bool) → Option ((List UInt8) × (((List (List UInt8)) × Bool) × Unit))) (a0 : ((List (List UInt8)) × Bool)) : Option (Int × (((List (List UInt8)) × Bool) × Unit)) :=
 Option.bind (g76 a0) fun r1 =>
 cond (decide (r1.1 = ([115,117,98,109,105,116] : List UInt8)))
 (some (1,(r1.2.1,())))
 (cond (decide (r1.1 = ([109,111,100,105,102,121] : List UInt8)))
 (some (2,(r1.2.1,())))
 (cond (decide (r1.1 = ([104,111,108,100] : List UInt8)))
 (some (3,(r1.2.1,())))
 (cond (decide (r1.1 = ([114,101,108,101,97,115,101] : List UInt8)))
 (some (4,(r1.2.1,())))
 (cond (decide (r1.1 = ([99,97,110,99,101,108] : List UInt8)))
 (some (5,(r1.2.1,())))
 (cond (decide (r1.1 = ([114,101,113,117,101,117,101] : List UInt8)))
 (some (6,(r1.2.1,())))
 (cond (decide (r1.1 = ([109,111,118,101] : List UInt8)))
 (some (7,(r1.2.1,())))
 (cond (decide (r1.1 = ([106,111,98] : List UInt8)))
 (some (8,(r1.2.1,())))
 (cond (decide (r1.1 = ([113,117,101,117,101] : List UInt8)))
 (some (9,(r1.2.1,())))
 (cond (decide (r1.1 = ([110,111,100,101,115] : List UInt8)))
 (some (10,(r1.2.1,())))
 (cond (decide (r1.1 = ([114,101,115,101,114,118,101] : List UInt8)))
 (some (11,(r1.2.1,())))
 (cond (decide (r1.1 = ([117,110,114,101,115,101,114,118,101] : List UInt8)))
 (some (12,(r1.2.1,())))
 (some (0,((r1.2.1.1,true),()))))))))))))))
theorem e105 (L : Lp) (g76 : ((List (List UInt8)) × Bool) → Option ((List UInt8) × (((List (List UInt8)) × Bool) × Unit))) (x : s105.args.den) (h : denH s105.heap) : nrun [⟨76,s76,fun x h => g76 h.1⟩] L n105 s105 x h = F105 L g76 h.1 := by kernel_rfl
def f105 : ((List (List UInt8)) × Bool) → Option (Int × (((List (List UInt8)) × Bool) × Unit)) := F105 (@LN LOOPS) f76
@[reducible] def t105 : Ent := ⟨105,s105,fun x h => f105 h.1⟩
theorem k105 : chkNF Tryz.prog Tryz.f105 n105 = true := by kernel_rfl
theorem ok105 : NOk Tryz.prog t105 := NOk.body (T := [t76]) mixed (nall_cons ok76 nall_nil) (oneEach_of (by kernel_rfl)) Tryz.func105 k105 (by kernel_rfl) (fun x h => e105 _ _ x h)
def n81 : NFunc := ⟨2,.seq (.region 0 [
 o1 0 (.move (.const (.zsl))) 0] []) (.seq (.region 1 [
 o1 1 (.buildSlice 1 4 true [.str []] [(0,(.const (.str [99,112,117]))),(1,(.const (.str [109,101,109]))),(2,(.const (.str [103,112,117]))),(3,(.const (.str [108,105,99])))]) 0,
 oM 0 1 1] []) (.ret)),[.tmp 0],true⟩
def s81 : Sig := ⟨.nil,[],((.v (.list .str)),[]),[]⟩
def F81 (L : Lp)   : Option (List (List UInt8)) :=
 some [([99,112,117] : List UInt8),([109,101,109] : List UInt8),([103,112,117] : List UInt8),([108,105,99] : List UInt8)]
theorem e81 (L : Lp)  (x : s81.args.den) (h : denH s81.heap) : nrun [] L n81 s81 x h = F81 L   := by kernel_rfl
def f81 : Option (List (List UInt8)) := F81 (@LN LOOPS) 
@[reducible] def t81 : Ent := ⟨81,s81,fun x h => f81 ⟩
theorem k81 : chkNF Tryz.prog Tryz.f81 n81 = true := by kernel_rfl
theorem ok81 : NOk Tryz.prog t81 := NOk.body (T := []) mixed nall_nil (oneEach_of (by kernel_rfl)) Tryz.func81 k81 (by kernel_rfl) (fun x h => e81 _  x h)
def s124 : Sig := ⟨(.cons (.v .str) (.cons (.v .str) .nil)),[],((.v (.int .i64)),[]),[]⟩
def f124 : (List UInt8) → (List UInt8) → Option Int := strIdx
@[reducible] def t124 : Ent := ⟨124,s124,fun x h => f124 x.1 x.2.1⟩
theorem ok124 : NOk Tryz.prog t124 := ext124
def n87 : NFunc := ⟨23,.seq (.region 0 [
 o1 4 (.move (.const (.str []))) 0,
 o1 5 (.move (.const (.str []))) 0,
 o1 6 (.move kf) 0] []) (.seq (.seq (.region 4 [
 oM 8 0 0,
 oM 9 1 0,
 o1 10 (.call (fc 124) [(vv 8),(vv 9)] false 4) 0,
 oM 7 10 4] []) (.seq (.region 0 [
 oM 11 7 0,
 oC 12 .geq 11 0 0] []) (.cond (tm 12) (.seq (.region 0 [
 o4 13 (.move (tm 0)) 0 [],
 o4 14 (.move (tm 7)) 0 [],
 o4 15 (.sliceStr (tm 13) none (some (tm 14))) 0 [],
 o4 16 (.move (tm 0)) 0 [],
 o4 17 (.move (tm 7)) 0 [],
 o4 18 (.move (tm 1)) 0 [],
 o4 19 (.lenStr (tm 18)) 0 [],
 o4 20 (.bin .add (tm 17) (tm 19)) 0 [],
 o4 21 (.sliceStr (tm 16) (some (tm 20)) none) 0 [],
 o4 4 (.move (tm 15)) 0 [],
 o4 5 (.move (tm 21)) 0 [],
 o4 6 (.move kt) 0 []] []) (.ret)) (.skip)))) (.seq (.region 0 [
 oM 22 0 0,
 oM 4 22 0,
 o1 5 (.move (.const (.str []))) 0,
 o1 6 (.move kf) 0] []) (.ret))),[.tmp 4,.tmp 5,.tmp 6],true⟩
def s87 : Sig := ⟨(.cons (.v .str) (.cons (.v .str) .nil)),[],((.tup (.cons (.v .str) (.cons (.v .str) (.cons (.v .bool) .nil)))),[]),[]⟩
def F87 (L : Lp) (g124 : (List UInt8) → (List UInt8) → Option Int) (as0 : (List UInt8)) (sep1 : (List UInt8)) : Option ((List UInt8) × ((List UInt8) × (Bool × Unit))) :=
 Option.bind (g124 as0 sep1) fun r2 =>
 cond (decide (0 ≤ r2))
 (cond (decide (0 ≤ r2))
 (cond (decide ((Int.toNat r2) ≤ (List.length as0)))
 (cond (decide (0 ≤ (IntKind.wrap .i64 (r2 + (List.length sep1 : Int)))))
 (cond (decide ((Int.toNat (IntKind.wrap .i64 (r2 + (List.length sep1 : Int)))) ≤ (List.length as0)))
 (some (List.take (Int.toNat r2) as0,List.drop (Int.toNat (IntKind.wrap .i64 (r2 + (List.length sep1 : Int)))) as0,true,()))
 (none))
 (none))
 (none))
 (none))
 (some (as0,([] : List UInt8),false,()))
theorem e87 (L : Lp) (g124 : (List UInt8) → (List UInt8) → Option Int) (x : s87.args.den) (h : denH s87.heap) : nrun [⟨124,s124,fun x h => g124 x.1 x.2.1⟩] L n87 s87 x h = F87 L g124 x.1 x.2.1 := by kernel_rfl
def f87 : (List UInt8) → (List UInt8) → Option ((List UInt8) × ((List UInt8) × (Bool × Unit))) := F87 (@LN LOOPS) f124
@[reducible] def t87 : Ent := ⟨87,s87,fun x h => f87 x.1 x.2.1⟩
theorem k87 : chkNF Tryz.prog Tryz.f87 n87 = true := by kernel_rfl
theorem ok87 : NOk Tryz.prog t87 := NOk.body (T := [t124]) mixed (nall_cons ok124 nall_nil) (oneEach_of (by kernel_rfl)) Tryz.func87 k87 (by kernel_rfl) (fun x h => e87 _ _ x h)
def n49 : NFunc := ⟨13,.seq (.region 0 [
 o1 4 (.move (.const (.str []))) 0,
 o1 5 (.move (.const (.str []))) 0,
 o1 6 (.move kf) 0] []) (.seq (.region 4 [
 oM 7 0 0,
 oM 8 1 0,
 o1 9 (.call (fc 87) [(vv 7),(vv 8)] false 4) 0,
 oX 10 9 0 4,
 oX 11 9 1 4,
 oX 12 9 2 4,
 oM 4 10 4,
 oM 5 11 4,
 oM 6 12 4] []) (.ret)),[.tmp 4,.tmp 5,.tmp 6],true⟩
def s49 : Sig := ⟨(.cons (.v .str) (.cons (.v .str) .nil)),[],((.tup (.cons (.v .str) (.cons (.v .str) (.cons (.v .bool) .nil)))),[]),[]⟩
def F49 (L : Lp) (g87 : (List UInt8) → (List UInt8) → Option ((List UInt8) × ((List UInt8) × (Bool × Unit)))) (as0 : (List UInt8)) (sep1 : (List UInt8)) : Option ((List UInt8) × ((List UInt8) × (Bool × Unit))) :=
 Option.bind (g87 as0 sep1) fun r2 =>
 some (r2.1,r2.2.1,r2.2.2.1,())
theorem e49 (L : Lp) (g87 : (List UInt8) → (List UInt8) → Option ((List UInt8) × ((List UInt8) × (Bool × Unit)))) (x : s49.args.den) (h : denH s49.heap) : nrun [⟨87,s87,fun x h => g87 x.1 x.2.1⟩] L n49 s49 x h = F49 L g87 x.1 x.2.1 := by kernel_rfl
def f49 : (List UInt8) → (List UInt8) → Option ((List UInt8) × ((List UInt8) × (Bool × Unit))) := F49 (@LN LOOPS) f87
@[reducible] def t49 : Ent := ⟨49,s49,fun x h => f49 x.1 x.2.1⟩
theorem k49 : chkNF Tryz.prog Tryz.f49 n49 = true := by kernel_rfl
theorem ok49 : NOk Tryz.prog t49 := NOk.body (T := [t87]) mixed (nall_cons ok87 nall_nil) (oneEach_of (by kernel_rfl)) Tryz.func49 k49 (by kernel_rfl) (fun x h => e49 _ _ x h)
def n125 : NFunc := ⟨22,.seq (.region 0 [
 o1 6 (.move (ki 0)) 0] []) (.seq (.seq (.region 0 [
 oM 8 1 0,
 oM 7 8 0] []) (.block 0 (.loop [0,2,7] ⟨[(7,vI)],[0,2],[]⟩ (.seq (.seq (.region 0 [
 oM 9 7 0,
 oM 10 0 0,
 o1 11 (.len (tm 10)) 0,
 oB 12 .lss 9 11 0] []) (.cond (tm 12) (.skip) (.exit 0))) (.seq (.block 1 (.seq (.region 0 [
 oM 15 0 0,
 oM 16 7 0,
 o1 17 (.indexSl 1 (tm 15) (tm 16)) 0,
 oL 18 17 0,
 oM 19 2 0,
 oB 20 .eql 18 19 0] []) (.cond (tm 20) (.seq (.region 0 [
 oM 21 7 0,
 oM 6 21 0] []) (.ret)) (.skip)))) (.region 0 [
 oM 13 7 0,
 oC 14 .add 13 1 0,
 oM 7 14 0] [])))))) (.seq (.region 0 [
 o1 6 (.move (.const (.int .i64 (-1)))) 0] []) (.ret))),[.tmp 6],true⟩
def s125 : Sig := ⟨(.cons (.v (.list .str)) (.cons (.v (.int .i64)) (.cons (.v .str) .nil))),[],((.v (.int .i64)),[]),[]⟩
def l125_0 (words0 : (List (List UInt8))) (word2 : (List UInt8)) (nx4 : ((Int × Unit) × Unit) → Option Int) (i5 : Int) : Option Int :=
 cond (decide (i5 < (List.length words0 : Int)))
 (cond (decide (0 ≤ i5))
 (Option.bind (words0[Int.toNat i5]?) fun y6 =>
 cond (decide (y6 = word2))
 (some i5)
 (nx4 ((IntKind.wrap .i64 (i5 + 1),()),())))
 (none))
 (some (-1))
def F125 (L : Lp)  (words0 : (List (List UInt8))) (from1 : Int) (word2 : (List UInt8)) : Option Int :=
 L (fun (s3 : ((Int × Unit) × Unit)) nx4 => l125_0 words0 word2 nx4 s3.1.1) ((from1,()),())
theorem e125 (L : Lp)  (x : s125.args.den) (h : denH s125.heap) : nrun [] L n125 s125 x h = F125 L  x.1 x.2.1 x.2.2.1 := by kernel_rfl
def f125 : (List (List UInt8)) → Int → (List UInt8) → Option Int := F125 (@LN LOOPS) 
@[reducible] def t125 : Ent := ⟨125,s125,fun x h => f125 x.1 x.2.1 x.2.2.1⟩
theorem k125 : chkNF Tryz.prog Tryz.f125 n125 = true := by kernel_rfl
theorem ok125 : NOk Tryz.prog t125 := NOk.body (T := []) mixed nall_nil (oneEach_of (by kernel_rfl)) Tryz.func125 k125 (by kernel_rfl) (fun x h => e125 _  x h)
def s126 : Sig := ⟨(.cons (.v .str) .nil),[],((.v (.int .i64)),[]),[]⟩
def f126 : (List UInt8) → Option Int := unitsNum
@[reducible] def t126 : Ent := ⟨126,s126,fun x h => f126 x.1⟩
theorem ok126 : NOk Tryz.prog t126 := ext126
def n88 : NFunc := ⟨58,.seq (.region 1 [
 o1 2 (.alloc [iz,iz,iz,iz]) 0,
 o1 3 (.move (ki 0)) 1] []) (.seq (.seq (.region 0 [
 oM 14 0 0,
 o1 15 (.bin .eql (tm 14) (.const (.str [110,111,110,101]))) 0] []) (.cond (tm 15) (.seq (.region 0 [
 o1 16 (.build [iz,iz,iz,iz] []) 0,
 oS 4 2 16 0,
 o1 3 (.move (ki 0)) 0] []) (.ret)) (.skip))) (.seq (.region 4 [
 o1 17 (.call (fc 81) [] false 4) 0,
 oM 4 17 4] []) (.seq (.region 1 [
 o1 5 (.alloc [iz,iz,iz,iz]) 0] []) (.seq (.region 0 [
 o1 6 (.move (ki 0)) 0] []) (.seq (.seq (.region 0 [
 o1 7 (.move kt) 0] []) (.block 0 (.loop [0,2,4,5,6,7] ⟨[(0,(.v .str)),(2,(.ptr 0 0 0)),(5,(.ptr 1 0 0)),(6,vI),(7,(.v .bool))],[4],[.one false .res,.one false (.pair (.int .i64) (.pair (.int .i64) (.pair (.int .i64) (.int .i64))))]⟩ (.seq (.seq (.region 0 [
 oM 18 7 0] []) (.cond (tm 18) (.skip) (.exit 0))) (.block 1 (.seq (.region 0 [
 o1 8 (.move (.const (.str []))) 0] []) (.seq (.region 4 [
 oM 20 0 0,
 o1 21 (.call (fc 49) [(vv 20),(false,(.const (.str [44])))] false 4) 0,
 oM 19 21 4,
 oX 22 19 0 4,
 oX 23 19 1 4,
 oX 24 19 2 4,
 oM 8 22 4,
 oM 0 23 4,
 oM 7 24 4] []) (.seq (.region 4 [
 oM 26 8 0,
 o1 27 (.call (fc 49) [(vv 26),(false,(.const (.str [61])))] false 4) 0,
 oM 25 27 4,
 oX 28 25 0 4,
 oX 29 25 1 4,
 oX 30 25 2 4,
 oM 9 28 4,
 oM 10 29 4,
 oM 11 30 4] []) (.seq (.region 4 [
 oM 31 4 0,
 oM 32 6 0,
 oM 33 9 0,
 o1 34 (.call (fc 125) [(vv 31),(vv 32),(vv 33)] false 4) 0,
 oM 12 34 4] []) (.seq (.region 4 [
 oM 35 10 0,
 o1 36 (.call (fc 126) [(vv 35)] false 4) 0,
 oM 13 36 4] []) (.seq (.seq (.region 0 [
 oM 37 12 0,
 oC 38 .lss 37 0 0,
 oM 39 38 0,
 oN 40 13 39 0,
 o2 41 (.bin .lss (tm 40) (ki 1)) 39 0,
 o1 42 (.pick (tm 39) kt (tm 41)) 0] []) (.cond (tm 42) (.seq (.region 0 [
 o1 43 (.build [iz,iz,iz,iz] []) 0,
 oS 4 2 43 0,
 o1 3 (.move (ki 11)) 0] []) (.ret)) (.skip))) (.seq (.region 0 [
 oM 44 12 0,
 oM 45 13 0,
 o1 46 (.indexArr 4 1 (tm 5) (tm 44)) 0,
 oS 1 46 45 0] [⟨46,none,some (44,4)⟩]) (.region 0 [
 oM 47 12 0,
 oC 48 .add 47 1 0,
 oM 6 48 0] []))))))))))))) (.seq (.region 0 [
 o1 49 (.indexArr 4 1 (tm 5) (ki 0)) 0,
 oL 50 49 0,
 o1 51 (.indexArr 4 1 (tm 5) (ki 1)) 0,
 oL 52 51 0,
 o1 53 (.indexArr 4 1 (tm 5) (ki 2)) 0,
 oL 54 53 0,
 o1 55 (.indexArr 4 1 (tm 5) (ki 3)) 0,
 oL 56 55 0,
 o1 57 (.build [iz,iz,iz,iz] [(0,1,(tm 50)),(1,1,(tm 52)),(2,1,(tm 54)),(3,1,(tm 56))]) 0,
 oS 4 2 57 0,
 o1 3 (.move (ki 0)) 0] []) (.ret))))))),[.cell true 4 2,.tmp 3],true⟩
def s88 : Sig := ⟨(.cons (.v .str) .nil),[],((.tup (.cons (.v .res) (.cons (.v (.int .i64)) .nil))),[]),[]⟩
def l88_0 (g49 : (List UInt8) → (List UInt8) → Option ((List UInt8) × ((List UInt8) × (Bool × Unit)))) (g125 : (List (List UInt8)) → Int → (List UInt8) → Option Int) (g126 : (List UInt8) → Option Int) (r1 : (List (List UInt8))) (nx3 : (((List UInt8) × (Unit × (Unit × (Int × (Bool × Unit))))) × (Res × ((Int × (Int × (Int × Int))) × Unit))) → Option (Res × (Int × Unit))) (zs4 : (List UInt8)) (from5 : Int) (more6 : Bool) (z7 : Res) (z8 : (Int × (Int × (Int × Int)))) : Option (Res × (Int × Unit)) :=
 cond more6
 (Option.bind (g49 zs4 ([44] : List UInt8)) fun r9 =>
 Option.bind (g49 r9.1 ([61] : List UInt8)) fun r10 =>
 Option.bind (g125 r1 from5 r10.1) fun r11 =>
 Option.bind (g126 r10.2.1) fun r12 =>
 cond (decide (r11 < 0))
 (some (Res.mk 0 0 0 0,11,()))
 (cond (decide (r12 < 1))
 (some (Res.mk 0 0 0 0,11,()))
 (cond (decide (r11 = 3))
 (nx3 ((r9.2.1,(),(),IntKind.wrap .i64 (r11 + 1),r9.2.2.1,()),(z7,(z8.1,(z8.2.1,(z8.2.2.1,r12))),())))
 (cond (decide (r11 = 2))
 (nx3 ((r9.2.1,(),(),IntKind.wrap .i64 (r11 + 1),r9.2.2.1,()),(z7,(z8.1,(z8.2.1,(r12,z8.2.2.2))),())))
 (cond (decide (r11 = 1))
 (nx3 ((r9.2.1,(),(),IntKind.wrap .i64 (r11 + 1),r9.2.2.1,()),(z7,(z8.1,(r12,z8.2.2)),())))
 (cond (decide (r11 = 0))
 (nx3 ((r9.2.1,(),(),IntKind.wrap .i64 (r11 + 1),r9.2.2.1,()),(z7,(r12,z8.2),())))
 (none)))))))
 (some (Res.mk z8.1 z8.2.1 z8.2.2.1 z8.2.2.2,0,()))
def F88 (L : Lp) (g81 : Option (List (List UInt8))) (g49 : (List UInt8) → (List UInt8) → Option ((List UInt8) × ((List UInt8) × (Bool × Unit)))) (g125 : (List (List UInt8)) → Int → (List UInt8) → Option Int) (g126 : (List UInt8) → Option Int) (as0 : (List UInt8)) : Option (Res × (Int × Unit)) :=
 cond (decide (as0 = ([110,111,110,101] : List UInt8)))
 (some (Res.mk 0 0 0 0,0,()))
 (Option.bind (g81) fun r1 =>
 L (fun (s2 : (((List UInt8) × (Unit × (Unit × (Int × (Bool × Unit))))) × (Res × ((Int × (Int × (Int × Int))) × Unit)))) nx3 => l88_0 g49 g125 g126 r1 nx3 s2.1.1 s2.1.2.2.2.1 s2.1.2.2.2.2.1 s2.2.1 s2.2.2.1) ((as0,(),(),0,true,()),(Res.mk 0 0 0 0,(0,(0,(0,0))),())))
theorem e88 (L : Lp) (g81 : Option (List (List UInt8))) (g49 : (List UInt8) → (List UInt8) → Option ((List UInt8) × ((List UInt8) × (Bool × Unit)))) (g125 : (List (List UInt8)) → Int → (List UInt8) → Option Int) (g126 : (List UInt8) → Option Int) (x : s88.args.den) (h : denH s88.heap) : nrun [⟨81,s81,fun x h => g81 ⟩,⟨49,s49,fun x h => g49 x.1 x.2.1⟩,⟨125,s125,fun x h => g125 x.1 x.2.1 x.2.2.1⟩,⟨126,s126,fun x h => g126 x.1⟩] L n88 s88 x h = F88 L g81 g49 g125 g126 x.1 := by kernel_rfl
def f88 : (List UInt8) → Option (Res × (Int × Unit)) := F88 (@LN LOOPS) f81 f49 f125 f126
@[reducible] def t88 : Ent := ⟨88,s88,fun x h => f88 x.1⟩
theorem k88 : chkNF Tryz.prog Tryz.f88 n88 = true := by kernel_rfl
theorem ok88 : NOk Tryz.prog t88 := NOk.body (T := [t81,t49,t125,t126]) mixed (nall_cons ok81 (nall_cons ok49 (nall_cons ok125 (nall_cons ok126 nall_nil)))) (oneEach_of (by kernel_rfl)) Tryz.func88 k88 (by kernel_rfl) (fun x h => e88 _ _ _ _ _ x h)
def n106 : NFunc := ⟨23,.seq (.region 1 [
 o1 2 (.alloc [iz,iz,iz,iz]) 0] []) (.seq (.region 9 [
 oM 6 0 0,
 o1 7 (.call (fc 76) [(vw 6)] false 4) 0,
 o1 8 (.call (fc 88) [(vv 7)] false 4) 4,
 oM 5 8 8,
 oX 9 5 0 8,
 oX 10 5 1 8,
 o1 3 (.alloc [iz,iz,iz,iz]) 8,
 oS 4 3 9 9,
 oM 4 10 9] []) (.seq (.region 0 [
 oM 11 0 0,
 oM 12 0 0,
 o1 13 (.nilCheck (tm 12)) 0,
 oF 14 1 13 0,
 oL 15 14 0,
 oM 16 15 0,
 oN 17 4 16 0,
 o2 18 (.bin .neq (tm 17) (ki 0)) 16 0,
 o1 19 (.pick (tm 16) kt (tm 18)) 0,
 o1 20 (.nilCheck (tm 11)) 0,
 oF 21 1 20 0,
 oS 1 21 19 0] []) (.seq (.region 0 [
 oT 22 4 3 0,
 oS 4 2 22 0] []) (.ret)))),[.cell true 4 2],true⟩
def s106 : Sig := ⟨(.cons (.ptr 0 0 0) .nil),[.one false (.pair (.list .str) .bool)],((.v .res),[.one false (.pair (.list .str) .bool)]),[]⟩
def F106 (L : Lp) (g76 : ((List (List UInt8)) × Bool) → Option ((List UInt8) × (((List (List UInt8)) × Bool) × Unit))) (g88 : (List UInt8) → Option (Res × (Int × Unit))) (a0 : ((List (List UInt8)) × Bool)) : Option (Res × (((List (List UInt8)) × Bool) × Unit)) :=
 Option.bind (g76 a0) fun r1 =>
 Option.bind (g88 r1.1) fun r2 =>
 cond r1.2.1.2
 (some (r2.1,((r1.2.1.1,true),())))
 (some (r2.1,((r1.2.1.1,!decide (r2.2.1 = 0)),())))
theorem e106 (L : Lp) (g76 : ((List (List UInt8)) × Bool) → Option ((List UInt8) × (((List (List UInt8)) × Bool) × Unit))) (g88 : (List UInt8) → Option (Res × (Int × Unit))) (x : s106.args.den) (h : denH s106.heap) : nrun [⟨76,s76,fun x h => g76 h.1⟩,⟨88,s88,fun x h => g88 x.1⟩] L n106 s106 x h = F106 L g76 g88 h.1 := by kernel_rfl
def f106 : ((List (List UInt8)) × Bool) → Option (Res × (((List (List UInt8)) × Bool) × Unit)) := F106 (@LN LOOPS) f76 f88
@[reducible] def t106 : Ent := ⟨106,s106,fun x h => f106 h.1⟩
theorem k106 : chkNF Tryz.prog Tryz.f106 n106 = true := by kernel_rfl
theorem ok106 : NOk Tryz.prog t106 := NOk.body (T := [t76,t88]) mixed (nall_cons ok76 (nall_cons ok88 nall_nil)) (oneEach_of (by kernel_rfl)) Tryz.func106 k106 (by kernel_rfl) (fun x h => e106 _ _ _ x h)
def n154 : NFunc := ⟨20,.seq (.region 0 [
 o1 2 (.move (ki 0)) 0] []) (.seq (.region 0 [
 o1 3 (.move (ki 0)) 0] []) (.seq (.seq (.region 0 [
 o1 4 (.move (ki 0)) 0] []) (.block 0 (.loop [0,3,4] ⟨[(3,vI),(4,vI)],[0],[]⟩ (.seq (.seq (.region 0 [
 oM 5 4 0,
 oM 6 0 0,
 o1 7 (.lenStr (tm 6)) 0,
 oB 8 .lss 5 7 0] []) (.cond (tm 8) (.skip) (.exit 0))) (.seq (.block 1 (.region 0 [
 oM 11 3 0,
 o1 12 (.bin .mul (ki 10) (tm 11)) 0,
 oM 13 0 0,
 oM 14 4 0,
 o1 15 (.indexStr (tm 13) (tm 14)) 0,
 o1 16 (.conv .i64 (tm 15)) 0,
 oB 17 .add 12 16 0,
 oC 18 .sub 17 48 0,
 oM 3 18 0] [])) (.region 0 [
 oM 9 4 0,
 oC 10 .add 9 1 0,
 oM 4 10 0] [])))))) (.seq (.region 0 [
 oM 19 3 0,
 oM 2 19 0] []) (.ret)))),[.tmp 2],true⟩
def s154 : Sig := ⟨(.cons (.v .str) .nil),[],((.v (.int .i64)),[]),[]⟩
def l154_0 (digits0 : (List UInt8)) (nx2 : ((Int × (Int × Unit)) × Unit) → Option Int) (zn3 : Int) (i4 : Int) : Option Int :=
 cond (decide (i4 < (List.length digits0 : Int)))
 (cond (decide (0 ≤ i4))
 (Option.bind (digits0[Int.toNat i4]?) fun c5 =>
 let v6 := IntKind.wrap .i64 ((IntKind.wrap .i64 (10 * zn3)) + (IntKind.wrap .i64 ((c5.toNat : Int))))
 nx2 ((IntKind.wrap .i64 (v6 - 48),IntKind.wrap .i64 (i4 + 1),()),()))
 (none))
 (some zn3)
def F154 (L : Lp)  (digits0 : (List UInt8)) : Option Int :=
 L (fun (s1 : ((Int × (Int × Unit)) × Unit)) nx2 => l154_0 digits0 nx2 s1.1.1 s1.1.2.1) ((0,0,()),())
theorem e154 (L : Lp)  (x : s154.args.den) (h : denH s154.heap) : nrun [] L n154 s154 x h = F154 L  x.1 := by kernel_rfl
def f154 : (List UInt8) → Option Int := F154 (@LN LOOPS) 
@[reducible] def t154 : Ent := ⟨154,s154,fun x h => f154 x.1⟩
theorem k154 : chkNF Tryz.prog Tryz.f154 n154 = true := by kernel_rfl
theorem ok154 : NOk Tryz.prog t154 := NOk.body (T := []) mixed nall_nil (oneEach_of (by kernel_rfl)) Tryz.func154 k154 (by kernel_rfl) (fun x h => e154 _  x h)
def n150 : NFunc := ⟨14,.seq (.region 0 [
 o1 2 (.move (ki 0)) 0,
 o1 3 (.move (ki 0)) 0,
 o1 4 (.move (ki 0)) 0] []) (.seq (.seq (.region 0 [
 oM 5 0 0,
 oC 6 .lss 5 0 0] []) (.cond (tm 6) (.seq (.region 0 [
 o1 2 (.move (ki 0)) 0,
 o1 3 (.move (ki 0)) 0,
 o1 4 (.move (ki 0)) 0] []) (.ret)) (.skip))) (.seq (.region 0 [
 oM 7 0 0,
 oC 8 .quo 7 3600 0,
 oM 9 0 0,
 oC 10 .rem 9 3600 0,
 oC 11 .quo 10 60 0,
 oM 12 0 0,
 oC 13 .rem 12 60 0,
 oM 2 8 0,
 oM 3 11 0,
 oM 4 13 0] []) (.ret))),[.tmp 2,.tmp 3,.tmp 4],true⟩
def s150 : Sig := ⟨(.cons (.v (.int .i64)) .nil),[],((.tup (.cons (.v (.int .i64)) (.cons (.v (.int .i64)) (.cons (.v (.int .i64)) .nil)))),[]),[]⟩
def F150 (L : Lp)  (an0 : Int) : Option (Int × (Int × (Int × Unit))) :=
 cond (decide (an0 < 0))
 (some (0,0,0,()))
 (some (IntKind.wrap .i64 (Int.tdiv an0 3600),IntKind.wrap .i64 (Int.tdiv (Int.tmod an0 3600) 60),Int.tmod an0 60,()))
theorem e150 (L : Lp)  (x : s150.args.den) (h : denH s150.heap) : nrun [] L n150 s150 x h = F150 L  x.1 := by kernel_rfl
def f150 : Int → Option (Int × (Int × (Int × Unit))) := F150 (@LN LOOPS) 
@[reducible] def t150 : Ent := ⟨150,s150,fun x h => f150 x.1⟩
theorem k150 : chkNF Tryz.prog Tryz.f150 n150 = true := by kernel_rfl
theorem ok150 : NOk Tryz.prog t150 := NOk.body (T := []) mixed nall_nil (oneEach_of (by kernel_rfl)) Tryz.func150 k150 (by kernel_rfl) (fun x h => e150 _  x h)
def n157 : NFunc := ⟨15,.seq (.region 0 [
 o1 2 (.move (.const (.str []))) 0] []) (.seq (.seq (.region 0 [
 oM 3 0 0,
 oC 4 .lss 3 10 0] []) (.cond (tm 4) (.seq (.region 0 [
 oM 5 0 0,
 oM 6 0 0,
 oC 7 .add 6 1 0,
 o1 8 (.sliceStr (.const (.str [48,49,50,51,52,53,54,55,56,57,97,98,99,100,101,102,103,104,105,106,107,108,109,110,111,112,113,114,115,116,117,118,119,120,121,122])) (some (tm 5)) (some (tm 7))) 0,
 oM 2 8 0] []) (.ret)) (.skip))) (.seq (.region 0 [
 oM 9 0 0,
 oC 10 .mul 9 2 0,
 oM 11 0 0,
 oC 12 .mul 11 2 0,
 oC 13 .add 12 2 0,
 o1 14 (.sliceStr (.const (.str [48,48,48,49,48,50,48,51,48,52,48,53,48,54,48,55,48,56,48,57,49,48,49,49,49,50,49,51,49,52,49,53,49,54,49,55,49,56,49,57,50,48,50,49,50,50,50,51,50,52,50,53,50,54,50,55,50,56,50,57,51,48,51,49,51,50,51,51,51,52,51,53,51,54,51,55,51,56,51,57,52,48,52,49,52,50,52,51,52,52,52,53,52,54,52,55,52,56,52,57,53,48,53,49,53,50,53,51,53,52,53,53,53,54,53,55,53,56,53,57,54,48,54,49,54,50,54,51,54,52,54,53,54,54,54,55,54,56,54,57,55,48,55,49,55,50,55,51,55,52,55,53,55,54,55,55,55,56,55,57,56,48,56,49,56,50,56,51,56,52,56,53,56,54,56,55,56,56,56,57,57,48,57,49,57,50,57,51,57,52,57,53,57,54,57,55,57,56,57,57])) (some (tm 10)) (some (tm 13))) 0,
 oM 2 14 0] []) (.ret))),[.tmp 2],true⟩
def s157 : Sig := ⟨(.cons (.v (.int .i64)) .nil),[],((.v .str),[]),[]⟩
def F157 (L : Lp)  (i0 : Int) : Option (List UInt8) :=
 cond (decide (i0 < 10))
 (cond (decide (0 ≤ i0))
 (cond (decide (0 ≤ (IntKind.wrap .i64 (i0 + 1))))
 (cond ((decide ((Int.toNat i0) ≤ (Int.toNat (IntKind.wrap .i64 (i0 + 1))))) && (decide ((Int.toNat (IntKind.wrap .i64 (i0 + 1))) ≤ (List.length ([48,49,50,51,52,53,54,55,56,57,97,98,99,100,101,102,103,104,105,106,107,108,109,110,111,112,113,114,115,116,117,118,119,120,121,122] : List UInt8)))))
 (let v1 := List.drop (Int.toNat i0) (List.take (Int.toNat (IntKind.wrap .i64 (i0 + 1))) ([48,49,50,51,52,53,54,55,56,57,97,98,99,100,101,102,103,104,105,106,107,108,109,110,111,112,113,114,115,116,117,118,119,120,121,122] : List UInt8))
 some v1)
 (none))
 (none))
 (none))
 (cond (decide (0 ≤ (IntKind.wrap .i64 (i0 * 2))))
 (cond (decide (0 ≤ (IntKind.wrap .i64 ((IntKind.wrap .i64 (i0 * 2)) + 2))))
 (cond ((decide ((Int.toNat (IntKind.wrap .i64 (i0 * 2))) ≤ (Int.toNat (IntKind.wrap .i64 ((IntKind.wrap .i64 (i0 * 2)) + 2))))) && (decide ((Int.toNat (IntKind.wrap .i64 ((IntKind.wrap .i64 (i0 * 2)) + 2))) ≤ (List.length ([48,48,48,49,48,50,48,51,48,52,48,53,48,54,48,55,48,56,48,57,49,48,49,49,49,50,49,51,49,52,49,53,49,54,49,55,49,56,49,57,50,48,50,49,50,50,50,51,50,52,50,53,50,54,50,55,50,56,50,57,51,48,51,49,51,50,51,51,51,52,51,53,51,54,51,55,51,56,51,57,52,48,52,49,52,50,52,51,52,52,52,53,52,54,52,55,52,56,52,57,53,48,53,49,53,50,53,51,53,52,53,53,53,54,53,55,53,56,53,57,54,48,54,49,54,50,54,51,54,52,54,53,54,54,54,55,54,56,54,57,55,48,55,49,55,50,55,51,55,52,55,53,55,54,55,55,55,56,55,57,56,48,56,49,56,50,56,51,56,52,56,53,56,54,56,55,56,56,56,57,57,48,57,49,57,50,57,51,57,52,57,53,57,54,57,55,57,56,57,57] : List UInt8)))))
 (let v2 := List.drop (Int.toNat (IntKind.wrap .i64 (i0 * 2))) (List.take (Int.toNat (IntKind.wrap .i64 ((IntKind.wrap .i64 (i0 * 2)) + 2))) ([48,48,48,49,48,50,48,51,48,52,48,53,48,54,48,55,48,56,48,57,49,48,49,49,49,50,49,51,49,52,49,53,49,54,49,55,49,56,49,57,50,48,50,49,50,50,50,51,50,52,50,53,50,54,50,55,50,56,50,57,51,48,51,49,51,50,51,51,51,52,51,53,51,54,51,55,51,56,51,57,52,48,52,49,52,50,52,51,52,52,52,53,52,54,52,55,52,56,52,57,53,48,53,49,53,50,53,51,53,52,53,53,53,54,53,55,53,56,53,57,54,48,54,49,54,50,54,51,54,52,54,53,54,54,54,55,54,56,54,57,55,48,55,49,55,50,55,51,55,52,55,53,55,54,55,55,55,56,55,57,56,48,56,49,56,50,56,51,56,52,56,53,56,54,56,55,56,56,56,57,57,48,57,49,57,50,57,51,57,52,57,53,57,54,57,55,57,56,57,57] : List UInt8))
 some v2)
 (none))
 (none))
 (none))
theorem e157 (L : Lp)  (x : s157.args.den) (h : denH s157.heap) : nrun [] L n157 s157 x h = F157 L  x.1 := by kernel_rfl
def f157 : Int → Option (List UInt8) := F157 (@LN LOOPS) 
@[reducible] def t157 : Ent := ⟨157,s157,fun x h => f157 x.1⟩
theorem k157 : chkNF Tryz.prog Tryz.f157 n157 = true := by kernel_rfl
theorem ok157 : NOk Tryz.prog t157 := NOk.body (T := []) mixed nall_nil (oneEach_of (by kernel_rfl)) Tryz.func157 k157 (by kernel_rfl) (fun x h => e157 _  x h)
def n178 : NFunc := ⟨36,.seq (.region 0 [
 o1 6 (.move (.const (.zsl))) 0] []) (.seq (.seq (.region 0 [
 oM 9 2 0,
 oC 10 .eql 9 10 0] []) (.cond (tm 10) (.seq (.seq (.region 0 [
 oM 11 1 0,
 o1 12 (.bin .lss (tm 11) (.const (.int .u64 (100)))) 0] []) (.cond (tm 12) (.seq (.region 5 [
 oM 13 0 0,
 oM 14 1 0,
 o1 15 (.conv .i64 (tm 14)) 0,
 o1 16 (.call (fc 157) [(vv 15)] false 4) 0,
 o1 17 (.append 1 1 true (tm 13) (tm 16)) 4,
 oM 6 17 5] []) (.ret)) (.skip))) (.seq (.region 1 [
 o1 7 (.alloc [.int .u8 (0),.int .u8 (0),.int .u8 (0),.int .u8 (0),.int .u8 (0),.int .u8 (0),.int .u8 (0),.int .u8 (0),.int .u8 (0),.int .u8 (0),.int .u8 (0),.int .u8 (0),.int .u8 (0),.int .u8 (0),.int .u8 (0),.int .u8 (0),.int .u8 (0),.int .u8 (0),.int .u8 (0),.int .u8 (0),.int .u8 (0),.int .u8 (0),.int .u8 (0),.int .u8 (0)]) 0] []) (.seq (.region 4 [
 oM 18 1 0,
 o1 19 (.call (fc 158) [(vv 18)] false 4) 0,
 oM 8 19 4] []) (.seq (.region 4 [
 oM 20 8 0,
 o1 21 (.un .not (.const (.undef))) 0,
 oM 22 1 0,
 o1 23 (.call (fc 159) [(vv 21),(vv 22)] false 4) 0] []) (.seq (.region 1 [
 oM 24 0 0,
 oM 25 8 0,
 o1 26 (.un .not (.const (.undef))) 0,
 o1 27 (.append 1 1 true (tm 24) (tm 26)) 0,
 oM 6 27 1] []) (.ret)))))) (.skip))) (.seq (.region 4 [
 oM 29 0 0,
 oM 30 1 0,
 oM 31 2 0,
 o1 32 (.call (fc 160) [(vv 29),(vv 30),(vv 31),(false,kf),(false,kt)] false 4) 0,
 oM 28 32 4,
 oX 33 28 0 4,
 oX 34 28 1 4,
 oM 0 33 4] []) (.seq (.region 0 [
 oM 35 0 0,
 oM 6 35 0] []) (.ret)))),[.tmp 6],false⟩
def s178 : Sig := ⟨(.cons (.slw 0 1) (.cons (.v (.int .u64)) (.cons (.v (.int .i64)) .nil))),[.typed (.int .u8)],((.slw 1 1),[.dead,.typed (.int .u8)]),[]⟩
def F178 (L : Lp) (g157 : Int → Option (List UInt8)) (i0 : Int) (base1 : Int) (a2 : (List Int)) : Option (Unit × (Unit × ((List Int) × Unit))) :=
 cond (decide (base1 = 10))
 (cond (decide (i0 < 100))
 (Option.bind (g157 (IntKind.wrap .i64 (i0))) fun r3 =>
 cond (smallB ((List.length a2) + (List.length (List.map (fun c => (UInt8.toNat c : Int)) r3))) 1)
 (some ((),((),a2 ++ (List.map (fun c => (UInt8.toNat c : Int)) r3),())))
 (none))
 (none))
 (none)
theorem e178 (L : Lp) (g157 : Int → Option (List UInt8)) (x : s178.args.den) (h : denH s178.heap) : nrun [⟨157,s157,fun x h => g157 x.1⟩] L n178 s178 x h = F178 L g157 x.2.1 x.2.2.1 h.1 := by kernel_rfl
def f178 : Int → Int → (List Int) → Option (Unit × (Unit × ((List Int) × Unit))) := F178 (@LN LOOPS) f157
@[reducible] def t178 : Ent := ⟨178,s178,fun x h => f178 x.2.1 x.2.2.1 h.1⟩
theorem k178 : chkNF Tryz.prog Tryz.f178 n178 = true := by kernel_rfl
theorem ok178 : NOk Tryz.prog t178 := NOk.body (T := [t157]) mixed (nall_cons ok157 nall_nil) (oneEach_of (by kernel_rfl)) Tryz.func178 k178 (by kernel_rfl) (fun x h => e178 _ _ x h)
def n178_1 : NFunc := ⟨36,.seq (.region 0 [
 o1 6 (.move (.const (.zsl))) 0] []) (.seq (.seq (.region 0 [
 oM 9 2 0,
 oC 10 .eql 9 10 0] []) (.cond (tm 10) (.seq (.seq (.region 0 [
 oM 11 1 0,
 o1 12 (.bin .lss (tm 11) (.const (.int .u64 (100)))) 0] []) (.cond (tm 12) (.seq (.region 5 [
 oM 13 0 0,
 oM 14 1 0,
 o1 15 (.conv .i64 (tm 14)) 0,
 o1 16 (.call (fc 157) [(vv 15)] false 4) 0,
 o1 17 (.append 1 1 true (tm 13) (tm 16)) 4,
 oM 6 17 5] []) (.ret)) (.skip))) (.seq (.region 1 [
 o1 7 (.alloc [.int .u8 (0),.int .u8 (0),.int .u8 (0),.int .u8 (0),.int .u8 (0),.int .u8 (0),.int .u8 (0),.int .u8 (0),.int .u8 (0),.int .u8 (0),.int .u8 (0),.int .u8 (0),.int .u8 (0),.int .u8 (0),.int .u8 (0),.int .u8 (0),.int .u8 (0),.int .u8 (0),.int .u8 (0),.int .u8 (0),.int .u8 (0),.int .u8 (0),.int .u8 (0),.int .u8 (0)]) 0] []) (.seq (.region 4 [
 oM 18 1 0,
 o1 19 (.call (fc 158) [(vv 18)] false 4) 0,
 oM 8 19 4] []) (.seq (.region 4 [
 oM 20 8 0,
 o1 21 (.un .not (.const (.undef))) 0,
 oM 22 1 0,
 o1 23 (.call (fc 159) [(vv 21),(vv 22)] false 4) 0] []) (.seq (.region 1 [
 oM 24 0 0,
 oM 25 8 0,
 o1 26 (.un .not (.const (.undef))) 0,
 o1 27 (.append 1 1 true (tm 24) (tm 26)) 0,
 oM 6 27 1] []) (.ret)))))) (.skip))) (.seq (.region 4 [
 oM 29 0 0,
 oM 30 1 0,
 oM 31 2 0,
 o1 32 (.call (fc 160) [(vv 29),(vv 30),(vv 31),(false,kf),(false,kt)] false 4) 0,
 oM 28 32 4,
 oX 33 28 0 4,
 oX 34 28 1 4,
 oM 0 33 4] []) (.seq (.region 0 [
 oM 35 0 0,
 oM 6 35 0] []) (.ret)))),[.tmp 6],false⟩
def s178_1 : Sig := ⟨(.cons .zsl (.cons (.v (.int .u64)) (.cons (.v (.int .i64)) .nil))),[],((.slw 0 1),[.typed (.int .u8)]),[]⟩
def F178_1 (L : Lp) (g157 : Int → Option (List UInt8)) (i0 : Int) (base1 : Int) : Option (Unit × ((List Int) × Unit)) :=
 cond (decide (base1 = 10))
 (cond (decide (i0 < 100))
 (Option.bind (g157 (IntKind.wrap .i64 (i0))) fun r2 =>
 cond (smallB (List.length (List.map (fun c => (UInt8.toNat c : Int)) r2)) 1)
 (some ((),([] ++ (List.map (fun c => (UInt8.toNat c : Int)) r2),())))
 (none))
 (none))
 (none)
theorem e178_1 (L : Lp) (g157 : Int → Option (List UInt8)) (x : s178_1.args.den) (h : denH s178_1.heap) : nrun [⟨157,s157,fun x h => g157 x.1⟩] L n178_1 s178_1 x h = F178_1 L g157 x.2.1 x.2.2.1 := by kernel_rfl
def f178_1 : Int → Int → Option (Unit × ((List Int) × Unit)) := F178_1 (@LN LOOPS) f157
@[reducible] def t178_1 : Ent := ⟨178,s178_1,fun x h => f178_1 x.2.1 x.2.2.1⟩
theorem k178_1 : chkNF Tryz.prog Tryz.f178 n178_1 = true := by kernel_rfl
theorem ok178_1 : NOk Tryz.prog t178_1 := NOk.body (T := [t157]) mixed (nall_cons ok157 nall_nil) (oneEach_of (by kernel_rfl)) Tryz.func178 k178_1 (by kernel_rfl) (fun x h => e178_1 _ _ x h)
def n168 : NFunc := ⟨21,.seq (.region 0 [
 o1 6 (.move (.const (.zsl))) 0] []) (.seq (.region 0 [
 oM 8 1 0,
 o1 9 (.conv .u64 (tm 8)) 0,
 oM 7 9 0] []) (.seq (.seq (.region 0 [
 oM 10 1 0,
 oC 11 .lss 10 0 0] []) (.cond (tm 11) (.seq (.region 2 [
 oM 12 0 0,
 o1 13 (.buildSlice 1 1 true [.int .u8 (0)] [(0,(.const (.int .u8 (45))))]) 0,
 o1 14 (.append 1 1 true (tm 12) (tm 13)) 1,
 oM 0 14 2] []) (.region 0 [
 oM 15 7 0,
 o1 16 (.un .neg (tm 15)) 0,
 oM 7 16 0] [])) (.skip))) (.seq (.region 4 [
 oM 17 0 0,
 oM 18 7 0,
 oM 19 2 0,
 o1 20 (.call (fc 178) [(vw 17),(vv 18),(vv 19)] false 4) 0,
 oM 6 20 4] []) (.ret)))),[.tmp 6],false⟩
def s168 : Sig := ⟨(.cons .zsl (.cons (.v (.int .i64)) (.cons (.v (.int .i64)) .nil))),[],((.slw 0 1),[.typed (.int .u8)]),[]⟩
def F168 (L : Lp) (g178 : Int → Int → (List Int) → Option (Unit × (Unit × ((List Int) × Unit)))) (g178_1 : Int → Int → Option (Unit × ((List Int) × Unit))) (i0 : Int) (base1 : Int) : Option (Unit × ((List Int) × Unit)) :=
 cond (decide (i0 < 0))
 (Option.bind (g178 (IntKind.wrap .u64 (0 - (IntKind.wrap .u64 (i0)))) base1 [45]) fun r2 =>
 some ((),(r2.2.2.1,())))
 (Option.bind (g178_1 (IntKind.wrap .u64 (i0)) base1) fun r3 =>
 some ((),(r3.2.1,())))
theorem e168 (L : Lp) (g178 : Int → Int → (List Int) → Option (Unit × (Unit × ((List Int) × Unit)))) (g178_1 : Int → Int → Option (Unit × ((List Int) × Unit))) (x : s168.args.den) (h : denH s168.heap) : nrun [⟨178,s178,fun x h => g178 x.2.1 x.2.2.1 h.1⟩,⟨178,s178_1,fun x h => g178_1 x.2.1 x.2.2.1⟩] L n168 s168 x h = F168 L g178 g178_1 x.2.1 x.2.2.1 := by kernel_rfl
def f168 : Int → Int → Option (Unit × ((List Int) × Unit)) := F168 (@LN LOOPS) f178 f178_1
@[reducible] def t168 : Ent := ⟨168,s168,fun x h => f168 x.2.1 x.2.2.1⟩
theorem k168 : chkNF Tryz.prog Tryz.f168 n168 = true := by kernel_rfl
theorem ok168 : NOk Tryz.prog t168 := NOk.body (T := [t178,t178_1]) mixed (nall_cons ok178 (nall_cons ok178_1 nall_nil)) (oneEach_of (by kernel_rfl)) Tryz.func168 k168 (by kernel_rfl) (fun x h => e168 _ _ _ x h)
def n152 : NFunc := ⟨11,.seq (.region 0 [
 o1 6 (.move (.const (.zsl))) 0] []) (.seq (.region 4 [
 oM 7 0 0,
 oM 8 1 0,
 oM 9 2 0,
 o1 10 (.call (fc 168) [(vw 7),(vv 8),(vv 9)] false 4) 0,
 oM 6 10 4] []) (.ret)),[.tmp 6],false⟩
def s152 : Sig := ⟨(.cons .zsl (.cons (.v (.int .i64)) (.cons (.v (.int .i64)) .nil))),[],((.slw 0 1),[.typed (.int .u8)]),[]⟩
def F152 (L : Lp) (g168 : Int → Int → Option (Unit × ((List Int) × Unit))) (i0 : Int) (base1 : Int) : Option (Unit × ((List Int) × Unit)) :=
 Option.bind (g168 i0 base1) fun r2 =>
 some ((),(r2.2.1,()))
theorem e152 (L : Lp) (g168 : Int → Int → Option (Unit × ((List Int) × Unit))) (x : s152.args.den) (h : denH s152.heap) : nrun [⟨168,s168,fun x h => g168 x.2.1 x.2.2.1⟩] L n152 s152 x h = F152 L g168 x.2.1 x.2.2.1 := by kernel_rfl
def f152 : Int → Int → Option (Unit × ((List Int) × Unit)) := F152 (@LN LOOPS) f168
@[reducible] def t152 : Ent := ⟨152,s152,fun x h => f152 x.2.1 x.2.2.1⟩
theorem k152 : chkNF Tryz.prog Tryz.f152 n152 = true := by kernel_rfl
theorem ok152 : NOk Tryz.prog t152 := NOk.body (T := [t168]) mixed (nall_cons ok168 nall_nil) (oneEach_of (by kernel_rfl)) Tryz.func152 k152 (by kernel_rfl) (fun x h => e152 _ _ x h)
def n151 : NFunc := ⟨26,.seq (.region 0 [
 o1 4 (.move (.const (.zsl))) 0] []) (.seq (.seq (.region 0 [
 oM 7 1 0,
 o1 8 (.len (tm 7)) 0,
 o1 9 (.move (ki 0)) 0] []) (.block 0 (.loopU [0,7,8,9] 3 (.seq (.region 0 [
 oB 10 .lss 9 8 0] []) (.seq (.cond (tm 10) (.skip) (.exit 0)) (.seq (.block 1 (.seq (.region 0 [
 o1 11 (.indexSl 1 (tm 7) (tm 9)) 0,
 oL 12 11 0,
 oM 6 12 0] []) (.region 2 [
 oM 13 0 0,
 oM 14 6 0,
 oC 15 .quo 14 10 0,
 o1 16 (.conv .u8 (tm 15)) 0,
 o1 17 (.bin .add (.const (.int .u8 (48))) (tm 16)) 0,
 oM 18 6 0,
 oC 19 .rem 18 10 0,
 o1 20 (.conv .u8 (tm 19)) 0,
 o1 21 (.bin .add (.const (.int .u8 (48))) (tm 20)) 0,
 o1 22 (.buildSlice 1 3 true [.int .u8 (0)] [(0,(.const (.int .u8 (58)))),(1,(tm 17)),(2,(tm 21))]) 0,
 o1 23 (.append 1 1 true (tm 13) (tm 22)) 1,
 oM 0 23 2] []))) (.region 0 [
 oC 24 .add 9 1 0,
 oM 9 24 0] []))))))) (.seq (.region 0 [
 oM 25 0 0,
 oM 4 25 0] []) (.ret))),[.tmp 4],false⟩
def s151 : Sig := ⟨(.cons (.slw 0 1) (.cons (.rows 1 (.cons (.cons (.v (.int .i64)) .nil) (.cons (.cons (.v (.int .i64)) .nil) .nil))) .nil)),[.typed (.int .u8)],((.slw 1 1),[.dead,.typed (.int .u8)]),[]⟩
def F151 (L : Lp)  (al0 : Int) (al1 : Int) (a2 : (List Int)) : Option (Unit × (Unit × ((List Int) × Unit))) :=
 let v3 := IntKind.wrap .u8 (48 + (IntKind.wrap .u8 (IntKind.wrap .i64 (Int.tdiv al0 10))))
 cond (smallB ((List.length a2) + 3) 1)
 (let v4 := IntKind.wrap .u8 (48 + (IntKind.wrap .u8 (IntKind.wrap .i64 (Int.tdiv al1 10))))
 cond (smallB ((List.length (a2 ++ [58,v3,IntKind.wrap .u8 (48 + (IntKind.wrap .u8 (Int.tmod al0 10)))])) + 3) 1)
 (some ((),((),(a2 ++ [58,v3,IntKind.wrap .u8 (48 + (IntKind.wrap .u8 (Int.tmod al0 10)))]) ++ [58,v4,IntKind.wrap .u8 (48 + (IntKind.wrap .u8 (Int.tmod al1 10)))],())))
 (none))
 (none)
theorem e151 (L : Lp)  (x : s151.args.den) (h : denH s151.heap) : nrun [] L n151 s151 x h = F151 L  x.2.1.1.1 x.2.1.2.1.1 h.1 := by kernel_rfl
def f151 : Int → Int → (List Int) → Option (Unit × (Unit × ((List Int) × Unit))) := F151 (@LN LOOPS) 
@[reducible] def t151 : Ent := ⟨151,s151,fun x h => f151 x.2.1.1.1 x.2.1.2.1.1 h.1⟩
theorem k151 : chkNF Tryz.prog Tryz.f151 n151 = true := by kernel_rfl
theorem ok151 : NOk Tryz.prog t151 := NOk.body (T := []) mixed nall_nil (oneEach_of (by kernel_rfl)) Tryz.func151 k151 (by kernel_rfl) (fun x h => e151 _  x h)
def n131 : NFunc := ⟨26,.seq (.region 0 [
 o1 2 (.move (.const (.str []))) 0,
 o1 3 (.move (ki 0)) 0] []) (.seq (.seq (.region 0 [
 oM 7 0 0,
 oC 8 .lss 7 0 0,
 oM 9 8 0,
 oN 10 0 9 0,
 o2 11 (.bin .gtr (tm 10) (ki 65536)) 9 0,
 o1 12 (.pick (tm 9) kt (tm 11)) 0] []) (.cond (tm 12) (.seq (.region 0 [
 o1 2 (.move (.const (.str []))) 0,
 o1 3 (.move (ki 2)) 0] []) (.ret)) (.skip))) (.seq (.region 4 [
 oM 14 0 0,
 o1 15 (.call (fc 150) [(vv 14)] false 4) 0,
 oM 13 15 4,
 oX 16 13 0 4,
 oX 17 13 1 4,
 oX 18 13 2 4,
 oM 4 16 4,
 oM 5 17 4,
 oM 6 18 4] []) (.seq (.region 9 [
 oM 19 4 0,
 o1 20 (.call (fc 152) [(true,(.const (.zsl))),(vv 19),(false,(ki 10))] false 4) 0,
 oM 21 5 4,
 oM 22 6 4,
 o1 23 (.buildSlice 1 2 true [iz] [(0,(tm 21)),(1,(tm 22))]) 4,
 o1 24 (.call (fc 151) [(vw 20),(vv 23)] false 4) 5,
 o1 25 (.load false 0 (tm 24)) 9,
 oM 2 25 9,
 o1 3 (.move (ki 0)) 9] []) (.ret)))),[.tmp 2,.tmp 3],true⟩
def s131 : Sig := ⟨(.cons (.v (.int .i64)) .nil),[],((.tup (.cons (.v .str) (.cons (.v (.int .i64)) .nil))),[]),[]⟩
def F131 (L : Lp) (g150 : Int → Option (Int × (Int × (Int × Unit)))) (g152 : Int → Int → Option (Unit × ((List Int) × Unit))) (g151 : Int → Int → (List Int) → Option (Unit × (Unit × ((List Int) × Unit)))) (an0 : Int) : Option ((List UInt8) × (Int × Unit)) :=
 cond (decide (an0 < 0))
 (some (([] : List UInt8),2,()))
 (cond (decide (65536 < an0))
 (some (([] : List UInt8),2,()))
 (Option.bind (g150 an0) fun r1 =>
 Option.bind (g152 r1.1 10) fun r2 =>
 Option.bind (g151 r1.2.1 r1.2.2.1 r2.2.1) fun r3 =>
 Option.bind (nbytes r3.2.2.1) fun s4 =>
 some (s4,0,())))
theorem e131 (L : Lp) (g150 : Int → Option (Int × (Int × (Int × Unit)))) (g152 : Int → Int → Option (Unit × ((List Int) × Unit))) (g151 : Int → Int → (List Int) → Option (Unit × (Unit × ((List Int) × Unit)))) (x : s131.args.den) (h : denH s131.heap) : nrun [⟨150,s150,fun x h => g150 x.1⟩,⟨152,s152,fun x h => g152 x.2.1 x.2.2.1⟩,⟨151,s151,fun x h => g151 x.2.1.1.1 x.2.1.2.1.1 h.1⟩] L n131 s131 x h = F131 L g150 g152 g151 x.1 := by kernel_rfl
def f131 : Int → Option ((List UInt8) × (Int × Unit)) := F131 (@LN LOOPS) f150 f152 f151
@[reducible] def t131 : Ent := ⟨131,s131,fun x h => f131 x.1⟩
theorem k131 : chkNF Tryz.prog Tryz.f131 n131 = true := by kernel_rfl
theorem ok131 : NOk Tryz.prog t131 := NOk.body (T := [t150,t152,t151]) mixed (nall_cons ok150 (nall_cons ok152 (nall_cons ok151 nall_nil))) (oneEach_of (by kernel_rfl)) Tryz.func131 k131 (by kernel_rfl) (fun x h => e131 _ _ _ _ x h)
def n135 : NFunc := ⟨61,.seq (.region 0 [
 o1 2 (.move (ki 0)) 0,
 o1 3 (.move (ki 0)) 0] []) (.seq (.region 4 [
 oM 14 0 0,
 o1 15 (.call (fc 49) [(vv 14),(false,(.const (.str [58])))] false 4) 0,
 oM 13 15 4,
 oX 16 13 0 4,
 oX 17 13 1 4,
 oX 18 13 2 4,
 oM 4 16 4,
 oM 5 17 4,
 oM 6 18 4] []) (.seq (.region 4 [
 oM 20 5 0,
 o1 21 (.call (fc 49) [(vv 20),(false,(.const (.str [58])))] false 4) 0,
 oM 19 21 4,
 oX 22 19 0 4,
 oX 23 19 1 4,
 oX 24 19 2 4,
 oM 7 22 4,
 oM 8 23 4,
 oM 9 24 4] []) (.seq (.seq (.region 0 [
 oM 25 4 0,
 o1 26 (.lenStr (tm 25)) 0,
 oC 27 .gtr 26 2 0,
 oM 28 27 0,
 oN 29 7 28 0,
 o2 30 (.lenStr (tm 29)) 28 0,
 o2 31 (.bin .neq (tm 30) (ki 2)) 28 0,
 o1 32 (.pick (tm 28) kt (tm 31)) 0,
 oM 33 32 0,
 oN 34 8 33 0,
 o2 35 (.lenStr (tm 34)) 33 0,
 o2 36 (.bin .neq (tm 35) (ki 2)) 33 0,
 o1 37 (.pick (tm 33) kt (tm 36)) 0] []) (.cond (tm 37) (.seq (.region 0 [
 o1 2 (.move (ki 0)) 0,
 o1 3 (.move (ki 11)) 0] []) (.ret)) (.skip))) (.seq (.region 12 [
 oM 38 4 0,
 o1 39 (.call (fc 154) [(vv 38)] false 4) 0,
 oC 40 .mul 39 3600 4,
 oM 41 7 4,
 o1 42 (.call (fc 154) [(vv 41)] false 4) 4,
 oC 43 .mul 42 60 8,
 oB 44 .add 40 43 8,
 oM 45 8 8,
 o1 46 (.call (fc 154) [(vv 45)] false 4) 8,
 oB 47 .add 44 46 12,
 oM 10 47 12] []) (.seq (.region 4 [
 oM 49 10 0,
 o1 50 (.call (fc 131) [(vv 49)] false 4) 0,
 oM 48 50 4,
 oX 51 48 0 4,
 oX 52 48 1 4,
 oM 11 51 4,
 oM 12 52 4] []) (.seq (.seq (.region 0 [
 oM 53 12 0,
 oC 54 .neq 53 0 0,
 oM 55 54 0,
 oN 56 11 55 0,
 oN 57 0 55 0,
 o2 58 (.bin .neq (tm 56) (tm 57)) 55 0,
 o1 59 (.pick (tm 55) kt (tm 58)) 0] []) (.cond (tm 59) (.seq (.region 0 [
 o1 2 (.move (ki 0)) 0,
 o1 3 (.move (ki 11)) 0] []) (.ret)) (.skip))) (.seq (.region 0 [
 oM 60 10 0,
 oM 2 60 0,
 o1 3 (.move (ki 0)) 0] []) (.ret)))))))),[.tmp 2,.tmp 3],true⟩
def s135 : Sig := ⟨(.cons (.v .str) .nil),[],((.tup (.cons (.v (.int .i64)) (.cons (.v (.int .i64)) .nil))),[]),[]⟩
def F135 (L : Lp) (g49 : (List UInt8) → (List UInt8) → Option ((List UInt8) × ((List UInt8) × (Bool × Unit)))) (g154 : (List UInt8) → Option Int) (g131 : Int → Option ((List UInt8) × (Int × Unit))) (as0 : (List UInt8)) : Option (Int × (Int × Unit)) :=
 Option.bind (g49 as0 ([58] : List UInt8)) fun r1 =>
 Option.bind (g49 r1.2.1 ([58] : List UInt8)) fun r2 =>
 cond (decide (2 < (List.length r1.1 : Int)))
 (some (0,11,()))
 (cond (!decide ((List.length r2.1 : Int) = 2))
 (some (0,11,()))
 (cond (!decide ((List.length r2.2.1 : Int) = 2))
 (some (0,11,()))
 (Option.bind (g154 r1.1) fun r3 =>
 Option.bind (g154 r2.1) fun r4 =>
 let v5 := IntKind.wrap .i64 ((IntKind.wrap .i64 (r3 * 3600)) + (IntKind.wrap .i64 (r4 * 60)))
 Option.bind (g154 r2.2.1) fun r6 =>
 Option.bind (g131 (IntKind.wrap .i64 (v5 + r6))) fun r7 =>
 cond (!decide (r7.2.1 = 0))
 (some (0,11,()))
 (cond (!decide (r7.1 = as0))
 (some (0,11,()))
 (some (IntKind.wrap .i64 (v5 + r6),0,()))))))
theorem e135 (L : Lp) (g49 : (List UInt8) → (List UInt8) → Option ((List UInt8) × ((List UInt8) × (Bool × Unit)))) (g154 : (List UInt8) → Option Int) (g131 : Int → Option ((List UInt8) × (Int × Unit))) (x : s135.args.den) (h : denH s135.heap) : nrun [⟨49,s49,fun x h => g49 x.1 x.2.1⟩,⟨154,s154,fun x h => g154 x.1⟩,⟨131,s131,fun x h => g131 x.1⟩] L n135 s135 x h = F135 L g49 g154 g131 x.1 := by kernel_rfl
def f135 : (List UInt8) → Option (Int × (Int × Unit)) := F135 (@LN LOOPS) f49 f154 f131
@[reducible] def t135 : Ent := ⟨135,s135,fun x h => f135 x.1⟩
theorem k135 : chkNF Tryz.prog Tryz.f135 n135 = true := by kernel_rfl
theorem ok135 : NOk Tryz.prog t135 := NOk.body (T := [t49,t154,t131]) mixed (nall_cons ok49 (nall_cons ok154 (nall_cons ok131 nall_nil))) (oneEach_of (by kernel_rfl)) Tryz.func135 k135 (by kernel_rfl) (fun x h => e135 _ _ _ _ x h)
def n107 : NFunc := ⟨23,.seq (.region 0 [
 o1 2 (.move (ki 0)) 0] []) (.seq (.region 8 [
 oM 6 0 0,
 o1 7 (.call (fc 76) [(vw 6)] false 4) 0,
 o1 8 (.call (fc 135) [(vv 7)] false 4) 4,
 oM 5 8 8,
 oX 9 5 0 8,
 oX 10 5 1 8,
 oM 3 9 8,
 oM 4 10 8] []) (.seq (.region 0 [
 oM 11 0 0,
 oM 12 0 0,
 o1 13 (.nilCheck (tm 12)) 0,
 oF 14 1 13 0,
 oL 15 14 0,
 oM 16 15 0,
 oN 17 4 16 0,
 o2 18 (.bin .neq (tm 17) (ki 0)) 16 0,
 o1 19 (.pick (tm 16) kt (tm 18)) 0,
 o1 20 (.nilCheck (tm 11)) 0,
 oF 21 1 20 0,
 oS 1 21 19 0] []) (.seq (.region 0 [
 oM 22 3 0,
 oM 2 22 0] []) (.ret)))),[.tmp 2],true⟩
def s107 : Sig := ⟨(.cons (.ptr 0 0 0) .nil),[.one false (.pair (.list .str) .bool)],((.v (.int .i64)),[.one false (.pair (.list .str) .bool)]),[]⟩
def F107 (L : Lp) (g76 : ((List (List UInt8)) × Bool) → Option ((List UInt8) × (((List (List UInt8)) × Bool) × Unit))) (g135 : (List UInt8) → Option (Int × (Int × Unit))) (a0 : ((List (List UInt8)) × Bool)) : Option (Int × (((List (List UInt8)) × Bool) × Unit)) :=
 Option.bind (g76 a0) fun r1 =>
 Option.bind (g135 r1.1) fun r2 =>
 cond r1.2.1.2
 (some (r2.1,((r1.2.1.1,true),())))
 (some (r2.1,((r1.2.1.1,!decide (r2.2.1 = 0)),())))
theorem e107 (L : Lp) (g76 : ((List (List UInt8)) × Bool) → Option ((List UInt8) × (((List (List UInt8)) × Bool) × Unit))) (g135 : (List UInt8) → Option (Int × (Int × Unit))) (x : s107.args.den) (h : denH s107.heap) : nrun [⟨76,s76,fun x h => g76 h.1⟩,⟨135,s135,fun x h => g135 x.1⟩] L n107 s107 x h = F107 L g76 g135 h.1 := by kernel_rfl
def f107 : ((List (List UInt8)) × Bool) → Option (Int × (((List (List UInt8)) × Bool) × Unit)) := F107 (@LN LOOPS) f76 f135
@[reducible] def t107 : Ent := ⟨107,s107,fun x h => f107 h.1⟩
theorem k107 : chkNF Tryz.prog Tryz.f107 n107 = true := by kernel_rfl
theorem ok107 : NOk Tryz.prog t107 := NOk.body (T := [t76,t135]) mixed (nall_cons ok76 (nall_cons ok135 nall_nil)) (oneEach_of (by kernel_rfl)) Tryz.func107 k107 (by kernel_rfl) (fun x h => e107 _ _ _ x h)
def n75 : NFunc := ⟨16,.seq (.region 0 [
 o1 2 (.move kf) 0] []) (.seq (.region 0 [
 oM 3 0 0,
 o1 4 (.nilCheck (tm 3)) 0,
 oF 5 1 4 0,
 oL 6 5 0,
 o1 7 (.un .not (tm 6)) 0,
 oM 8 7 0,
 o3 9 (.move (tm 0)) 8 0,
 o3 10 (.nilCheck (tm 9)) 8 0,
 o3 11 (.fieldAddr 0 (tm 10)) 8 0,
 o3 12 (.load false 1 (tm 11)) 8 0,
 o3 13 (.len (tm 12)) 8 0,
 o3 14 (.bin .gtr (tm 13) (ki 0)) 8 0,
 o1 15 (.pick (tm 8) (tm 14) kf) 0,
 oM 2 15 0] []) (.ret)),[.tmp 2],true⟩
def s75 : Sig := ⟨(.cons (.ptr 0 0 0) .nil),[.one false (.pair (.list .str) .bool)],((.v .bool),[.one false (.pair (.list .str) .bool)]),[]⟩
def F75 (L : Lp)  (a0 : ((List (List UInt8)) × Bool)) : Option (Bool × (((List (List UInt8)) × Bool) × Unit)) :=
 cond (!a0.2)
 (some (decide (0 < (List.length a0.1 : Int)),(a0,())))
 (some (false,(a0,())))
theorem e75 (L : Lp)  (x : s75.args.den) (h : denH s75.heap) : nrun [] L n75 s75 x h = F75 L  h.1 := by kernel_rfl
def f75 : ((List (List UInt8)) × Bool) → Option (Bool × (((List (List UInt8)) × Bool) × Unit)) := F75 (@LN LOOPS) 
@[reducible] def t75 : Ent := ⟨75,s75,fun x h => f75 h.1⟩
theorem k75 : chkNF Tryz.prog Tryz.f75 n75 = true := by kernel_rfl
theorem ok75 : NOk Tryz.prog t75 := NOk.body (T := []) mixed nall_nil (oneEach_of (by kernel_rfl)) Tryz.func75 k75 (by kernel_rfl) (fun x h => e75 _  x h)
def s136 : Sig := ⟨(.cons (.v .str) (.cons (.v .str) .nil)),[],((.tup (.cons (.v .str) (.cons (.v .bool) .nil))),[]),[]⟩
def f136 : (List UInt8) → (List UInt8) → Option (((List UInt8) × (Bool × Unit))) := cutSufF
@[reducible] def t136 : Ent := ⟨136,s136,fun x h => f136 x.1 x.2.1⟩
theorem ok136 : NOk Tryz.prog t136 := ext136
def n108 : NFunc := ⟨16,.seq (.region 1 [
 o1 2 (.alloc [iz,.bool false]) 0] []) (.seq (.region 8 [
 oM 6 0 0,
 o1 7 (.call (fc 76) [(vw 6)] false 4) 0,
 o1 8 (.call (fc 136) [(vv 7),(false,(.const (.str [33])))] false 4) 4,
 oM 5 8 8,
 oX 9 5 0 8,
 oX 10 5 1 8,
 oM 3 9 8,
 oM 4 10 8] []) (.seq (.region 4 [
 oM 11 0 0,
 oM 12 3 0,
 o1 13 (.call (fc 104) [(vw 11),(vv 12)] false 4) 0,
 oM 14 4 4,
 o1 15 (.build [iz,.bool false] [(0,1,(tm 13)),(1,1,(tm 14))]) 4,
 oS 2 2 15 4] []) (.ret))),[.cell true 2 2],true⟩
def s108 : Sig := ⟨(.cons (.ptr 0 0 0) .nil),[.one false (.pair (.list .str) .bool)],((.v .dep),[.one false (.pair (.list .str) .bool)]),[]⟩
def F108 (L : Lp) (g76 : ((List (List UInt8)) × Bool) → Option ((List UInt8) × (((List (List UInt8)) × Bool) × Unit))) (g136 : (List UInt8) → (List UInt8) → Option ((List UInt8) × (Bool × Unit))) (g104 : (List UInt8) → ((List (List UInt8)) × Bool) → Option (Int × (((List (List UInt8)) × Bool) × Unit))) (a0 : ((List (List UInt8)) × Bool)) : Option (Dep × (((List (List UInt8)) × Bool) × Unit)) :=
 Option.bind (g76 a0) fun r1 =>
 Option.bind (g136 r1.1 ([33] : List UInt8)) fun r2 =>
 Option.bind (g104 r2.1 r1.2.1) fun r3 =>
 some (Dep.mk r3.1 r2.2.1,(r3.2.1,()))
theorem e108 (L : Lp) (g76 : ((List (List UInt8)) × Bool) → Option ((List UInt8) × (((List (List UInt8)) × Bool) × Unit))) (g136 : (List UInt8) → (List UInt8) → Option ((List UInt8) × (Bool × Unit))) (g104 : (List UInt8) → ((List (List UInt8)) × Bool) → Option (Int × (((List (List UInt8)) × Bool) × Unit))) (x : s108.args.den) (h : denH s108.heap) : nrun [⟨76,s76,fun x h => g76 h.1⟩,⟨136,s136,fun x h => g136 x.1 x.2.1⟩,⟨104,s104,fun x h => g104 x.2.1 h.1⟩] L n108 s108 x h = F108 L g76 g136 g104 h.1 := by kernel_rfl
def f108 : ((List (List UInt8)) × Bool) → Option (Dep × (((List (List UInt8)) × Bool) × Unit)) := F108 (@LN LOOPS) f76 f136 f104
@[reducible] def t108 : Ent := ⟨108,s108,fun x h => f108 h.1⟩
theorem k108 : chkNF Tryz.prog Tryz.f108 n108 = true := by kernel_rfl
theorem ok108 : NOk Tryz.prog t108 := NOk.body (T := [t76,t136,t104]) mixed (nall_cons ok76 (nall_cons ok136 (nall_cons ok104 nall_nil))) (oneEach_of (by kernel_rfl)) Tryz.func108 k108 (by kernel_rfl) (fun x h => e108 _ _ _ _ x h)
def n73 : NFunc := ⟨110,.seq (.region 1 [
 o1 2 (.alloc [iz,iz,iz,iz,iz,iz,iz,iz,iz,iz,iz,iz,.zsl,iz,iz,iz,iz]) 0] []) (.seq (.region 5 [
 oM 4 0 0,
 o1 5 (.call (fc 105) [(vw 4)] false 4) 0,
 o1 6 (.build [iz,iz,iz,iz,iz,iz,iz,iz,iz,iz,iz,iz,.zsl,iz,iz,iz,iz] [(0,1,(tm 5))]) 4,
 o1 3 (.alloc [iz,iz,iz,iz,iz,iz,iz,iz,iz,iz,iz,iz,.zsl,iz,iz,iz,iz]) 4,
 oS 17 3 6 5] []) (.seq (.region 4 [
 oM 7 0 0,
 o1 8 (.call (fc 72) [(vw 7)] false 4) 0,
 oF 9 1 3 4,
 oS 1 9 8 4] []) (.seq (.seq (.region 0 [
 oF 10 0 3 0,
 oL 11 10 0] []) (.block 0 (.seq (.region 0 [
 oC 13 .eql 11 1 0,
 oM 12 13 0] []) (.cond (tm 12) (.seq (.region 8 [
 oM 14 0 0,
 o1 15 (.call (fc 72) [(vw 14)] false 4) 0,
 oM 16 0 4,
 o1 17 (.call (fc 72) [(vw 16)] false 4) 4,
 oF 18 4 3 8,
 oS 1 18 15 8,
 oF 19 5 3 8,
 oS 1 19 17 8] []) (.seq (.region 8 [
 oM 20 0 0,
 o1 21 (.call (fc 106) [(vw 20)] false 4) 0,
 oM 22 0 4,
 o1 23 (.call (fc 107) [(vw 22)] false 4) 4,
 oF 24 6 3 8,
 oS 4 24 21 8,
 oF 25 10 3 8,
 oS 1 25 23 8] []) (.seq (.region 4 [
 oM 26 0 0,
 o1 27 (.call (fc 72) [(vw 26)] false 4) 0,
 oF 28 11 3 4,
 oS 1 28 27 4] []) (.block 1 (.pre [0,2,3] [.matC 3 12 2 true] (.loop [0,2,3] ⟨[(0,(.ptr 0 0 0)),(2,(.ptr 1 0 0)),(3,(.ptr 2 0 0))],[],[.one false (.pair (.list .str) .bool),.cell false (.cons vI (.cons vI (.cons vI (.cons vI (.cons vI (.cons vI (.cons vI (.cons vI (.cons vI (.cons vI (.cons vI (.cons vI (.cons .zsl (.cons vI (.cons vI (.cons vI (.cons vI .nil))))))))))))))))),.cell false (.cons vI (.cons vI (.cons vI (.cons vI (.cons vI (.cons vI (.cons vI (.cons vI (.cons vI (.cons vI (.cons vI (.cons vI (.cons (.slw 3 2) (.cons vI (.cons vI (.cons vI (.cons vI .nil))))))))))))))))),.typed .dep]⟩ (.seq (.seq (.region 4 [
 oM 29 0 0,
 o1 30 (.call (fc 75) [(vw 29)] false 4) 0,
 oM 31 30 4,
 o3 32 (.fieldAddr 12 (tm 3)) 31 4,
 o3 33 (.load false 1 (tm 32)) 31 4,
 o3 34 (.len (tm 33)) 31 4,
 o3 35 (.bin .leq (tm 34) (ki 4)) 31 4,
 o1 36 (.pick (tm 31) (tm 35) kf) 4] []) (.cond (tm 36) (.skip) (.exit 1))) (.block 2 (.region 6 [
 o4 37 (.fieldAddr 12 (tm 3)) 0 [],
 ⟨(some 38),.load false 1 (tm 37),none,0,(some ([],some [2]))⟩,
 o4 39 (.move (tm 0)) 0 [],
 ⟨(some 40),.call (fc 108) [(vw 39)] false 4,none,0,(some ([],some [0]))⟩,
 ⟨(some 41),.buildSlice 2 1 true [iz,.bool false] [(0,(tm 40))],none,4,(some ([],some []))⟩,
 ⟨(some 42),.append 2 16 true (tm 38) (tm 41),none,5,(some ([4],some [3]))⟩,
 o4 43 (.fieldAddr 12 (tm 3)) 6 [0,1,2,3,4,5],
 ⟨none,.store 1 (tm 43) (tm 42),none,6,(some ([5],some [2]))⟩] []))))))))) (.seq (.region 0 [
 oC 45 .eql 11 2 0,
 oM 44 45 0] []) (.cond (tm 44) (.seq (.region 12 [
 oM 46 0 0,
 o1 47 (.call (fc 72) [(vw 46)] false 4) 0,
 oM 48 0 4,
 o1 49 (.call (fc 72) [(vw 48)] false 4) 4,
 oM 50 0 8,
 o1 51 (.call (fc 72) [(vw 50)] false 4) 8,
 oF 52 2 3 12,
 oS 1 52 47 12,
 oF 53 3 3 12,
 oS 1 53 49 12,
 oF 54 5 3 12,
 oS 1 54 51 12] []) (.region 8 [
 oM 55 0 0,
 o1 56 (.call (fc 106) [(vw 55)] false 4) 0,
 oM 57 0 4,
 o1 58 (.call (fc 107) [(vw 57)] false 4) 4,
 oF 59 6 3 8,
 oS 4 59 56 8,
 oF 60 10 3 8,
 oS 1 60 58 8] [])) (.seq (.meet [2,3,0,11,61] [] ⟨[(0,(.ptr 0 0 0)),(2,(.ptr 1 0 0)),(3,(.ptr 2 0 0)),(61,(.v .bool))],[11],[.one false (.pair (.list .str) .bool),.cell false (.cons vI (.cons vI (.cons vI (.cons vI (.cons vI (.cons vI (.cons vI (.cons vI (.cons vI (.cons vI (.cons vI (.cons vI (.cons .zsl (.cons vI (.cons vI (.cons vI (.cons vI .nil))))))))))))))))),.cell false (.cons vI (.cons vI (.cons vI (.cons vI (.cons vI (.cons vI (.cons vI (.cons vI (.cons vI (.cons vI (.cons vI (.cons vI (.cons .zsl (.cons vI (.cons vI (.cons vI (.cons vI .nil)))))))))))))))))]⟩ (.seq (.region 0 [
 oC 62 .eql 11 3 0,
 oM 61 62 0] []) (.cond (tm 61) (.skip) (.seq (.region 0 [
 oC 63 .eql 11 4 0,
 oM 61 63 0] []) (.cond (tm 61) (.skip) (.seq (.region 0 [
 oC 64 .eql 11 5 0,
 oM 61 64 0] []) (.cond (tm 61) (.skip) (.region 0 [
 oC 65 .eql 11 6 0,
 oM 61 65 0] [])))))))) (.cond (tm 61) (.region 8 [
 oM 66 0 0,
 o1 67 (.call (fc 72) [(vw 66)] false 4) 0,
 oM 68 0 4,
 o1 69 (.call (fc 72) [(vw 68)] false 4) 4,
 oF 70 2 3 8,
 oS 1 70 67 8,
 oF 71 3 3 8,
 oS 1 71 69 8] []) (.seq (.region 0 [
 oC 73 .eql 11 7 0,
 oM 72 73 0] []) (.cond (tm 72) (.region 12 [
 oM 74 0 0,
 o1 75 (.call (fc 72) [(vw 74)] false 4) 0,
 oM 76 0 4,
 o1 77 (.call (fc 72) [(vw 76)] false 4) 4,
 oM 78 0 8,
 o1 79 (.call (fc 72) [(vw 78)] false 4) 8,
 oF 80 2 3 12,
 oS 1 80 75 12,
 oF 81 3 3 12,
 oS 1 81 77 12,
 oF 82 4 3 12,
 oS 1 82 79 12] []) (.seq (.region 0 [
 oC 84 .eql 11 8 0,
 oM 83 84 0] []) (.cond (tm 83) (.region 4 [
 oM 85 0 0,
 o1 86 (.call (fc 72) [(vw 85)] false 4) 0,
 oF 87 2 3 4,
 oS 1 87 86 4] []) (.seq (.region 0 [
 oC 89 .eql 11 9 0,
 oM 88 89 0] []) (.cond (tm 88) (.region 4 [
 oM 90 0 0,
 o1 91 (.call (fc 72) [(vw 90)] false 4) 0,
 oF 92 4 3 4,
 oS 1 92 91 4] []) (.seq (.region 0 [
 oC 94 .eql 11 11 0,
 oM 93 94 0] []) (.cond (tm 93) (.region 12 [
 oM 95 0 0,
 o1 96 (.call (fc 72) [(vw 95)] false 4) 0,
 oM 97 0 4,
 o1 98 (.call (fc 72) [(vw 97)] false 4) 4,
 oM 99 0 8,
 o1 100 (.call (fc 72) [(vw 99)] false 4) 8,
 oF 101 13 3 12,
 oS 1 101 96 12,
 oF 102 14 3 12,
 oS 1 102 98 12,
 oF 103 15 3 12,
 oS 1 103 100 12] []) (.seq (.region 0 [
 oC 105 .eql 11 12 0,
 oM 104 105 0] []) (.cond (tm 104) (.region 4 [
 oM 106 0 0,
 o1 107 (.call (fc 72) [(vw 106)] false 4) 0,
 oF 108 16 3 4,
 oS 1 108 107 4] []) (.skip))))))))))))))))))) (.seq (.region 0 [
 oT 109 17 3 0,
 oS 17 2 109 0] []) (.ret))))),[.cell true 17 2],true⟩
def s73 : Sig := ⟨(.cons (.ptr 0 0 0) .nil),[.one false (.pair (.list .str) .bool)],((.v .request),[.one false (.pair (.list .str) .bool)]),[]⟩
def l73_0 (g75 : ((List (List UInt8)) × Bool) → Option (Bool × (((List (List UInt8)) × Bool) × Unit))) (g108 : ((List (List UInt8)) × Bool) → Option (Dep × (((List (List UInt8)) × Bool) × Unit))) (nx9 : ((Unit × (Unit × (Unit × Unit))) × (((List (List UInt8)) × Bool) × ((Int × (Int × (Int × (Int × (Int × (Int × (Int × (Int × (Int × (Int × (Int × (Int × (Unit × (Int × (Int × (Int × (Int × Unit))))))))))))))))) × ((Int × (Int × (Int × (Int × (Int × (Int × (Int × (Int × (Int × (Int × (Int × (Int × (Unit × (Int × (Int × (Int × (Int × Unit))))))))))))))))) × ((List Dep) × Unit))))) → Option (Request × (((List (List UInt8)) × Bool) × Unit))) (z10 : ((List (List UInt8)) × Bool)) (z11 : Int) (z12 : Int) (z13 : Int) (z14 : Int) (z15 : Int) (z16 : Int) (z17 : Int) (z18 : Int) (z19 : Int) (z20 : Int) (z21 : Int) (z22 : Int) (z23 : Int) (z24 : Int) (z25 : Int) (z26 : Int) (z27 : Int) (z28 : Int) (z29 : Int) (z30 : Int) (z31 : Int) (z32 : Int) (z33 : Int) (z34 : Int) (z35 : Int) (z36 : Int) (z37 : Int) (z38 : Int) (z39 : Int) (z40 : Int) (z41 : Int) (z42 : Int) (z43 : (List Dep)) : Option (Request × (((List (List UInt8)) × Bool) × Unit)) :=
 Option.bind (g75 z10) fun r44 =>
 cond r44.1
 (cond (decide ((List.length z43 : Int) ≤ 4))
 (Option.bind (g108 r44.2.1) fun r45 =>
 cond (smallB ((List.length z43) + 1) 16)
 (nx9 (((),(),(),()),(r45.2.1,(z11,z12,z13,z14,z15,z16,z17,z18,z19,z20,z21,z22,(),z23,z24,z25,z26,()),(z27,z28,z29,z30,z31,z32,z33,z34,z35,z36,z37,z38,(),z39,z40,z41,z42,()),z43 ++ [r45.1],())))
 (none))
 (some (Request.mk z27 z28 z29 z30 z31 z32 (Res.mk z33 z34 z35 z36) z37 z38 z43 z39 z40 z41 z42,(r44.2.1,()))))
 (some (Request.mk z27 z28 z29 z30 z31 z32 (Res.mk z33 z34 z35 z36) z37 z38 z43 z39 z40 z41 z42,(r44.2.1,())))
def F73 (L : Lp) (g105 : ((List (List UInt8)) × Bool) → Option (Int × (((List (List UInt8)) × Bool) × Unit))) (g72 : ((List (List UInt8)) × Bool) → Option (Int × (((List (List UInt8)) × Bool) × Unit))) (g106 : ((List (List UInt8)) × Bool) → Option (Res × (((List (List UInt8)) × Bool) × Unit))) (g107 : ((List (List UInt8)) × Bool) → Option (Int × (((List (List UInt8)) × Bool) × Unit))) (g75 : ((List (List UInt8)) × Bool) → Option (Bool × (((List (List UInt8)) × Bool) × Unit))) (g108 : ((List (List UInt8)) × Bool) → Option (Dep × (((List (List UInt8)) × Bool) × Unit))) (a0 : ((List (List UInt8)) × Bool)) : Option (Request × (((List (List UInt8)) × Bool) × Unit)) :=
 Option.bind (g105 a0) fun r1 =>
 Option.bind (g72 r1.2.1) fun r2 =>
 cond (decide (r1.1 = 1))
 (Option.bind (g72 r2.2.1) fun r3 =>
 Option.bind (g72 r3.2.1) fun r4 =>
 Option.bind (g106 r4.2.1) fun r5 =>
 Option.bind (g107 r5.2.1) fun r6 =>
 Option.bind (g72 r6.2.1) fun r7 =>
 L (fun (s8 : ((Unit × (Unit × (Unit × Unit))) × (((List (List UInt8)) × Bool) × ((Int × (Int × (Int × (Int × (Int × (Int × (Int × (Int × (Int × (Int × (Int × (Int × (Unit × (Int × (Int × (Int × (Int × Unit))))))))))))))))) × ((Int × (Int × (Int × (Int × (Int × (Int × (Int × (Int × (Int × (Int × (Int × (Int × (Unit × (Int × (Int × (Int × (Int × Unit))))))))))))))))) × ((List Dep) × Unit)))))) nx9 => l73_0 g75 g108 nx9 s8.2.1 s8.2.2.1.1 s8.2.2.1.2.1 s8.2.2.1.2.2.1 s8.2.2.1.2.2.2.1 s8.2.2.1.2.2.2.2.1 s8.2.2.1.2.2.2.2.2.1 s8.2.2.1.2.2.2.2.2.2.1 s8.2.2.1.2.2.2.2.2.2.2.1 s8.2.2.1.2.2.2.2.2.2.2.2.1 s8.2.2.1.2.2.2.2.2.2.2.2.2.1 s8.2.2.1.2.2.2.2.2.2.2.2.2.2.1 s8.2.2.1.2.2.2.2.2.2.2.2.2.2.2.1 s8.2.2.1.2.2.2.2.2.2.2.2.2.2.2.2.2.1 s8.2.2.1.2.2.2.2.2.2.2.2.2.2.2.2.2.2.1 s8.2.2.1.2.2.2.2.2.2.2.2.2.2.2.2.2.2.2.1 s8.2.2.1.2.2.2.2.2.2.2.2.2.2.2.2.2.2.2.2.1 s8.2.2.2.1.1 s8.2.2.2.1.2.1 s8.2.2.2.1.2.2.1 s8.2.2.2.1.2.2.2.1 s8.2.2.2.1.2.2.2.2.1 s8.2.2.2.1.2.2.2.2.2.1 s8.2.2.2.1.2.2.2.2.2.2.1 s8.2.2.2.1.2.2.2.2.2.2.2.1 s8.2.2.2.1.2.2.2.2.2.2.2.2.1 s8.2.2.2.1.2.2.2.2.2.2.2.2.2.1 s8.2.2.2.1.2.2.2.2.2.2.2.2.2.2.1 s8.2.2.2.1.2.2.2.2.2.2.2.2.2.2.2.1 s8.2.2.2.1.2.2.2.2.2.2.2.2.2.2.2.2.2.1 s8.2.2.2.1.2.2.2.2.2.2.2.2.2.2.2.2.2.2.1 s8.2.2.2.1.2.2.2.2.2.2.2.2.2.2.2.2.2.2.2.1 s8.2.2.2.1.2.2.2.2.2.2.2.2.2.2.2.2.2.2.2.2.1 s8.2.2.2.2.1) (((),(),(),()),(r7.2.1,(0,0,0,0,0,0,0,0,0,0,0,0,(),0,0,0,0,()),(r1.1,r2.1,0,0,r3.1,r4.1,r5.1.cpu,r5.1.mem,r5.1.gpu,r5.1.lic,r6.1,r7.1,(),0,0,0,0,()),[],())))
 (cond (decide (r1.1 = 2))
 (Option.bind (g72 r2.2.1) fun r46 =>
 Option.bind (g72 r46.2.1) fun r47 =>
 Option.bind (g72 r47.2.1) fun r48 =>
 Option.bind (g106 r48.2.1) fun r49 =>
 Option.bind (g107 r49.2.1) fun r50 =>
 some (Request.mk r1.1 r2.1 r46.1 r47.1 0 r48.1 r49.1 r50.1 0 [] 0 0 0 0,(r50.2.1,())))
 (Option.bind (α := ((Unit × (Unit × (Unit × (Bool × Unit)))) × (((List (List UInt8)) × Bool) × ((Int × (Int × (Int × (Int × (Int × (Int × (Int × (Int × (Int × (Int × (Int × (Int × (Unit × (Int × (Int × (Int × (Int × Unit))))))))))))))))) × ((Int × (Int × (Int × (Int × (Int × (Int × (Int × (Int × (Int × (Int × (Int × (Int × (Unit × (Int × (Int × (Int × (Int × Unit))))))))))))))))) × Unit)))))
 (cond (decide (r1.1 = 3))
 (some (((),(),(),true,()),(r2.2.1,(0,0,0,0,0,0,0,0,0,0,0,0,(),0,0,0,0,()),(r1.1,r2.1,0,0,0,0,0,0,0,0,0,0,(),0,0,0,0,()),())))
 (cond (decide (r1.1 = 4))
 (some (((),(),(),true,()),(r2.2.1,(0,0,0,0,0,0,0,0,0,0,0,0,(),0,0,0,0,()),(r1.1,r2.1,0,0,0,0,0,0,0,0,0,0,(),0,0,0,0,()),())))
 (cond (decide (r1.1 = 5))
 (some (((),(),(),true,()),(r2.2.1,(0,0,0,0,0,0,0,0,0,0,0,0,(),0,0,0,0,()),(r1.1,r2.1,0,0,0,0,0,0,0,0,0,0,(),0,0,0,0,()),())))
 (some (((),(),(),decide (r1.1 = 6),()),(r2.2.1,(0,0,0,0,0,0,0,0,0,0,0,0,(),0,0,0,0,()),(r1.1,r2.1,0,0,0,0,0,0,0,0,0,0,(),0,0,0,0,()),())))))) fun x51 =>
 cond x51.1.2.2.2.1
 (Option.bind (g72 x51.2.1) fun r52 =>
 Option.bind (g72 r52.2.1) fun r53 =>
 some (Request.mk x51.2.2.2.1.1 x51.2.2.2.1.2.1 r52.1 r53.1 x51.2.2.2.1.2.2.2.2.1 x51.2.2.2.1.2.2.2.2.2.1 (Res.mk x51.2.2.2.1.2.2.2.2.2.2.1 x51.2.2.2.1.2.2.2.2.2.2.2.1 x51.2.2.2.1.2.2.2.2.2.2.2.2.1 x51.2.2.2.1.2.2.2.2.2.2.2.2.2.1) x51.2.2.2.1.2.2.2.2.2.2.2.2.2.2.1 x51.2.2.2.1.2.2.2.2.2.2.2.2.2.2.2.1 [] x51.2.2.2.1.2.2.2.2.2.2.2.2.2.2.2.2.2.1 x51.2.2.2.1.2.2.2.2.2.2.2.2.2.2.2.2.2.2.1 x51.2.2.2.1.2.2.2.2.2.2.2.2.2.2.2.2.2.2.2.1 x51.2.2.2.1.2.2.2.2.2.2.2.2.2.2.2.2.2.2.2.2.1,(r53.2.1,())))
 (cond (decide (r1.1 = 7))
 (Option.bind (g72 x51.2.1) fun r54 =>
 Option.bind (g72 r54.2.1) fun r55 =>
 Option.bind (g72 r55.2.1) fun r56 =>
 some (Request.mk x51.2.2.2.1.1 x51.2.2.2.1.2.1 r54.1 r55.1 r56.1 x51.2.2.2.1.2.2.2.2.2.1 (Res.mk x51.2.2.2.1.2.2.2.2.2.2.1 x51.2.2.2.1.2.2.2.2.2.2.2.1 x51.2.2.2.1.2.2.2.2.2.2.2.2.1 x51.2.2.2.1.2.2.2.2.2.2.2.2.2.1) x51.2.2.2.1.2.2.2.2.2.2.2.2.2.2.1 x51.2.2.2.1.2.2.2.2.2.2.2.2.2.2.2.1 [] x51.2.2.2.1.2.2.2.2.2.2.2.2.2.2.2.2.2.1 x51.2.2.2.1.2.2.2.2.2.2.2.2.2.2.2.2.2.2.1 x51.2.2.2.1.2.2.2.2.2.2.2.2.2.2.2.2.2.2.2.1 x51.2.2.2.1.2.2.2.2.2.2.2.2.2.2.2.2.2.2.2.2.1,(r56.2.1,())))
 (cond (decide (r1.1 = 8))
 (Option.bind (g72 x51.2.1) fun r57 =>
 some (Request.mk x51.2.2.2.1.1 x51.2.2.2.1.2.1 r57.1 x51.2.2.2.1.2.2.2.1 x51.2.2.2.1.2.2.2.2.1 x51.2.2.2.1.2.2.2.2.2.1 (Res.mk x51.2.2.2.1.2.2.2.2.2.2.1 x51.2.2.2.1.2.2.2.2.2.2.2.1 x51.2.2.2.1.2.2.2.2.2.2.2.2.1 x51.2.2.2.1.2.2.2.2.2.2.2.2.2.1) x51.2.2.2.1.2.2.2.2.2.2.2.2.2.2.1 x51.2.2.2.1.2.2.2.2.2.2.2.2.2.2.2.1 [] x51.2.2.2.1.2.2.2.2.2.2.2.2.2.2.2.2.2.1 x51.2.2.2.1.2.2.2.2.2.2.2.2.2.2.2.2.2.2.1 x51.2.2.2.1.2.2.2.2.2.2.2.2.2.2.2.2.2.2.2.1 x51.2.2.2.1.2.2.2.2.2.2.2.2.2.2.2.2.2.2.2.2.1,(r57.2.1,())))
 (cond (decide (r1.1 = 9))
 (Option.bind (g72 x51.2.1) fun r58 =>
 some (Request.mk x51.2.2.2.1.1 x51.2.2.2.1.2.1 x51.2.2.2.1.2.2.1 x51.2.2.2.1.2.2.2.1 r58.1 x51.2.2.2.1.2.2.2.2.2.1 (Res.mk x51.2.2.2.1.2.2.2.2.2.2.1 x51.2.2.2.1.2.2.2.2.2.2.2.1 x51.2.2.2.1.2.2.2.2.2.2.2.2.1 x51.2.2.2.1.2.2.2.2.2.2.2.2.2.1) x51.2.2.2.1.2.2.2.2.2.2.2.2.2.2.1 x51.2.2.2.1.2.2.2.2.2.2.2.2.2.2.2.1 [] x51.2.2.2.1.2.2.2.2.2.2.2.2.2.2.2.2.2.1 x51.2.2.2.1.2.2.2.2.2.2.2.2.2.2.2.2.2.2.1 x51.2.2.2.1.2.2.2.2.2.2.2.2.2.2.2.2.2.2.2.1 x51.2.2.2.1.2.2.2.2.2.2.2.2.2.2.2.2.2.2.2.2.1,(r58.2.1,())))
 (cond (decide (r1.1 = 11))
 (Option.bind (g72 x51.2.1) fun r59 =>
 Option.bind (g72 r59.2.1) fun r60 =>
 Option.bind (g72 r60.2.1) fun r61 =>
 some (Request.mk x51.2.2.2.1.1 x51.2.2.2.1.2.1 x51.2.2.2.1.2.2.1 x51.2.2.2.1.2.2.2.1 x51.2.2.2.1.2.2.2.2.1 x51.2.2.2.1.2.2.2.2.2.1 (Res.mk x51.2.2.2.1.2.2.2.2.2.2.1 x51.2.2.2.1.2.2.2.2.2.2.2.1 x51.2.2.2.1.2.2.2.2.2.2.2.2.1 x51.2.2.2.1.2.2.2.2.2.2.2.2.2.1) x51.2.2.2.1.2.2.2.2.2.2.2.2.2.2.1 x51.2.2.2.1.2.2.2.2.2.2.2.2.2.2.2.1 [] r59.1 r60.1 r61.1 x51.2.2.2.1.2.2.2.2.2.2.2.2.2.2.2.2.2.2.2.2.1,(r61.2.1,())))
 (cond (decide (r1.1 = 12))
 (Option.bind (g72 x51.2.1) fun r62 =>
 some (Request.mk x51.2.2.2.1.1 x51.2.2.2.1.2.1 x51.2.2.2.1.2.2.1 x51.2.2.2.1.2.2.2.1 x51.2.2.2.1.2.2.2.2.1 x51.2.2.2.1.2.2.2.2.2.1 (Res.mk x51.2.2.2.1.2.2.2.2.2.2.1 x51.2.2.2.1.2.2.2.2.2.2.2.1 x51.2.2.2.1.2.2.2.2.2.2.2.2.1 x51.2.2.2.1.2.2.2.2.2.2.2.2.2.1) x51.2.2.2.1.2.2.2.2.2.2.2.2.2.2.1 x51.2.2.2.1.2.2.2.2.2.2.2.2.2.2.2.1 [] x51.2.2.2.1.2.2.2.2.2.2.2.2.2.2.2.2.2.1 x51.2.2.2.1.2.2.2.2.2.2.2.2.2.2.2.2.2.2.1 x51.2.2.2.1.2.2.2.2.2.2.2.2.2.2.2.2.2.2.2.1 r62.1,(r62.2.1,())))
 (some (Request.mk x51.2.2.2.1.1 x51.2.2.2.1.2.1 x51.2.2.2.1.2.2.1 x51.2.2.2.1.2.2.2.1 x51.2.2.2.1.2.2.2.2.1 x51.2.2.2.1.2.2.2.2.2.1 (Res.mk x51.2.2.2.1.2.2.2.2.2.2.1 x51.2.2.2.1.2.2.2.2.2.2.2.1 x51.2.2.2.1.2.2.2.2.2.2.2.2.1 x51.2.2.2.1.2.2.2.2.2.2.2.2.2.1) x51.2.2.2.1.2.2.2.2.2.2.2.2.2.2.1 x51.2.2.2.1.2.2.2.2.2.2.2.2.2.2.2.1 [] x51.2.2.2.1.2.2.2.2.2.2.2.2.2.2.2.2.2.1 x51.2.2.2.1.2.2.2.2.2.2.2.2.2.2.2.2.2.2.1 x51.2.2.2.1.2.2.2.2.2.2.2.2.2.2.2.2.2.2.2.1 x51.2.2.2.1.2.2.2.2.2.2.2.2.2.2.2.2.2.2.2.2.1,(x51.2.1,()))))))))))
theorem e73 (L : Lp) (g105 : ((List (List UInt8)) × Bool) → Option (Int × (((List (List UInt8)) × Bool) × Unit))) (g72 : ((List (List UInt8)) × Bool) → Option (Int × (((List (List UInt8)) × Bool) × Unit))) (g106 : ((List (List UInt8)) × Bool) → Option (Res × (((List (List UInt8)) × Bool) × Unit))) (g107 : ((List (List UInt8)) × Bool) → Option (Int × (((List (List UInt8)) × Bool) × Unit))) (g75 : ((List (List UInt8)) × Bool) → Option (Bool × (((List (List UInt8)) × Bool) × Unit))) (g108 : ((List (List UInt8)) × Bool) → Option (Dep × (((List (List UInt8)) × Bool) × Unit))) (x : s73.args.den) (h : denH s73.heap) : nrun [⟨105,s105,fun x h => g105 h.1⟩,⟨72,s72,fun x h => g72 h.1⟩,⟨106,s106,fun x h => g106 h.1⟩,⟨107,s107,fun x h => g107 h.1⟩,⟨75,s75,fun x h => g75 h.1⟩,⟨108,s108,fun x h => g108 h.1⟩] L n73 s73 x h = F73 L g105 g72 g106 g107 g75 g108 h.1 := by kernel_rfl
def f73 : ((List (List UInt8)) × Bool) → Option (Request × (((List (List UInt8)) × Bool) × Unit)) := F73 (@LN LOOPS) f105 f72 f106 f107 f75 f108
@[reducible] def t73 : Ent := ⟨73,s73,fun x h => f73 h.1⟩
theorem k73 : chkNF Tryz.prog Tryz.f73 n73 = true := by kernel_rfl
theorem ok73 : NOk Tryz.prog t73 := NOk.body (T := [t105,t72,t106,t107,t75,t108]) mixed (nall_cons ok105 (nall_cons ok72 (nall_cons ok106 (nall_cons ok107 (nall_cons ok75 (nall_cons ok108 nall_nil)))))) (oneEach_of (by kernel_rfl)) Tryz.func73 k73 (by kernel_rfl) (fun x h => e73 _ _ _ _ _ _ _ x h)
def s109 : Sig := ⟨(.cons (.v .str) (.cons (.v (.int .u8)) .nil)),[],((.v (.int .i64)),[]),[]⟩
def f109 : (List UInt8) → Int → Option Int := idxByteF
@[reducible] def t109 : Ent := ⟨109,s109,fun x h => f109 x.1 x.2.1⟩
theorem ok109 : NOk Tryz.prog t109 := ext109
def n74 : NFunc := ⟨55,.seq (.region 0 [
 o1 2 (.move (.const (.zsl))) 0] []) (.seq (.region 4 [
 oM 8 0 0,
 o1 9 (.call (fc 76) [(vw 8)] false 4) 0,
 oM 3 9 4] []) (.seq (.seq (.region 0 [
 oM 10 3 0,
 o1 11 (.lenStr (tm 10)) 0,
 oC 12 .rem 11 2 0,
 oC 13 .neq 12 0 0,
 oM 14 13 0,
 oN 15 3 14 0,
 o2 16 (.lenStr (tm 15)) 14 0,
 o2 17 (.bin .gtr (tm 16) (ki 960)) 14 0,
 o1 18 (.pick (tm 14) kt (tm 17)) 0] []) (.cond (tm 18) (.seq (.region 0 [
 oM 19 0 0,
 o1 20 (.nilCheck (tm 19)) 0,
 oF 21 1 20 0,
 ⟨none,.store 1 (tm 21) kt,none,0,none⟩] []) (.seq (.region 0 [
 o1 2 (.move (.const (.zsl))) 0] []) (.ret))) (.skip))) (.seq (.region 0 [
 o1 4 (.move (.const (.zsl))) 0] []) (.seq (.seq (.region 0 [
 o1 5 (.move (ki 0)) 0] []) (.block 0 (.pre [0,3,4,5] [.mat 4 1 true] (.loop [0,3,4,5] ⟨[(0,(.ptr 0 0 0)),(4,(.slw 1 1)),(5,vI)],[3],[.one false (.pair (.list .str) .bool),.typed (.int .u8)]⟩ (.seq (.seq (.region 0 [
 oM 22 5 0,
 oM 23 3 0,
 o1 24 (.lenStr (tm 23)) 0,
 oB 25 .lss 22 24 0] []) (.cond (tm 25) (.skip) (.exit 0))) (.seq (.block 1 (.seq (.region 8 [
 o4 28 (.move (tm 3)) 0 [],
 o4 29 (.move (tm 5)) 0 [],
 o4 30 (.indexStr (tm 28) (tm 29)) 0 [],
 o4 31 (.call (fc 109) [(false,(.const (.str [48,49,50,51,52,53,54,55,56,57,97,98,99,100,101,102]))),(vv 30)] false 4) 0 [],
 o4 32 (.move (tm 3)) 4 [],
 o4 33 (.move (tm 5)) 4 [],
 o4 34 (.bin .add (tm 33) (ki 1)) 4 [],
 o4 35 (.indexStr (tm 32) (tm 34)) 4 [],
 o4 36 (.call (fc 109) [(false,(.const (.str [48,49,50,51,52,53,54,55,56,57,97,98,99,100,101,102]))),(vv 35)] false 4) 4 [0,1,2,3],
 o4 6 (.move (tm 31)) 8 [0,1,2,3,4,5,6,7],
 o4 7 (.move (tm 36)) 8 [0,1,2,3,4,5,6,7]] []) (.seq (.seq (.region 0 [
 oM 37 6 0,
 oC 38 .lss 37 0 0,
 oM 39 38 0,
 oN 40 7 39 0,
 o2 41 (.bin .lss (tm 40) (ki 0)) 39 0,
 o1 42 (.pick (tm 39) kt (tm 41)) 0] []) (.cond (tm 42) (.seq (.region 0 [
 oM 43 0 0,
 o1 44 (.nilCheck (tm 43)) 0,
 oF 45 1 44 0,
 ⟨none,.store 1 (tm 45) kt,none,0,none⟩] []) (.seq (.region 0 [
 o1 2 (.move (.const (.zsl))) 0] []) (.ret))) (.skip))) (.region 2 [
 oM 46 4 0,
 oM 47 6 0,
 o1 48 (.bin .mul (ki 16) (tm 47)) 0,
 oM 49 7 0,
 oB 50 .add 48 49 0,
 o1 51 (.conv .u8 (tm 50)) 0,
 o1 52 (.buildSlice 1 1 true [.int .u8 (0)] [(0,(tm 51))]) 0,
 o1 53 (.append 1 1 true (tm 46) (tm 52)) 1,
 oM 4 53 2] [])))) (.region 0 [
 oM 26 5 0,
 oC 27 .add 26 2 0,
 oM 5 27 0] []))))))) (.seq (.region 0 [
 oM 54 4 0,
 oM 2 54 0] []) (.ret)))))),[.tmp 2],true⟩
def s74 : Sig := ⟨(.cons (.ptr 0 0 0) .nil),[.one false (.pair (.list .str) .bool)],((.v (.list (.int .u8))),[.one false (.pair (.list .str) .bool)]),[]⟩
def l74_0 (g109 : (List UInt8) → Int → Option Int) (r1 : ((List UInt8) × (((List (List UInt8)) × Bool) × Unit))) (nx3 : ((Unit × (Unit × (Int × Unit))) × (((List (List UInt8)) × Bool) × ((List Int) × Unit))) → Option ((List Int) × (((List (List UInt8)) × Bool) × Unit))) (i4 : Int) (z5 : ((List (List UInt8)) × Bool)) (z6 : (List Int)) : Option ((List Int) × (((List (List UInt8)) × Bool) × Unit)) :=
 cond (decide (i4 < (List.length r1.1 : Int)))
 (cond (decide (0 ≤ i4))
 (Option.bind (r1.1[Int.toNat i4]?) fun c7 =>
 Option.bind (g109 ([48,49,50,51,52,53,54,55,56,57,97,98,99,100,101,102] : List UInt8) (c7.toNat : Int)) fun r8 =>
 cond (decide (0 ≤ (IntKind.wrap .i64 (i4 + 1))))
 (Option.bind (r1.1[Int.toNat (IntKind.wrap .i64 (i4 + 1))]?) fun c9 =>
 Option.bind (g109 ([48,49,50,51,52,53,54,55,56,57,97,98,99,100,101,102] : List UInt8) (c9.toNat : Int)) fun r10 =>
 cond (decide (r8 < 0))
 (some ([],((z5.1,true),())))
 (cond (decide (r10 < 0))
 (some ([],((z5.1,true),())))
 (cond (smallB ((List.length z6) + 1) 1)
 (nx3 (((),(),IntKind.wrap .i64 (i4 + 2),()),(z5,z6 ++ [IntKind.wrap .u8 (IntKind.wrap .i64 ((IntKind.wrap .i64 (16 * r8)) + r10))],())))
 (none))))
 (none))
 (none))
 (some (z6,(z5,())))
def F74 (L : Lp) (g76 : ((List (List UInt8)) × Bool) → Option ((List UInt8) × (((List (List UInt8)) × Bool) × Unit))) (g109 : (List UInt8) → Int → Option Int) (a0 : ((List (List UInt8)) × Bool)) : Option ((List Int) × (((List (List UInt8)) × Bool) × Unit)) :=
 Option.bind (g76 a0) fun r1 =>
 cond (!decide ((Int.tmod (List.length r1.1 : Int) 2) = 0))
 (some ([],((r1.2.1.1,true),())))
 (cond (decide (960 < (List.length r1.1 : Int)))
 (some ([],((r1.2.1.1,true),())))
 (L (fun (s2 : ((Unit × (Unit × (Int × Unit))) × (((List (List UInt8)) × Bool) × ((List Int) × Unit)))) nx3 => l74_0 g109 r1 nx3 s2.1.2.2.1 s2.2.1 s2.2.2.1) (((),(),0,()),(r1.2.1,[],()))))
theorem e74 (L : Lp) (g76 : ((List (List UInt8)) × Bool) → Option ((List UInt8) × (((List (List UInt8)) × Bool) × Unit))) (g109 : (List UInt8) → Int → Option Int) (x : s74.args.den) (h : denH s74.heap) : nrun [⟨76,s76,fun x h => g76 h.1⟩,⟨109,s109,fun x h => g109 x.1 x.2.1⟩] L n74 s74 x h = F74 L g76 g109 h.1 := by kernel_rfl
def f74 : ((List (List UInt8)) × Bool) → Option ((List Int) × (((List (List UInt8)) × Bool) × Unit)) := F74 (@LN LOOPS) f76 f109
@[reducible] def t74 : Ent := ⟨74,s74,fun x h => f74 h.1⟩
theorem k74 : chkNF Tryz.prog Tryz.f74 n74 = true := by kernel_rfl
theorem ok74 : NOk Tryz.prog t74 := NOk.body (T := [t76,t109]) mixed (nall_cons ok76 (nall_cons ok109 nall_nil)) (oneEach_of (by kernel_rfl)) Tryz.func74 k74 (by kernel_rfl) (fun x h => e74 _ _ _ x h)
def n37 : NFunc := ⟨59,.seq (.region 1 [
 o1 2 (.alloc [iz,iz,iz,iz,iz,iz,iz,iz,iz,iz,iz,iz,iz,iz,.zsl,iz,iz,iz,iz,.zsl,iz,.bool false,iz,.bool false]) 0] []) (.seq (.region 5 [
 oM 4 0 0,
 o1 5 (.call (fc 71) [(vw 4)] false 4) 0,
 o1 6 (.build [iz,iz,iz,iz,iz,iz,iz,iz,iz,iz,iz,iz,iz,iz,.zsl,iz,iz,iz,iz,.zsl,iz,.bool false,iz,.bool false] [(0,1,(tm 5))]) 4,
 o1 3 (.alloc [iz,iz,iz,iz,iz,iz,iz,iz,iz,iz,iz,iz,iz,iz,.zsl,iz,iz,iz,iz,.zsl,iz,.bool false,iz,.bool false]) 4,
 oS 24 3 6 5] []) (.seq (.meet [2,3] [] ⟨[(2,(.ptr 1 0 0)),(3,(.ptr 2 0 0))],[],[.one false (.pair (.list .str) .bool),.cell false (.cons vI (.cons vI (.cons vI (.cons vI (.cons vI (.cons vI (.cons vI (.cons vI (.cons vI (.cons vI (.cons vI (.cons vI (.cons vI (.cons vI (.cons .zsl (.cons vI (.cons vI (.cons vI (.cons vI (.cons .zsl (.cons vI (.cons (.v .bool) (.cons vI (.cons (.v .bool) .nil)))))))))))))))))))))))),.cell false (.cons vI (.cons vI (.cons vI (.cons vI (.cons vI (.cons vI (.cons vI (.cons vI (.cons vI (.cons vI (.cons vI (.cons vI (.cons vI (.cons vI (.cons (.v (.list .dep)) (.cons vI (.cons vI (.cons vI (.cons vI (.cons (.v (.list (.int .u8))) (.cons vI (.cons (.v .bool) (.cons vI (.cons (.v .bool) .nil))))))))))))))))))))))))]⟩ (.seq (.region 0 [
 oF 7 0 3 0,
 oL 8 7 0] []) (.block 0 (.seq (.region 0 [
 oC 10 .eql 8 1 0,
 oM 9 10 0] []) (.cond (tm 9) (.seq (.region 4 [
 oM 11 0 0,
 o1 12 (.call (fc 72) [(vw 11)] false 4) 0,
 oF 13 1 3 4,
 oS 1 13 12 4] []) (.region 4 [
 oM 14 0 0,
 o1 15 (.call (fc 73) [(vw 14)] false 4) 0,
 oF 16 2 3 4,
 oS 17 16 15 4] [])) (.seq (.region 0 [
 oC 18 .eql 8 2 0,
 oM 17 18 0] []) (.cond (tm 17) (.seq (.region 4 [
 oM 19 0 0,
 o1 20 (.call (fc 72) [(vw 19)] false 4) 0,
 oF 21 1 3 4,
 oS 1 21 20 4] []) (.region 4 [
 oM 22 0 0,
 o1 23 (.call (fc 74) [(vw 22)] false 4) 0,
 oF 24 19 3 4,
 oS 1 24 23 4] [])) (.seq (.meet [2,3,0,8,25] [] ⟨[(0,(.ptr 0 0 0)),(2,(.ptr 1 0 0)),(3,(.ptr 2 0 0)),(25,(.v .bool))],[8],[.one false (.pair (.list .str) .bool),.cell false (.cons vI (.cons vI (.cons vI (.cons vI (.cons vI (.cons vI (.cons vI (.cons vI (.cons vI (.cons vI (.cons vI (.cons vI (.cons vI (.cons vI (.cons .zsl (.cons vI (.cons vI (.cons vI (.cons vI (.cons .zsl (.cons vI (.cons (.v .bool) (.cons vI (.cons (.v .bool) .nil)))))))))))))))))))))))),.cell false (.cons vI (.cons vI (.cons vI (.cons vI (.cons vI (.cons vI (.cons vI (.cons vI (.cons vI (.cons vI (.cons vI (.cons vI (.cons vI (.cons vI (.cons .zsl (.cons vI (.cons vI (.cons vI (.cons vI (.cons .zsl (.cons vI (.cons (.v .bool) (.cons vI (.cons (.v .bool) .nil))))))))))))))))))))))))]⟩ (.seq (.region 0 [
 oC 26 .eql 8 3 0,
 oM 25 26 0] []) (.cond (tm 25) (.skip) (.region 0 [
 oC 27 .eql 8 9 0,
 oM 25 27 0] [])))) (.cond (tm 25) (.seq (.region 8 [
 oM 28 0 0,
 o1 29 (.call (fc 72) [(vw 28)] false 4) 0,
 oM 30 0 4,
 o1 31 (.call (fc 72) [(vw 30)] false 4) 4,
 oF 32 1 3 8,
 oS 1 32 29 8,
 oF 33 20 3 8,
 oS 1 33 31 8] []) (.seq (.region 4 [
 oM 34 0 0,
 o1 35 (.call (fc 75) [(vw 34)] false 4) 0] []) (.cond (tm 35) (.region 4 [
 oM 36 0 0,
 o1 37 (.call (fc 76) [(vw 36)] false 4) 0,
 o1 38 (.bin .eql (tm 37) (.const (.str [107,101,101,112]))) 4,
 oF 39 21 3 4,
 oS 1 39 38 4] []) (.skip)))) (.seq (.meet [2,3,0,8,40] [] ⟨[(0,(.ptr 0 0 0)),(2,(.ptr 1 0 0)),(3,(.ptr 2 0 0)),(40,(.v .bool))],[8],[.one false (.pair (.list .str) .bool),.cell false (.cons vI (.cons vI (.cons vI (.cons vI (.cons vI (.cons vI (.cons vI (.cons vI (.cons vI (.cons vI (.cons vI (.cons vI (.cons vI (.cons vI (.cons .zsl (.cons vI (.cons vI (.cons vI (.cons vI (.cons .zsl (.cons vI (.cons (.v .bool) (.cons vI (.cons (.v .bool) .nil)))))))))))))))))))))))),.cell false (.cons vI (.cons vI (.cons vI (.cons vI (.cons vI (.cons vI (.cons vI (.cons vI (.cons vI (.cons vI (.cons vI (.cons vI (.cons vI (.cons vI (.cons .zsl (.cons vI (.cons vI (.cons vI (.cons vI (.cons .zsl (.cons vI (.cons (.v .bool) (.cons vI (.cons (.v .bool) .nil))))))))))))))))))))))))]⟩ (.seq (.region 0 [
 oC 41 .eql 8 4 0,
 oM 40 41 0] []) (.cond (tm 40) (.skip) (.region 0 [
 oC 42 .eql 8 10 0,
 oM 40 42 0] [])))) (.cond (tm 40) (.region 8 [
 oM 43 0 0,
 o1 44 (.call (fc 72) [(vw 43)] false 4) 0,
 oM 45 0 4,
 o1 46 (.call (fc 72) [(vw 45)] false 4) 4,
 oF 47 1 3 8,
 oS 1 47 44 8,
 oF 48 20 3 8,
 oS 1 48 46 8] []) (.seq (.region 0 [
 oC 50 .eql 8 8 0,
 oM 49 50 0] []) (.cond (tm 49) (.seq (.region 4 [
 oM 51 0 0,
 o1 52 (.call (fc 72) [(vw 51)] false 4) 0,
 oF 53 22 3 4,
 oS 1 53 52 4] []) (.region 4 [
 oM 54 0 0,
 o1 55 (.call (fc 76) [(vw 54)] false 4) 0,
 o1 56 (.bin .eql (tm 55) (.const (.str [111,107]))) 4,
 oF 57 23 3 4,
 oS 1 57 56 4] [])) (.skip)))))))))))))) (.seq (.region 0 [
 oT 58 24 3 0,
 oS 24 2 58 0] []) (.ret)))),[.cell true 24 2],true⟩
def s37 : Sig := ⟨(.cons (.ptr 0 0 0) .nil),[.one false (.pair (.list .str) .bool)],((.v (.pair (.int .i64) (.pair (.int .i64) (.pair .request (.pair (.list (.int .u8)) (.pair (.int .i64) (.pair .bool (.pair (.int .i64) .bool)))))))),[.one false (.pair (.list .str) .bool)]),[]⟩
def F37 (L : Lp) (g71 : ((List (List UInt8)) × Bool) → Option (Int × (((List (List UInt8)) × Bool) × Unit))) (g72 : ((List (List UInt8)) × Bool) → Option (Int × (((List (List UInt8)) × Bool) × Unit))) (g73 : ((List (List UInt8)) × Bool) → Option (Request × (((List (List UInt8)) × Bool) × Unit))) (g74 : ((List (List UInt8)) × Bool) → Option ((List Int) × (((List (List UInt8)) × Bool) × Unit))) (g75 : ((List (List UInt8)) × Bool) → Option (Bool × (((List (List UInt8)) × Bool) × Unit))) (g76 : ((List (List UInt8)) × Bool) → Option ((List UInt8) × (((List (List UInt8)) × Bool) × Unit))) (a0 : ((List (List UInt8)) × Bool)) : Option ((Int × (Int × (Request × ((List Int) × (Int × (Bool × (Int × Bool))))))) × (((List (List UInt8)) × Bool) × Unit)) :=
 Option.bind (g71 a0) fun r1 =>
 Option.bind (α := ((Unit × (Unit × Unit)) × (((List (List UInt8)) × Bool) × ((Int × (Int × (Int × (Int × (Int × (Int × (Int × (Int × (Int × (Int × (Int × (Int × (Int × (Int × (Unit × (Int × (Int × (Int × (Int × (Unit × (Int × (Bool × (Int × (Bool × Unit)))))))))))))))))))))))) × ((Int × (Int × (Int × (Int × (Int × (Int × (Int × (Int × (Int × (Int × (Int × (Int × (Int × (Int × ((List Dep) × (Int × (Int × (Int × (Int × ((List Int) × (Int × (Bool × (Int × (Bool × Unit)))))))))))))))))))))))) × Unit)))))
 (cond (decide (r1.1 = 1))
 (Option.bind (g72 r1.2.1) fun r2 =>
 Option.bind (g73 r2.2.1) fun r3 =>
 some (((),(),()),(r3.2.1,(0,0,0,0,0,0,0,0,0,0,0,0,0,0,(),0,0,0,0,(),0,false,0,false,()),(r1.1,r2.1,r3.1.kind,r3.1.key,r3.1.job,r3.1.version,r3.1.queue,r3.1.many,r3.1.need.cpu,r3.1.need.mem,r3.1.need.gpu,r3.1.need.lic,r3.1.wall,r3.1.tasks,r3.1.after,r3.1.node,r3.1.fro,r3.1.to,r3.1.id,[],0,false,0,false,()),())))
 (cond (decide (r1.1 = 2))
 (Option.bind (g72 r1.2.1) fun r4 =>
 Option.bind (g74 r4.2.1) fun r5 =>
 some (((),(),()),(r5.2.1,(0,0,0,0,0,0,0,0,0,0,0,0,0,0,(),0,0,0,0,(),0,false,0,false,()),(r1.1,r4.1,0,0,0,0,0,0,0,0,0,0,0,0,[],0,0,0,0,r5.1,0,false,0,false,()),())))
 (Option.bind (α := ((Unit × (Unit × (Unit × (Bool × Unit)))) × (((List (List UInt8)) × Bool) × ((Int × (Int × (Int × (Int × (Int × (Int × (Int × (Int × (Int × (Int × (Int × (Int × (Int × (Int × (Unit × (Int × (Int × (Int × (Int × (Unit × (Int × (Bool × (Int × (Bool × Unit)))))))))))))))))))))))) × ((Int × (Int × (Int × (Int × (Int × (Int × (Int × (Int × (Int × (Int × (Int × (Int × (Int × (Int × (Unit × (Int × (Int × (Int × (Int × (Unit × (Int × (Bool × (Int × (Bool × Unit)))))))))))))))))))))))) × Unit)))))
 (cond (decide (r1.1 = 3))
 (some (((),(),(),true,()),(r1.2.1,(0,0,0,0,0,0,0,0,0,0,0,0,0,0,(),0,0,0,0,(),0,false,0,false,()),(r1.1,0,0,0,0,0,0,0,0,0,0,0,0,0,(),0,0,0,0,(),0,false,0,false,()),())))
 (some (((),(),(),decide (r1.1 = 9),()),(r1.2.1,(0,0,0,0,0,0,0,0,0,0,0,0,0,0,(),0,0,0,0,(),0,false,0,false,()),(r1.1,0,0,0,0,0,0,0,0,0,0,0,0,0,(),0,0,0,0,(),0,false,0,false,()),())))) fun x6 =>
 cond x6.1.2.2.2.1
 (Option.bind (g72 x6.2.1) fun r7 =>
 Option.bind (g72 r7.2.1) fun r8 =>
 Option.bind (g75 r8.2.1) fun r9 =>
 cond r9.1
 (Option.bind (g76 r9.2.1) fun r10 =>
 some (((),(),()),(r10.2.1,(x6.2.2.1.1,x6.2.2.1.2.1,x6.2.2.1.2.2.1,x6.2.2.1.2.2.2.1,x6.2.2.1.2.2.2.2.1,x6.2.2.1.2.2.2.2.2.1,x6.2.2.1.2.2.2.2.2.2.1,x6.2.2.1.2.2.2.2.2.2.2.1,x6.2.2.1.2.2.2.2.2.2.2.2.1,x6.2.2.1.2.2.2.2.2.2.2.2.2.1,x6.2.2.1.2.2.2.2.2.2.2.2.2.2.1,x6.2.2.1.2.2.2.2.2.2.2.2.2.2.2.1,x6.2.2.1.2.2.2.2.2.2.2.2.2.2.2.2.1,x6.2.2.1.2.2.2.2.2.2.2.2.2.2.2.2.2.1,(),x6.2.2.1.2.2.2.2.2.2.2.2.2.2.2.2.2.2.2.1,x6.2.2.1.2.2.2.2.2.2.2.2.2.2.2.2.2.2.2.2.1,x6.2.2.1.2.2.2.2.2.2.2.2.2.2.2.2.2.2.2.2.2.1,x6.2.2.1.2.2.2.2.2.2.2.2.2.2.2.2.2.2.2.2.2.2.1,(),x6.2.2.1.2.2.2.2.2.2.2.2.2.2.2.2.2.2.2.2.2.2.2.2.1,x6.2.2.1.2.2.2.2.2.2.2.2.2.2.2.2.2.2.2.2.2.2.2.2.2.1,x6.2.2.1.2.2.2.2.2.2.2.2.2.2.2.2.2.2.2.2.2.2.2.2.2.2.1,x6.2.2.1.2.2.2.2.2.2.2.2.2.2.2.2.2.2.2.2.2.2.2.2.2.2.2.1,()),(x6.2.2.2.1.1,r7.1,x6.2.2.2.1.2.2.1,x6.2.2.2.1.2.2.2.1,x6.2.2.2.1.2.2.2.2.1,x6.2.2.2.1.2.2.2.2.2.1,x6.2.2.2.1.2.2.2.2.2.2.1,x6.2.2.2.1.2.2.2.2.2.2.2.1,x6.2.2.2.1.2.2.2.2.2.2.2.2.1,x6.2.2.2.1.2.2.2.2.2.2.2.2.2.1,x6.2.2.2.1.2.2.2.2.2.2.2.2.2.2.1,x6.2.2.2.1.2.2.2.2.2.2.2.2.2.2.2.1,x6.2.2.2.1.2.2.2.2.2.2.2.2.2.2.2.2.1,x6.2.2.2.1.2.2.2.2.2.2.2.2.2.2.2.2.2.1,[],x6.2.2.2.1.2.2.2.2.2.2.2.2.2.2.2.2.2.2.2.1,x6.2.2.2.1.2.2.2.2.2.2.2.2.2.2.2.2.2.2.2.2.1,x6.2.2.2.1.2.2.2.2.2.2.2.2.2.2.2.2.2.2.2.2.2.1,x6.2.2.2.1.2.2.2.2.2.2.2.2.2.2.2.2.2.2.2.2.2.2.1,[],r8.1,decide (r10.1 = ([107,101,101,112] : List UInt8)),x6.2.2.2.1.2.2.2.2.2.2.2.2.2.2.2.2.2.2.2.2.2.2.2.2.2.2.1,x6.2.2.2.1.2.2.2.2.2.2.2.2.2.2.2.2.2.2.2.2.2.2.2.2.2.2.2.1,()),())))
 (some (((),(),()),(r9.2.1,(x6.2.2.1.1,x6.2.2.1.2.1,x6.2.2.1.2.2.1,x6.2.2.1.2.2.2.1,x6.2.2.1.2.2.2.2.1,x6.2.2.1.2.2.2.2.2.1,x6.2.2.1.2.2.2.2.2.2.1,x6.2.2.1.2.2.2.2.2.2.2.1,x6.2.2.1.2.2.2.2.2.2.2.2.1,x6.2.2.1.2.2.2.2.2.2.2.2.2.1,x6.2.2.1.2.2.2.2.2.2.2.2.2.2.1,x6.2.2.1.2.2.2.2.2.2.2.2.2.2.2.1,x6.2.2.1.2.2.2.2.2.2.2.2.2.2.2.2.1,x6.2.2.1.2.2.2.2.2.2.2.2.2.2.2.2.2.1,(),x6.2.2.1.2.2.2.2.2.2.2.2.2.2.2.2.2.2.2.1,x6.2.2.1.2.2.2.2.2.2.2.2.2.2.2.2.2.2.2.2.1,x6.2.2.1.2.2.2.2.2.2.2.2.2.2.2.2.2.2.2.2.2.1,x6.2.2.1.2.2.2.2.2.2.2.2.2.2.2.2.2.2.2.2.2.2.1,(),x6.2.2.1.2.2.2.2.2.2.2.2.2.2.2.2.2.2.2.2.2.2.2.2.1,x6.2.2.1.2.2.2.2.2.2.2.2.2.2.2.2.2.2.2.2.2.2.2.2.2.1,x6.2.2.1.2.2.2.2.2.2.2.2.2.2.2.2.2.2.2.2.2.2.2.2.2.2.1,x6.2.2.1.2.2.2.2.2.2.2.2.2.2.2.2.2.2.2.2.2.2.2.2.2.2.2.1,()),(x6.2.2.2.1.1,r7.1,x6.2.2.2.1.2.2.1,x6.2.2.2.1.2.2.2.1,x6.2.2.2.1.2.2.2.2.1,x6.2.2.2.1.2.2.2.2.2.1,x6.2.2.2.1.2.2.2.2.2.2.1,x6.2.2.2.1.2.2.2.2.2.2.2.1,x6.2.2.2.1.2.2.2.2.2.2.2.2.1,x6.2.2.2.1.2.2.2.2.2.2.2.2.2.1,x6.2.2.2.1.2.2.2.2.2.2.2.2.2.2.1,x6.2.2.2.1.2.2.2.2.2.2.2.2.2.2.2.1,x6.2.2.2.1.2.2.2.2.2.2.2.2.2.2.2.2.1,x6.2.2.2.1.2.2.2.2.2.2.2.2.2.2.2.2.2.1,[],x6.2.2.2.1.2.2.2.2.2.2.2.2.2.2.2.2.2.2.2.1,x6.2.2.2.1.2.2.2.2.2.2.2.2.2.2.2.2.2.2.2.2.1,x6.2.2.2.1.2.2.2.2.2.2.2.2.2.2.2.2.2.2.2.2.2.1,x6.2.2.2.1.2.2.2.2.2.2.2.2.2.2.2.2.2.2.2.2.2.2.1,[],r8.1,x6.2.2.2.1.2.2.2.2.2.2.2.2.2.2.2.2.2.2.2.2.2.2.2.2.2.1,x6.2.2.2.1.2.2.2.2.2.2.2.2.2.2.2.2.2.2.2.2.2.2.2.2.2.2.1,x6.2.2.2.1.2.2.2.2.2.2.2.2.2.2.2.2.2.2.2.2.2.2.2.2.2.2.2.1,()),()))))
 (Option.bind (α := ((Unit × (Unit × (Unit × (Bool × Unit)))) × (((List (List UInt8)) × Bool) × ((Int × (Int × (Int × (Int × (Int × (Int × (Int × (Int × (Int × (Int × (Int × (Int × (Int × (Int × (Unit × (Int × (Int × (Int × (Int × (Unit × (Int × (Bool × (Int × (Bool × Unit)))))))))))))))))))))))) × ((Int × (Int × (Int × (Int × (Int × (Int × (Int × (Int × (Int × (Int × (Int × (Int × (Int × (Int × (Unit × (Int × (Int × (Int × (Int × (Unit × (Int × (Bool × (Int × (Bool × Unit)))))))))))))))))))))))) × Unit)))))
 (cond (decide (r1.1 = 4))
 (some (((),(),(),true,()),(x6.2.1,(x6.2.2.1.1,x6.2.2.1.2.1,x6.2.2.1.2.2.1,x6.2.2.1.2.2.2.1,x6.2.2.1.2.2.2.2.1,x6.2.2.1.2.2.2.2.2.1,x6.2.2.1.2.2.2.2.2.2.1,x6.2.2.1.2.2.2.2.2.2.2.1,x6.2.2.1.2.2.2.2.2.2.2.2.1,x6.2.2.1.2.2.2.2.2.2.2.2.2.1,x6.2.2.1.2.2.2.2.2.2.2.2.2.2.1,x6.2.2.1.2.2.2.2.2.2.2.2.2.2.2.1,x6.2.2.1.2.2.2.2.2.2.2.2.2.2.2.2.1,x6.2.2.1.2.2.2.2.2.2.2.2.2.2.2.2.2.1,(),x6.2.2.1.2.2.2.2.2.2.2.2.2.2.2.2.2.2.2.1,x6.2.2.1.2.2.2.2.2.2.2.2.2.2.2.2.2.2.2.2.1,x6.2.2.1.2.2.2.2.2.2.2.2.2.2.2.2.2.2.2.2.2.1,x6.2.2.1.2.2.2.2.2.2.2.2.2.2.2.2.2.2.2.2.2.2.1,(),x6.2.2.1.2.2.2.2.2.2.2.2.2.2.2.2.2.2.2.2.2.2.2.2.1,x6.2.2.1.2.2.2.2.2.2.2.2.2.2.2.2.2.2.2.2.2.2.2.2.2.1,x6.2.2.1.2.2.2.2.2.2.2.2.2.2.2.2.2.2.2.2.2.2.2.2.2.2.1,x6.2.2.1.2.2.2.2.2.2.2.2.2.2.2.2.2.2.2.2.2.2.2.2.2.2.2.1,()),(x6.2.2.2.1.1,x6.2.2.2.1.2.1,x6.2.2.2.1.2.2.1,x6.2.2.2.1.2.2.2.1,x6.2.2.2.1.2.2.2.2.1,x6.2.2.2.1.2.2.2.2.2.1,x6.2.2.2.1.2.2.2.2.2.2.1,x6.2.2.2.1.2.2.2.2.2.2.2.1,x6.2.2.2.1.2.2.2.2.2.2.2.2.1,x6.2.2.2.1.2.2.2.2.2.2.2.2.2.1,x6.2.2.2.1.2.2.2.2.2.2.2.2.2.2.1,x6.2.2.2.1.2.2.2.2.2.2.2.2.2.2.2.1,x6.2.2.2.1.2.2.2.2.2.2.2.2.2.2.2.2.1,x6.2.2.2.1.2.2.2.2.2.2.2.2.2.2.2.2.2.1,(),x6.2.2.2.1.2.2.2.2.2.2.2.2.2.2.2.2.2.2.2.1,x6.2.2.2.1.2.2.2.2.2.2.2.2.2.2.2.2.2.2.2.2.1,x6.2.2.2.1.2.2.2.2.2.2.2.2.2.2.2.2.2.2.2.2.2.1,x6.2.2.2.1.2.2.2.2.2.2.2.2.2.2.2.2.2.2.2.2.2.2.1,(),x6.2.2.2.1.2.2.2.2.2.2.2.2.2.2.2.2.2.2.2.2.2.2.2.2.1,x6.2.2.2.1.2.2.2.2.2.2.2.2.2.2.2.2.2.2.2.2.2.2.2.2.2.1,x6.2.2.2.1.2.2.2.2.2.2.2.2.2.2.2.2.2.2.2.2.2.2.2.2.2.2.1,x6.2.2.2.1.2.2.2.2.2.2.2.2.2.2.2.2.2.2.2.2.2.2.2.2.2.2.2.1,()),())))
 (some (((),(),(),decide (r1.1 = 10),()),(x6.2.1,(x6.2.2.1.1,x6.2.2.1.2.1,x6.2.2.1.2.2.1,x6.2.2.1.2.2.2.1,x6.2.2.1.2.2.2.2.1,x6.2.2.1.2.2.2.2.2.1,x6.2.2.1.2.2.2.2.2.2.1,x6.2.2.1.2.2.2.2.2.2.2.1,x6.2.2.1.2.2.2.2.2.2.2.2.1,x6.2.2.1.2.2.2.2.2.2.2.2.2.1,x6.2.2.1.2.2.2.2.2.2.2.2.2.2.1,x6.2.2.1.2.2.2.2.2.2.2.2.2.2.2.1,x6.2.2.1.2.2.2.2.2.2.2.2.2.2.2.2.1,x6.2.2.1.2.2.2.2.2.2.2.2.2.2.2.2.2.1,(),x6.2.2.1.2.2.2.2.2.2.2.2.2.2.2.2.2.2.2.1,x6.2.2.1.2.2.2.2.2.2.2.2.2.2.2.2.2.2.2.2.1,x6.2.2.1.2.2.2.2.2.2.2.2.2.2.2.2.2.2.2.2.2.1,x6.2.2.1.2.2.2.2.2.2.2.2.2.2.2.2.2.2.2.2.2.2.1,(),x6.2.2.1.2.2.2.2.2.2.2.2.2.2.2.2.2.2.2.2.2.2.2.2.1,x6.2.2.1.2.2.2.2.2.2.2.2.2.2.2.2.2.2.2.2.2.2.2.2.2.1,x6.2.2.1.2.2.2.2.2.2.2.2.2.2.2.2.2.2.2.2.2.2.2.2.2.2.1,x6.2.2.1.2.2.2.2.2.2.2.2.2.2.2.2.2.2.2.2.2.2.2.2.2.2.2.1,()),(x6.2.2.2.1.1,x6.2.2.2.1.2.1,x6.2.2.2.1.2.2.1,x6.2.2.2.1.2.2.2.1,x6.2.2.2.1.2.2.2.2.1,x6.2.2.2.1.2.2.2.2.2.1,x6.2.2.2.1.2.2.2.2.2.2.1,x6.2.2.2.1.2.2.2.2.2.2.2.1,x6.2.2.2.1.2.2.2.2.2.2.2.2.1,x6.2.2.2.1.2.2.2.2.2.2.2.2.2.1,x6.2.2.2.1.2.2.2.2.2.2.2.2.2.2.1,x6.2.2.2.1.2.2.2.2.2.2.2.2.2.2.2.1,x6.2.2.2.1.2.2.2.2.2.2.2.2.2.2.2.2.1,x6.2.2.2.1.2.2.2.2.2.2.2.2.2.2.2.2.2.1,(),x6.2.2.2.1.2.2.2.2.2.2.2.2.2.2.2.2.2.2.2.1,x6.2.2.2.1.2.2.2.2.2.2.2.2.2.2.2.2.2.2.2.2.1,x6.2.2.2.1.2.2.2.2.2.2.2.2.2.2.2.2.2.2.2.2.2.1,x6.2.2.2.1.2.2.2.2.2.2.2.2.2.2.2.2.2.2.2.2.2.2.1,(),x6.2.2.2.1.2.2.2.2.2.2.2.2.2.2.2.2.2.2.2.2.2.2.2.2.1,x6.2.2.2.1.2.2.2.2.2.2.2.2.2.2.2.2.2.2.2.2.2.2.2.2.2.1,x6.2.2.2.1.2.2.2.2.2.2.2.2.2.2.2.2.2.2.2.2.2.2.2.2.2.2.1,x6.2.2.2.1.2.2.2.2.2.2.2.2.2.2.2.2.2.2.2.2.2.2.2.2.2.2.2.1,()),())))) fun x11 =>
 cond x11.1.2.2.2.1
 (Option.bind (g72 x11.2.1) fun r12 =>
 Option.bind (g72 r12.2.1) fun r13 =>
 some (((),(),()),(r13.2.1,(x11.2.2.1.1,x11.2.2.1.2.1,x11.2.2.1.2.2.1,x11.2.2.1.2.2.2.1,x11.2.2.1.2.2.2.2.1,x11.2.2.1.2.2.2.2.2.1,x11.2.2.1.2.2.2.2.2.2.1,x11.2.2.1.2.2.2.2.2.2.2.1,x11.2.2.1.2.2.2.2.2.2.2.2.1,x11.2.2.1.2.2.2.2.2.2.2.2.2.1,x11.2.2.1.2.2.2.2.2.2.2.2.2.2.1,x11.2.2.1.2.2.2.2.2.2.2.2.2.2.2.1,x11.2.2.1.2.2.2.2.2.2.2.2.2.2.2.2.1,x11.2.2.1.2.2.2.2.2.2.2.2.2.2.2.2.2.1,(),x11.2.2.1.2.2.2.2.2.2.2.2.2.2.2.2.2.2.2.1,x11.2.2.1.2.2.2.2.2.2.2.2.2.2.2.2.2.2.2.2.1,x11.2.2.1.2.2.2.2.2.2.2.2.2.2.2.2.2.2.2.2.2.1,x11.2.2.1.2.2.2.2.2.2.2.2.2.2.2.2.2.2.2.2.2.2.1,(),x11.2.2.1.2.2.2.2.2.2.2.2.2.2.2.2.2.2.2.2.2.2.2.2.1,x11.2.2.1.2.2.2.2.2.2.2.2.2.2.2.2.2.2.2.2.2.2.2.2.2.1,x11.2.2.1.2.2.2.2.2.2.2.2.2.2.2.2.2.2.2.2.2.2.2.2.2.2.1,x11.2.2.1.2.2.2.2.2.2.2.2.2.2.2.2.2.2.2.2.2.2.2.2.2.2.2.1,()),(x11.2.2.2.1.1,r12.1,x11.2.2.2.1.2.2.1,x11.2.2.2.1.2.2.2.1,x11.2.2.2.1.2.2.2.2.1,x11.2.2.2.1.2.2.2.2.2.1,x11.2.2.2.1.2.2.2.2.2.2.1,x11.2.2.2.1.2.2.2.2.2.2.2.1,x11.2.2.2.1.2.2.2.2.2.2.2.2.1,x11.2.2.2.1.2.2.2.2.2.2.2.2.2.1,x11.2.2.2.1.2.2.2.2.2.2.2.2.2.2.1,x11.2.2.2.1.2.2.2.2.2.2.2.2.2.2.2.1,x11.2.2.2.1.2.2.2.2.2.2.2.2.2.2.2.2.1,x11.2.2.2.1.2.2.2.2.2.2.2.2.2.2.2.2.2.1,[],x11.2.2.2.1.2.2.2.2.2.2.2.2.2.2.2.2.2.2.2.1,x11.2.2.2.1.2.2.2.2.2.2.2.2.2.2.2.2.2.2.2.2.1,x11.2.2.2.1.2.2.2.2.2.2.2.2.2.2.2.2.2.2.2.2.2.1,x11.2.2.2.1.2.2.2.2.2.2.2.2.2.2.2.2.2.2.2.2.2.2.1,[],r13.1,x11.2.2.2.1.2.2.2.2.2.2.2.2.2.2.2.2.2.2.2.2.2.2.2.2.2.1,x11.2.2.2.1.2.2.2.2.2.2.2.2.2.2.2.2.2.2.2.2.2.2.2.2.2.2.1,x11.2.2.2.1.2.2.2.2.2.2.2.2.2.2.2.2.2.2.2.2.2.2.2.2.2.2.2.1,()),())))
 (cond (decide (r1.1 = 8))
 (Option.bind (g72 x11.2.1) fun r14 =>
 Option.bind (g76 r14.2.1) fun r15 =>
 some (((),(),()),(r15.2.1,(x11.2.2.1.1,x11.2.2.1.2.1,x11.2.2.1.2.2.1,x11.2.2.1.2.2.2.1,x11.2.2.1.2.2.2.2.1,x11.2.2.1.2.2.2.2.2.1,x11.2.2.1.2.2.2.2.2.2.1,x11.2.2.1.2.2.2.2.2.2.2.1,x11.2.2.1.2.2.2.2.2.2.2.2.1,x11.2.2.1.2.2.2.2.2.2.2.2.2.1,x11.2.2.1.2.2.2.2.2.2.2.2.2.2.1,x11.2.2.1.2.2.2.2.2.2.2.2.2.2.2.1,x11.2.2.1.2.2.2.2.2.2.2.2.2.2.2.2.1,x11.2.2.1.2.2.2.2.2.2.2.2.2.2.2.2.2.1,(),x11.2.2.1.2.2.2.2.2.2.2.2.2.2.2.2.2.2.2.1,x11.2.2.1.2.2.2.2.2.2.2.2.2.2.2.2.2.2.2.2.1,x11.2.2.1.2.2.2.2.2.2.2.2.2.2.2.2.2.2.2.2.2.1,x11.2.2.1.2.2.2.2.2.2.2.2.2.2.2.2.2.2.2.2.2.2.1,(),x11.2.2.1.2.2.2.2.2.2.2.2.2.2.2.2.2.2.2.2.2.2.2.2.1,x11.2.2.1.2.2.2.2.2.2.2.2.2.2.2.2.2.2.2.2.2.2.2.2.2.1,x11.2.2.1.2.2.2.2.2.2.2.2.2.2.2.2.2.2.2.2.2.2.2.2.2.2.1,x11.2.2.1.2.2.2.2.2.2.2.2.2.2.2.2.2.2.2.2.2.2.2.2.2.2.2.1,()),(x11.2.2.2.1.1,x11.2.2.2.1.2.1,x11.2.2.2.1.2.2.1,x11.2.2.2.1.2.2.2.1,x11.2.2.2.1.2.2.2.2.1,x11.2.2.2.1.2.2.2.2.2.1,x11.2.2.2.1.2.2.2.2.2.2.1,x11.2.2.2.1.2.2.2.2.2.2.2.1,x11.2.2.2.1.2.2.2.2.2.2.2.2.1,x11.2.2.2.1.2.2.2.2.2.2.2.2.2.1,x11.2.2.2.1.2.2.2.2.2.2.2.2.2.2.1,x11.2.2.2.1.2.2.2.2.2.2.2.2.2.2.2.1,x11.2.2.2.1.2.2.2.2.2.2.2.2.2.2.2.2.1,x11.2.2.2.1.2.2.2.2.2.2.2.2.2.2.2.2.2.1,[],x11.2.2.2.1.2.2.2.2.2.2.2.2.2.2.2.2.2.2.2.1,x11.2.2.2.1.2.2.2.2.2.2.2.2.2.2.2.2.2.2.2.2.1,x11.2.2.2.1.2.2.2.2.2.2.2.2.2.2.2.2.2.2.2.2.2.1,x11.2.2.2.1.2.2.2.2.2.2.2.2.2.2.2.2.2.2.2.2.2.2.1,[],x11.2.2.2.1.2.2.2.2.2.2.2.2.2.2.2.2.2.2.2.2.2.2.2.2.1,x11.2.2.2.1.2.2.2.2.2.2.2.2.2.2.2.2.2.2.2.2.2.2.2.2.2.1,r14.1,decide (r15.1 = ([111,107] : List UInt8)),()),())))
 (some (((),(),()),(x11.2.1,(x11.2.2.1.1,x11.2.2.1.2.1,x11.2.2.1.2.2.1,x11.2.2.1.2.2.2.1,x11.2.2.1.2.2.2.2.1,x11.2.2.1.2.2.2.2.2.1,x11.2.2.1.2.2.2.2.2.2.1,x11.2.2.1.2.2.2.2.2.2.2.1,x11.2.2.1.2.2.2.2.2.2.2.2.1,x11.2.2.1.2.2.2.2.2.2.2.2.2.1,x11.2.2.1.2.2.2.2.2.2.2.2.2.2.1,x11.2.2.1.2.2.2.2.2.2.2.2.2.2.2.1,x11.2.2.1.2.2.2.2.2.2.2.2.2.2.2.2.1,x11.2.2.1.2.2.2.2.2.2.2.2.2.2.2.2.2.1,(),x11.2.2.1.2.2.2.2.2.2.2.2.2.2.2.2.2.2.2.1,x11.2.2.1.2.2.2.2.2.2.2.2.2.2.2.2.2.2.2.2.1,x11.2.2.1.2.2.2.2.2.2.2.2.2.2.2.2.2.2.2.2.2.1,x11.2.2.1.2.2.2.2.2.2.2.2.2.2.2.2.2.2.2.2.2.2.1,(),x11.2.2.1.2.2.2.2.2.2.2.2.2.2.2.2.2.2.2.2.2.2.2.2.1,x11.2.2.1.2.2.2.2.2.2.2.2.2.2.2.2.2.2.2.2.2.2.2.2.2.1,x11.2.2.1.2.2.2.2.2.2.2.2.2.2.2.2.2.2.2.2.2.2.2.2.2.2.1,x11.2.2.1.2.2.2.2.2.2.2.2.2.2.2.2.2.2.2.2.2.2.2.2.2.2.2.1,()),(x11.2.2.2.1.1,x11.2.2.2.1.2.1,x11.2.2.2.1.2.2.1,x11.2.2.2.1.2.2.2.1,x11.2.2.2.1.2.2.2.2.1,x11.2.2.2.1.2.2.2.2.2.1,x11.2.2.2.1.2.2.2.2.2.2.1,x11.2.2.2.1.2.2.2.2.2.2.2.1,x11.2.2.2.1.2.2.2.2.2.2.2.2.1,x11.2.2.2.1.2.2.2.2.2.2.2.2.2.1,x11.2.2.2.1.2.2.2.2.2.2.2.2.2.2.1,x11.2.2.2.1.2.2.2.2.2.2.2.2.2.2.2.1,x11.2.2.2.1.2.2.2.2.2.2.2.2.2.2.2.2.1,x11.2.2.2.1.2.2.2.2.2.2.2.2.2.2.2.2.2.1,[],x11.2.2.2.1.2.2.2.2.2.2.2.2.2.2.2.2.2.2.2.1,x11.2.2.2.1.2.2.2.2.2.2.2.2.2.2.2.2.2.2.2.2.1,x11.2.2.2.1.2.2.2.2.2.2.2.2.2.2.2.2.2.2.2.2.2.1,x11.2.2.2.1.2.2.2.2.2.2.2.2.2.2.2.2.2.2.2.2.2.2.1,[],x11.2.2.2.1.2.2.2.2.2.2.2.2.2.2.2.2.2.2.2.2.2.2.2.2.1,x11.2.2.2.1.2.2.2.2.2.2.2.2.2.2.2.2.2.2.2.2.2.2.2.2.2.1,x11.2.2.2.1.2.2.2.2.2.2.2.2.2.2.2.2.2.2.2.2.2.2.2.2.2.2.1,x11.2.2.2.1.2.2.2.2.2.2.2.2.2.2.2.2.2.2.2.2.2.2.2.2.2.2.2.1,()),())))))))) fun x16 =>
 some ((x16.2.2.2.1.1,(x16.2.2.2.1.2.1,(Request.mk x16.2.2.2.1.2.2.1 x16.2.2.2.1.2.2.2.1 x16.2.2.2.1.2.2.2.2.1 x16.2.2.2.1.2.2.2.2.2.1 x16.2.2.2.1.2.2.2.2.2.2.1 x16.2.2.2.1.2.2.2.2.2.2.2.1 (Res.mk x16.2.2.2.1.2.2.2.2.2.2.2.2.1 x16.2.2.2.1.2.2.2.2.2.2.2.2.2.1 x16.2.2.2.1.2.2.2.2.2.2.2.2.2.2.1 x16.2.2.2.1.2.2.2.2.2.2.2.2.2.2.2.1) x16.2.2.2.1.2.2.2.2.2.2.2.2.2.2.2.2.1 x16.2.2.2.1.2.2.2.2.2.2.2.2.2.2.2.2.2.1 x16.2.2.2.1.2.2.2.2.2.2.2.2.2.2.2.2.2.2.1 x16.2.2.2.1.2.2.2.2.2.2.2.2.2.2.2.2.2.2.2.1 x16.2.2.2.1.2.2.2.2.2.2.2.2.2.2.2.2.2.2.2.2.1 x16.2.2.2.1.2.2.2.2.2.2.2.2.2.2.2.2.2.2.2.2.2.1 x16.2.2.2.1.2.2.2.2.2.2.2.2.2.2.2.2.2.2.2.2.2.2.1,(x16.2.2.2.1.2.2.2.2.2.2.2.2.2.2.2.2.2.2.2.2.2.2.2.1,(x16.2.2.2.1.2.2.2.2.2.2.2.2.2.2.2.2.2.2.2.2.2.2.2.2.1,(x16.2.2.2.1.2.2.2.2.2.2.2.2.2.2.2.2.2.2.2.2.2.2.2.2.2.1,(x16.2.2.2.1.2.2.2.2.2.2.2.2.2.2.2.2.2.2.2.2.2.2.2.2.2.2.1,x16.2.2.2.1.2.2.2.2.2.2.2.2.2.2.2.2.2.2.2.2.2.2.2.2.2.2.2.1))))))),(x16.2.1,()))
theorem e37 (L : Lp) (g71 : ((List (List UInt8)) × Bool) → Option (Int × (((List (List UInt8)) × Bool) × Unit))) (g72 : ((List (List UInt8)) × Bool) → Option (Int × (((List (List UInt8)) × Bool) × Unit))) (g73 : ((List (List UInt8)) × Bool) → Option (Request × (((List (List UInt8)) × Bool) × Unit))) (g74 : ((List (List UInt8)) × Bool) → Option ((List Int) × (((List (List UInt8)) × Bool) × Unit))) (g75 : ((List (List UInt8)) × Bool) → Option (Bool × (((List (List UInt8)) × Bool) × Unit))) (g76 : ((List (List UInt8)) × Bool) → Option ((List UInt8) × (((List (List UInt8)) × Bool) × Unit))) (x : s37.args.den) (h : denH s37.heap) : nrun [⟨71,s71,fun x h => g71 h.1⟩,⟨72,s72,fun x h => g72 h.1⟩,⟨73,s73,fun x h => g73 h.1⟩,⟨74,s74,fun x h => g74 h.1⟩,⟨75,s75,fun x h => g75 h.1⟩,⟨76,s76,fun x h => g76 h.1⟩] L n37 s37 x h = F37 L g71 g72 g73 g74 g75 g76 h.1 := by kernel_rfl
def f37 : ((List (List UInt8)) × Bool) → Option ((Int × (Int × (Request × ((List Int) × (Int × (Bool × (Int × Bool))))))) × (((List (List UInt8)) × Bool) × Unit)) := F37 (@LN LOOPS) f71 f72 f73 f74 f75 f76
@[reducible] def t37 : Ent := ⟨37,s37,fun x h => f37 h.1⟩
theorem k37 : chkNF Tryz.prog Tryz.f37 n37 = true := by kernel_rfl
theorem ok37 : NOk Tryz.prog t37 := NOk.body (T := [t71,t72,t73,t74,t75,t76]) mixed (nall_cons ok71 (nall_cons ok72 (nall_cons ok73 (nall_cons ok74 (nall_cons ok75 (nall_cons ok76 nall_nil)))))) (oneEach_of (by kernel_rfl)) Tryz.func37 k37 (by kernel_rfl) (fun x h => e37 _ _ _ _ _ _ _ x h)
def n94 : NFunc := ⟨9,.seq (.region 0 [
 o1 2 (.move kf) 0] []) (.seq (.region 0 [
 oM 3 0 0,
 oC 4 .geq 3 1 0,
 oM 5 4 0,
 o3 6 (.move (tm 0)) 5 0,
 o3 7 (.bin .leq (tm 6) (ki 12)) 5 0,
 o1 8 (.pick (tm 5) (tm 7) kf) 0,
 oM 2 8 0] []) (.ret)),[.tmp 2],true⟩
def s94 : Sig := ⟨(.cons (.v (.int .i64)) .nil),[],((.v .bool),[]),[]⟩
def F94 (L : Lp)  (kind0 : Int) : Option Bool :=
 cond (decide (1 ≤ kind0))
 (some (decide (kind0 ≤ 12)))
 (some false)
theorem e94 (L : Lp)  (x : s94.args.den) (h : denH s94.heap) : nrun [] L n94 s94 x h = F94 L  x.1 := by kernel_rfl
def f94 : Int → Option Bool := F94 (@LN LOOPS) 
@[reducible] def t94 : Ent := ⟨94,s94,fun x h => f94 x.1⟩
theorem k94 : chkNF Tryz.prog Tryz.f94 n94 = true := by kernel_rfl
theorem ok94 : NOk Tryz.prog t94 := NOk.body (T := []) mixed nall_nil (oneEach_of (by kernel_rfl)) Tryz.func94 k94 (by kernel_rfl) (fun x h => e94 _  x h)
def n95 : NFunc := ⟨30,.seq (.region 0 [
 o1 4 (.move kf) 0] []) (.seq (.seq (.region 0 [
 oM 7 0 0,
 oC 8 .neq 7 1 0] []) (.cond (tm 8) (.seq (.region 0 [
 oM 9 1 0,
 o1 10 (.len (tm 9)) 0,
 oC 11 .eql 10 0 0,
 oM 4 11 0] []) (.ret)) (.skip))) (.seq (.seq (.region 0 [
 oM 12 1 0,
 o1 13 (.len (tm 12)) 0,
 oC 14 .gtr 13 4 0] []) (.cond (tm 14) (.seq (.region 0 [
 o1 4 (.move kf) 0] []) (.ret)) (.skip))) (.seq (.seq (.region 0 [
 oM 15 1 0,
 o1 16 (.len (tm 15)) 0,
 o1 17 (.move (ki 0)) 0] []) (.block 0 (.loop [15,16,17] ⟨[(17,vI)],[15,16],[]⟩ (.seq (.region 0 [
 oB 18 .lss 17 16 0] []) (.seq (.cond (tm 18) (.skip) (.exit 0)) (.seq (.block 1 (.seq (.region 1 [
 o1 19 (.indexSl 2 (tm 15) (tm 17)) 0,
 oT 20 2 19 0,
 o1 6 (.alloc [iz,.bool false]) 0,
 oS 2 6 20 1] []) (.seq (.region 0 [
 oF 21 0 6 0,
 oL 22 21 0,
 oC 23 .lss 22 0 0,
 oM 24 23 0,
 o2 25 (.fieldAddr 0 (tm 6)) 24 0,
 o2 26 (.load false 1 (tm 25)) 24 0,
 o2 27 (.bin .gtr (tm 26) (ki 281474976710656)) 24 0,
 o1 28 (.pick (tm 24) kt (tm 27)) 0] []) (.cond (tm 28) (.seq (.region 0 [
 o1 4 (.move kf) 0] []) (.ret)) (.skip))))) (.region 0 [
 oC 29 .add 17 1 0,
 oM 17 29 0] []))))))) (.seq (.region 0 [
 o1 4 (.move kt) 0] []) (.ret))))),[.tmp 4],true⟩
def s95 : Sig := ⟨(.cons (.v (.int .i64)) (.cons (.v (.list .dep)) .nil)),[],((.v .bool),[]),[]⟩
def l95_0 (after1 : (List Dep)) (nx3 : ((Int × Unit) × Unit) → Option Bool) (z4 : Int) : Option Bool :=
 cond (decide (z4 < (List.length after1 : Int)))
 (cond (decide (0 ≤ z4))
 (Option.bind (after1[Int.toNat z4]?) fun y5 =>
 cond (decide (y5.job < 0))
 (some false)
 (cond (decide (281474976710656 < y5.job))
 (some false)
 (nx3 ((IntKind.wrap .i64 (z4 + 1),()),()))))
 (none))
 (some true)
def F95 (L : Lp)  (kind0 : Int) (after1 : (List Dep)) : Option Bool :=
 cond (!decide (kind0 = 1))
 (some (decide ((List.length after1 : Int) = 0)))
 (cond (decide (4 < (List.length after1 : Int)))
 (some false)
 (L (fun (s2 : ((Int × Unit) × Unit)) nx3 => l95_0 after1 nx3 s2.1.1) ((0,()),())))
theorem e95 (L : Lp)  (x : s95.args.den) (h : denH s95.heap) : nrun [] L n95 s95 x h = F95 L  x.1 x.2.1 := by kernel_rfl
def f95 : Int → (List Dep) → Option Bool := F95 (@LN LOOPS) 
@[reducible] def t95 : Ent := ⟨95,s95,fun x h => f95 x.1 x.2.1⟩
theorem k95 : chkNF Tryz.prog Tryz.f95 n95 = true := by kernel_rfl
theorem ok95 : NOk Tryz.prog t95 := NOk.body (T := []) mixed nall_nil (oneEach_of (by kernel_rfl)) Tryz.func95 k95 (by kernel_rfl) (fun x h => e95 _  x h)
def n96 : NFunc := ⟨120,.split 0 0 13 (.seq (.region 0 [
 o1 2 (.move (.const (.zsl))) 0] []) (.seq (.region 0 [
 o1 3 (.move (.const (.zsl))) 0] []) (.seq (.seq (.region 0 [
 oM 4 0 0,
 o1 5 (.nilCheck (tm 4)) 0,
 oF 6 0 5 0,
 oL 7 6 0] []) (.block 0 (.seq (.seq (.region 0 [
 oC 9 .eql 7 2 0,
 oM 8 9 0] []) (.cond (tm 8) (.skip) (.seq (.region 0 [
 oC 10 .eql 7 3 0,
 oM 8 10 0] []) (.cond (tm 8) (.skip) (.seq (.region 0 [
 oC 11 .eql 7 4 0,
 oM 8 11 0] []) (.cond (tm 8) (.skip) (.seq (.region 0 [
 oC 12 .eql 7 5 0,
 oM 8 12 0] []) (.cond (tm 8) (.skip) (.seq (.region 0 [
 oC 13 .eql 7 6 0,
 oM 8 13 0] []) (.cond (tm 8) (.skip) (.region 0 [
 oC 14 .eql 7 7 0,
 oM 8 14 0] []))))))))))) (.cond (tm 8) (.region 2 [
 o4 15 (.move (tm 3)) 0 [],
 o4 16 (.move (tm 0)) 0 [],
 o4 17 (.nilCheck (tm 16)) 0 [],
 o4 18 (.fieldAddr 2 (tm 17)) 0 [],
 o4 19 (.move (tm 0)) 0 [],
 o4 20 (.nilCheck (tm 19)) 0 [],
 o4 21 (.fieldAddr 3 (tm 20)) 0 [],
 o4 22 (.buildSlice 1 2 false [.nilp] [(0,(tm 18)),(1,(tm 21))]) 0 [],
 o4 23 (.append 1 8 false (tm 15) (tm 22)) 1 [0],
 o4 3 (.move (tm 23)) 2 [0,1]] []) (.seq (.region 0 [
 oC 25 .eql 7 8 0,
 oM 24 25 0] []) (.cond (tm 24) (.region 2 [
 oM 26 3 0,
 oM 27 0 0,
 o1 28 (.nilCheck (tm 27)) 0,
 oF 29 2 28 0,
 o1 30 (.buildSlice 1 1 false [.nilp] [(0,(tm 29))]) 0,
 o1 31 (.append 1 8 false (tm 26) (tm 30)) 1,
 oM 3 31 2] []) (.seq (.region 0 [
 oC 33 .eql 7 11 0,
 oM 32 33 0] []) (.cond (tm 32) (.region 2 [
 o4 34 (.move (tm 3)) 0 [],
 o4 35 (.move (tm 0)) 0 [],
 o4 36 (.nilCheck (tm 35)) 0 [],
 o4 37 (.fieldAddr 13 (tm 36)) 0 [],
 o4 38 (.move (tm 0)) 0 [],
 o4 39 (.nilCheck (tm 38)) 0 [],
 o4 40 (.fieldAddr 14 (tm 39)) 0 [],
 o4 41 (.move (tm 0)) 0 [],
 o4 42 (.nilCheck (tm 41)) 0 [],
 o4 43 (.fieldAddr 15 (tm 42)) 0 [],
 o4 44 (.buildSlice 1 3 false [.nilp] [(0,(tm 37)),(1,(tm 40)),(2,(tm 43))]) 0 [],
 o4 45 (.append 1 8 false (tm 34) (tm 44)) 1 [0],
 o4 3 (.move (tm 45)) 2 [0,1]] []) (.seq (.region 0 [
 oC 47 .eql 7 12 0,
 oM 46 47 0] []) (.cond (tm 46) (.region 2 [
 oM 48 3 0,
 oM 49 0 0,
 o1 50 (.nilCheck (tm 49)) 0,
 oF 51 16 50 0,
 o1 52 (.buildSlice 1 1 false [.nilp] [(0,(tm 51))]) 0,
 o1 53 (.append 1 8 false (tm 48) (tm 52)) 1,
 oM 3 53 2] []) (.skip))))))))))) (.seq (.seq (.region 0 [
 oM 54 0 0,
 o1 55 (.nilCheck (tm 54)) 0,
 oF 56 0 55 0,
 oL 57 56 0] []) (.block 1 (.seq (.block 4 (.seq (.block 3 (.seq (.block 2 (.seq (.seq (.seq (.region 0 [
 oC 59 .eql 57 1 0,
 oM 58 59 0] []) (.cond (tm 58) (.exit 2) (.skip))) (.seq (.seq (.region 0 [
 oC 61 .eql 57 2 0,
 oM 60 61 0] []) (.cond (tm 60) (.exit 3) (.skip))) (.seq (.seq (.region 0 [
 oC 63 .eql 57 7 0,
 oM 62 63 0] []) (.cond (tm 62) (.skip) (.region 0 [
 oC 64 .eql 57 9 0,
 oM 62 64 0] []))) (.cond (tm 62) (.exit 4) (.skip))))) (.exit 1))) (.region 2 [
 oM 65 3 0,
 oM 66 0 0,
 o1 67 (.nilCheck (tm 66)) 0,
 oF 68 4 67 0,
 o1 69 (.buildSlice 1 1 false [.nilp] [(0,(tm 68))]) 0,
 o1 70 (.append 1 8 false (tm 65) (tm 69)) 1,
 oM 3 70 2] []))) (.seq (.seq (.region 2 [
 oM 71 3 0,
 oM 72 0 0,
 o1 73 (.nilCheck (tm 72)) 0,
 oF 74 5 73 0,
 o1 75 (.buildSlice 1 1 false [.nilp] [(0,(tm 74))]) 0,
 o1 76 (.append 1 8 false (tm 71) (tm 75)) 1,
 oM 3 76 2] []) (.seq (.region 2 [
 o4 77 (.move (tm 3)) 0 [],
 o4 78 (.move (tm 0)) 0 [],
 o4 79 (.nilCheck (tm 78)) 0 [],
 o4 80 (.fieldAddr 6 (tm 79)) 0 [],
 o4 81 (.fieldAddr 0 (tm 80)) 0 [],
 o4 82 (.move (tm 0)) 0 [],
 o4 83 (.nilCheck (tm 82)) 0 [],
 o4 84 (.fieldAddr 6 (tm 83)) 0 [],
 o4 85 (.fieldAddr 1 (tm 84)) 0 [],
 o4 86 (.move (tm 0)) 0 [],
 o4 87 (.nilCheck (tm 86)) 0 [],
 o4 88 (.fieldAddr 6 (tm 87)) 0 [],
 o4 89 (.fieldAddr 2 (tm 88)) 0 [],
 o4 90 (.move (tm 0)) 0 [],
 o4 91 (.nilCheck (tm 90)) 0 [],
 o4 92 (.fieldAddr 6 (tm 91)) 0 [],
 o4 93 (.fieldAddr 3 (tm 92)) 0 [],
 o4 94 (.buildSlice 1 4 false [.nilp] [(0,(tm 81)),(1,(tm 85)),(2,(tm 89)),(3,(tm 93))]) 0 [],
 o4 95 (.append 1 8 false (tm 77) (tm 94)) 1 [0],
 o4 3 (.move (tm 95)) 2 [0,1]] []) (.region 2 [
 oM 96 3 0,
 oM 97 0 0,
 o1 98 (.nilCheck (tm 97)) 0,
 oF 99 10 98 0,
 o1 100 (.buildSlice 1 1 false [.nilp] [(0,(tm 99))]) 0,
 o1 101 (.append 1 8 false (tm 96) (tm 100)) 1,
 oM 3 101 2] []))) (.exit 1)))) (.seq (.region 2 [
 oM 102 3 0,
 oM 103 0 0,
 o1 104 (.nilCheck (tm 103)) 0,
 oF 105 4 104 0,
 o1 106 (.buildSlice 1 1 false [.nilp] [(0,(tm 105))]) 0,
 o1 107 (.append 1 8 false (tm 102) (tm 106)) 1,
 oM 3 107 2] []) (.exit 1))))) (.seq (.seq (.region 0 [
 oM 108 0 0,
 o1 109 (.nilCheck (tm 108)) 0,
 oF 110 0 109 0,
 oL 111 110 0,
 oC 112 .eql 111 1 0] []) (.cond (tm 112) (.region 2 [
 oM 113 3 0,
 oM 114 0 0,
 o1 115 (.nilCheck (tm 114)) 0,
 oF 116 11 115 0,
 o1 117 (.buildSlice 1 1 false [.nilp] [(0,(tm 116))]) 0,
 o1 118 (.append 1 8 false (tm 113) (tm 117)) 1,
 oM 3 118 2] []) (.skip))) (.seq (.region 0 [
 oM 119 3 0,
 oM 2 119 0] []) (.ret))))))),[.tmp 2],false⟩
def s96 : Sig := ⟨(.cons (.ptr 0 0 0) .nil),[.one false .request],((.slw 1 1),[.one false .request,.many 1 (.cons (.cons (.ptr 0 0 13) .nil) (.cons (.cons (.ptr 0 0 14) .nil) (.cons (.cons (.ptr 0 0 15) .nil) .nil)))]),[(.zsl,[.one false .request]),((.slw 1 1),[.one false .request,.cell false (.cons (.ptr 0 0 4) .nil)]),((.slw 1 1),[.one false .request,.cell false (.cons (.ptr 0 0 2) .nil)]),((.slw 1 1),[.one false .request,.many 1 (.cons (.cons (.ptr 0 0 2) .nil) (.cons (.cons (.ptr 0 0 3) .nil) (.cons (.cons (.ptr 0 0 4) .nil) .nil)))]),((.slw 1 1),[.one false .request,.many 1 (.cons (.cons (.ptr 0 0 2) .nil) (.cons (.cons (.ptr 0 0 3) .nil) .nil))]),((.slw 1 1),[.one false .request,.many 1 (.cons (.cons (.ptr 0 0 2) .nil) (.cons (.cons (.ptr 0 0 3) .nil) (.cons (.cons (.ptr 0 0 5) .nil) (.cons (.cons (.ptr 0 0 6) .nil) (.cons (.cons (.ptr 0 0 7) .nil) (.cons (.cons (.ptr 0 0 8) .nil) (.cons (.cons (.ptr 0 0 9) .nil) (.cons (.cons (.ptr 0 0 10) .nil) .nil))))))))]),((.slw 1 1),[.one false .request,.many 1 (.cons (.cons (.ptr 0 0 4) .nil) (.cons (.cons (.ptr 0 0 5) .nil) (.cons (.cons (.ptr 0 0 6) .nil) (.cons (.cons (.ptr 0 0 7) .nil) (.cons (.cons (.ptr 0 0 8) .nil) (.cons (.cons (.ptr 0 0 9) .nil) (.cons (.cons (.ptr 0 0 10) .nil) (.cons (.cons (.ptr 0 0 11) .nil) .nil))))))))]),((.slw 1 1),[.one false .request,.cell false (.cons (.ptr 0 0 16) .nil)])]⟩
@[reducible] def y96 : Type := ((Unit × (Request × (((Unit × Unit) × ((Unit × Unit) × ((Unit × Unit) × Unit))) × Unit))) ⊕ ((Unit × (Request × Unit)) ⊕ ((Unit × (Request × ((Unit × Unit) × Unit))) ⊕ ((Unit × (Request × ((Unit × Unit) × Unit))) ⊕ ((Unit × (Request × (((Unit × Unit) × ((Unit × Unit) × ((Unit × Unit) × Unit))) × Unit))) ⊕ ((Unit × (Request × (((Unit × Unit) × ((Unit × Unit) × Unit)) × Unit))) ⊕ ((Unit × (Request × (((Unit × Unit) × ((Unit × Unit) × ((Unit × Unit) × ((Unit × Unit) × ((Unit × Unit) × ((Unit × Unit) × ((Unit × Unit) × ((Unit × Unit) × Unit)))))))) × Unit))) ⊕ ((Unit × (Request × (((Unit × Unit) × ((Unit × Unit) × ((Unit × Unit) × ((Unit × Unit) × ((Unit × Unit) × ((Unit × Unit) × ((Unit × Unit) × ((Unit × Unit) × Unit)))))))) × Unit))) ⊕ (Unit × (Request × ((Unit × Unit) × Unit)))))))))))
def F96 (L : Lp)  (a0 : Request) : Option y96 :=
 cond (decide (a0.kind = 12))
 (some (.inr (.inr (.inr (.inr (.inr (.inr (.inr (.inr ((),(Request.mk 12 a0.key a0.job a0.version a0.queue a0.many a0.need a0.wall a0.tasks a0.after a0.node a0.fro a0.to a0.id,((),()),())))))))))))
 (cond (decide (a0.kind = 11))
 (some (.inl ((),(Request.mk 11 a0.key a0.job a0.version a0.queue a0.many a0.need a0.wall a0.tasks a0.after a0.node a0.fro a0.to a0.id,(((),()),(((),()),(((),()),()))),()))))
 (cond (decide (a0.kind = 10))
 (some (.inr (.inl ((),(Request.mk 10 a0.key a0.job a0.version a0.queue a0.many a0.need a0.wall a0.tasks a0.after a0.node a0.fro a0.to a0.id,())))))
 (cond (decide (a0.kind = 9))
 (some (.inr (.inr (.inl ((),(Request.mk 9 a0.key a0.job a0.version a0.queue a0.many a0.need a0.wall a0.tasks a0.after a0.node a0.fro a0.to a0.id,((),()),()))))))
 (cond (decide (a0.kind = 8))
 (some (.inr (.inr (.inr (.inl ((),(Request.mk 8 a0.key a0.job a0.version a0.queue a0.many a0.need a0.wall a0.tasks a0.after a0.node a0.fro a0.to a0.id,((),()),())))))))
 (cond (decide (a0.kind = 7))
 (some (.inr (.inr (.inr (.inr (.inl ((),(Request.mk 7 a0.key a0.job a0.version a0.queue a0.many a0.need a0.wall a0.tasks a0.after a0.node a0.fro a0.to a0.id,(((),()),(((),()),(((),()),()))),()))))))))
 (cond (decide (a0.kind = 6))
 (some (.inr (.inr (.inr (.inr (.inr (.inl ((),(Request.mk 6 a0.key a0.job a0.version a0.queue a0.many a0.need a0.wall a0.tasks a0.after a0.node a0.fro a0.to a0.id,(((),()),(((),()),())),())))))))))
 (cond (decide (a0.kind = 5))
 (some (.inr (.inr (.inr (.inr (.inr (.inl ((),(Request.mk 5 a0.key a0.job a0.version a0.queue a0.many a0.need a0.wall a0.tasks a0.after a0.node a0.fro a0.to a0.id,(((),()),(((),()),())),())))))))))
 (cond (decide (a0.kind = 4))
 (some (.inr (.inr (.inr (.inr (.inr (.inl ((),(Request.mk 4 a0.key a0.job a0.version a0.queue a0.many a0.need a0.wall a0.tasks a0.after a0.node a0.fro a0.to a0.id,(((),()),(((),()),())),())))))))))
 (cond (decide (a0.kind = 3))
 (some (.inr (.inr (.inr (.inr (.inr (.inl ((),(Request.mk 3 a0.key a0.job a0.version a0.queue a0.many a0.need a0.wall a0.tasks a0.after a0.node a0.fro a0.to a0.id,(((),()),(((),()),())),())))))))))
 (cond (decide (a0.kind = 2))
 (some (.inr (.inr (.inr (.inr (.inr (.inr (.inl ((),(Request.mk 2 a0.key a0.job a0.version a0.queue a0.many a0.need a0.wall a0.tasks a0.after a0.node a0.fro a0.to a0.id,(((),()),(((),()),(((),()),(((),()),(((),()),(((),()),(((),()),(((),()),())))))))),()))))))))))
 (cond (decide (a0.kind = 1))
 (some (.inr (.inr (.inr (.inr (.inr (.inr (.inr (.inl ((),(Request.mk 1 a0.key a0.job a0.version a0.queue a0.many a0.need a0.wall a0.tasks a0.after a0.node a0.fro a0.to a0.id,(((),()),(((),()),(((),()),(((),()),(((),()),(((),()),(((),()),(((),()),())))))))),())))))))))))
 (cond (decide (a0.kind = 0))
 (some (.inr (.inl ((),(Request.mk 0 a0.key a0.job a0.version a0.queue a0.many a0.need a0.wall a0.tasks a0.after a0.node a0.fro a0.to a0.id,())))))
 (none)))))))))))))
theorem e96 (L : Lp)  (x : s96.args.den) (h : denH s96.heap) : nrun [] L n96 s96 x h = F96 L  h.1 := by kernel_rfl
def f96 : Request → Option y96 := F96 (@LN LOOPS) 
@[reducible] def t96 : Ent := ⟨96,s96,fun x h => f96 h.1⟩
theorem k96 : chkNF Tryz.prog Tryz.f96 n96 = true := by kernel_rfl
theorem ok96 : NOk Tryz.prog t96 := NOk.body (T := []) mixed nall_nil (oneEach_of (by kernel_rfl)) Tryz.func96 k96 (by kernel_rfl) (fun x h => e96 _  x h)
def n66 : NFunc := ⟨26,.seq (.region 0 [
 o1 4 (.move kf) 0] []) (.seq (.seq (.region 0 [
 oM 6 0 0,
 o1 7 (.len (tm 6)) 0,
 oM 8 1 0,
 o1 9 (.len (tm 8)) 0,
 oB 10 .neq 7 9 0] []) (.cond (tm 10) (.seq (.region 0 [
 o1 4 (.move kf) 0] []) (.ret)) (.skip))) (.seq (.seq (.region 0 [
 oM 11 0 0,
 o1 12 (.len (tm 11)) 0,
 o1 13 (.move (ki 0)) 0] []) (.block 0 (.loop [0,1,12,13] ⟨[(13,vI)],[0,1,12],[]⟩ (.seq (.region 0 [
 oB 14 .lss 13 12 0] []) (.seq (.cond (tm 14) (.skip) (.exit 0)) (.seq (.block 1 (.seq (.region 0 [
 oM 15 13 0,
 oM 5 15 0] []) (.seq (.region 0 [
 o4 16 (.move (tm 0)) 0 [],
 o4 17 (.move (tm 5)) 0 [],
 o4 18 (.indexSl 2 (tm 16) (tm 17)) 0 [],
 o4 19 (.load true 2 (tm 18)) 0 [],
 o4 20 (.move (tm 1)) 0 [],
 o4 21 (.move (tm 5)) 0 [],
 o4 22 (.indexSl 2 (tm 20) (tm 21)) 0 [],
 o4 23 (.load true 2 (tm 22)) 0 [],
 o4 24 (.eqAgg (true,[.int .i64,.bool]) (tm 19) (tm 23)) 0 []] []) (.cond (tm 24) (.seq (.region 0 [
 o1 4 (.move kf) 0] []) (.ret)) (.skip))))) (.region 0 [
 oC 25 .add 13 1 0,
 oM 13 25 0] []))))))) (.seq (.region 0 [
 o1 4 (.move kt) 0] []) (.ret)))),[.tmp 4],false⟩
def s66 : Sig := ⟨(.cons (.v (.list .dep)) (.cons (.v (.list .dep)) .nil)),[],((.v .bool),[]),[]⟩
def l66_0 (as0 : (List Dep)) (as1 : (List Dep)) (nx3 : ((Int × Unit) × Unit) → Option Bool) (z4 : Int) : Option Bool :=
 cond (decide (z4 < (List.length as0 : Int)))
 (cond (decide (0 ≤ z4))
 (Option.bind (as0[Int.toNat z4]?) fun y5 =>
 cond (decide (0 ≤ z4))
 (Option.bind (as1[Int.toNat z4]?) fun y6 =>
 cond (!((decide (y5.job = y6.job)) && ((y5.ok == y6.ok) && true)))
 (some false)
 (nx3 ((IntKind.wrap .i64 (z4 + 1),()),())))
 (none))
 (none))
 (some true)
def F66 (L : Lp)  (as0 : (List Dep)) (as1 : (List Dep)) : Option Bool :=
 cond (!decide ((List.length as0 : Int) = (List.length as1 : Int)))
 (some false)
 (L (fun (s2 : ((Int × Unit) × Unit)) nx3 => l66_0 as0 as1 nx3 s2.1.1) ((0,()),()))
theorem e66 (L : Lp)  (x : s66.args.den) (h : denH s66.heap) : nrun [] L n66 s66 x h = F66 L  x.1 x.2.1 := by kernel_rfl
def f66 : (List Dep) → (List Dep) → Option Bool := F66 (@LN LOOPS) 
@[reducible] def t66 : Ent := ⟨66,s66,fun x h => f66 x.1 x.2.1⟩
theorem k66 : chkNF Tryz.prog Tryz.f66 n66 = true := by kernel_rfl
theorem ok66 : NOk Tryz.prog t66 := NOk.body (T := []) mixed nall_nil (oneEach_of (by kernel_rfl)) Tryz.func66 k66 (by kernel_rfl) (fun x h => e66 _  x h)
def n29 : NFunc := ⟨101,.seq (.region 2 [
 o1 2 (.box 17 (tm 0)) 0,
 o1 3 (.box 17 (tm 1)) 1,
 o1 4 (.move kf) 2] []) (.seq (.region 4 [
 oF 5 0 2 0,
 oL 6 5 0,
 oF 7 0 3 0,
 oL 8 7 0,
 oB 9 .eql 6 8 0,
 oM 10 9 0,
 o3 11 (.fieldAddr 1 (tm 2)) 10 0,
 o3 12 (.load false 1 (tm 11)) 10 0,
 o3 13 (.fieldAddr 1 (tm 3)) 10 0,
 o3 14 (.load false 1 (tm 13)) 10 0,
 o3 15 (.bin .eql (tm 12) (tm 14)) 10 0,
 o1 16 (.pick (tm 10) (tm 15) kf) 0,
 oM 17 16 0,
 o3 18 (.fieldAddr 2 (tm 2)) 17 0,
 o3 19 (.load false 1 (tm 18)) 17 0,
 o3 20 (.fieldAddr 2 (tm 3)) 17 0,
 o3 21 (.load false 1 (tm 20)) 17 0,
 o3 22 (.bin .eql (tm 19) (tm 21)) 17 0,
 o1 23 (.pick (tm 17) (tm 22) kf) 0,
 oM 24 23 0,
 o3 25 (.fieldAddr 3 (tm 2)) 24 0,
 o3 26 (.load false 1 (tm 25)) 24 0,
 o3 27 (.fieldAddr 3 (tm 3)) 24 0,
 o3 28 (.load false 1 (tm 27)) 24 0,
 o3 29 (.bin .eql (tm 26) (tm 28)) 24 0,
 o1 30 (.pick (tm 24) (tm 29) kf) 0,
 oM 31 30 0,
 o3 32 (.fieldAddr 4 (tm 2)) 31 0,
 o3 33 (.load false 1 (tm 32)) 31 0,
 o3 34 (.fieldAddr 4 (tm 3)) 31 0,
 o3 35 (.load false 1 (tm 34)) 31 0,
 o3 36 (.bin .eql (tm 33) (tm 35)) 31 0,
 o1 37 (.pick (tm 31) (tm 36) kf) 0,
 oM 38 37 0,
 o3 39 (.fieldAddr 5 (tm 2)) 38 0,
 o3 40 (.load false 1 (tm 39)) 38 0,
 o3 41 (.fieldAddr 5 (tm 3)) 38 0,
 o3 42 (.load false 1 (tm 41)) 38 0,
 o3 43 (.bin .eql (tm 40) (tm 42)) 38 0,
 o1 44 (.pick (tm 38) (tm 43) kf) 0,
 oM 45 44 0,
 o3 46 (.fieldAddr 6 (tm 2)) 45 0,
 o3 47 (.load true 4 (tm 46)) 45 0,
 o3 48 (.fieldAddr 6 (tm 3)) 45 0,
 o3 49 (.load true 4 (tm 48)) 45 0,
 o3 50 (.eqAgg (false,[.int .i64,.int .i64,.int .i64,.int .i64]) (tm 47) (tm 49)) 45 0,
 o1 51 (.pick (tm 45) (tm 50) kf) 0,
 oM 52 51 0,
 o3 53 (.fieldAddr 10 (tm 2)) 52 0,
 o3 54 (.load false 1 (tm 53)) 52 0,
 o3 55 (.fieldAddr 10 (tm 3)) 52 0,
 o3 56 (.load false 1 (tm 55)) 52 0,
 o3 57 (.bin .eql (tm 54) (tm 56)) 52 0,
 o1 58 (.pick (tm 52) (tm 57) kf) 0,
 oM 59 58 0,
 o3 60 (.fieldAddr 11 (tm 2)) 59 0,
 o3 61 (.load false 1 (tm 60)) 59 0,
 o3 62 (.fieldAddr 11 (tm 3)) 59 0,
 o3 63 (.load false 1 (tm 62)) 59 0,
 o3 64 (.bin .eql (tm 61) (tm 63)) 59 0,
 o1 65 (.pick (tm 59) (tm 64) kf) 0,
 oM 66 65 0,
 o3 67 (.fieldAddr 12 (tm 2)) 66 0,
 o3 68 (.load false 1 (tm 67)) 66 0,
 o3 69 (.fieldAddr 12 (tm 3)) 66 0,
 o3 70 (.load false 1 (tm 69)) 66 0,
 o3 71 (.call (fc 66) [(vv 68),(vv 70)] false 4) 66 0,
 o1 72 (.pick (tm 66) (tm 71) kf) 4,
 oM 73 72 4,
 o3 74 (.fieldAddr 13 (tm 2)) 73 4,
 o3 75 (.load false 1 (tm 74)) 73 4,
 o3 76 (.fieldAddr 13 (tm 3)) 73 4,
 o3 77 (.load false 1 (tm 76)) 73 4,
 o3 78 (.bin .eql (tm 75) (tm 77)) 73 4,
 o1 79 (.pick (tm 73) (tm 78) kf) 4,
 oM 80 79 4,
 o3 81 (.fieldAddr 14 (tm 2)) 80 4,
 o3 82 (.load false 1 (tm 81)) 80 4,
 o3 83 (.fieldAddr 14 (tm 3)) 80 4,
 o3 84 (.load false 1 (tm 83)) 80 4,
 o3 85 (.bin .eql (tm 82) (tm 84)) 80 4,
 o1 86 (.pick (tm 80) (tm 85) kf) 4,
 oM 87 86 4,
 o3 88 (.fieldAddr 15 (tm 2)) 87 4,
 o3 89 (.load false 1 (tm 88)) 87 4,
 o3 90 (.fieldAddr 15 (tm 3)) 87 4,
 o3 91 (.load false 1 (tm 90)) 87 4,
 o3 92 (.bin .eql (tm 89) (tm 91)) 87 4,
 o1 93 (.pick (tm 87) (tm 92) kf) 4,
 oM 94 93 4,
 o3 95 (.fieldAddr 16 (tm 2)) 94 4,
 o3 96 (.load false 1 (tm 95)) 94 4,
 o3 97 (.fieldAddr 16 (tm 3)) 94 4,
 o3 98 (.load false 1 (tm 97)) 94 4,
 o3 99 (.bin .eql (tm 96) (tm 98)) 94 4,
 o1 100 (.pick (tm 94) (tm 99) kf) 4,
 oM 4 100 4] []) (.ret)),[.tmp 4],true⟩
def s29 : Sig := ⟨(.cons (.v .request) (.cons (.v .request) .nil)),[],((.v .bool),[]),[]⟩
def F29 (L : Lp) (g66 : (List Dep) → (List Dep) → Option Bool) (a0 : Request) (b1 : Request) : Option Bool :=
 cond (decide (a0.kind = b1.kind))
 (cond (decide (a0.key = b1.key))
 (cond (decide (a0.job = b1.job))
 (cond (decide (a0.version = b1.version))
 (cond (decide (a0.queue = b1.queue))
 (cond (decide (a0.many = b1.many))
 (cond ((decide (a0.need.cpu = b1.need.cpu)) && ((decide (a0.need.mem = b1.need.mem)) && ((decide (a0.need.gpu = b1.need.gpu)) && ((decide (a0.need.lic = b1.need.lic)) && true))))
 (cond (decide (a0.wall = b1.wall))
 (cond (decide (a0.tasks = b1.tasks))
 (Option.bind (g66 a0.after b1.after) fun r2 =>
 cond r2
 (cond (decide (a0.node = b1.node))
 (cond (decide (a0.fro = b1.fro))
 (cond (decide (a0.to = b1.to))
 (some (decide (a0.id = b1.id)))
 (some false))
 (some false))
 (some false))
 (some false))
 (some false))
 (some false))
 (some false))
 (some false))
 (some false))
 (some false))
 (some false))
 (some false))
 (some false)
theorem e29 (L : Lp) (g66 : (List Dep) → (List Dep) → Option Bool) (x : s29.args.den) (h : denH s29.heap) : nrun [⟨66,s66,fun x h => g66 x.1 x.2.1⟩] L n29 s29 x h = F29 L g66 x.1 x.2.1 := by kernel_rfl
def f29 : Request → Request → Option Bool := F29 (@LN LOOPS) f66
@[reducible] def t29 : Ent := ⟨29,s29,fun x h => f29 x.1 x.2.1⟩
theorem k29 : chkNF Tryz.prog Tryz.f29 n29 = true := by kernel_rfl
theorem ok29 : NOk Tryz.prog t29 := NOk.body (T := [t66]) mixed (nall_cons ok66 nall_nil) (oneEach_of (by kernel_rfl)) Tryz.func29 k29 (by kernel_rfl) (fun x h => e29 _ _ x h)
def n58 : NFunc := ⟨56,.seq (.region 1 [
 o1 1 (.box 17 (tm 0)) 0,
 o1 2 (.move kf) 1] []) (.seq (.seq (.region 8 [
 oF 6 0 1 0,
 oL 7 6 0,
 o1 8 (.call (fc 94) [(vv 7)] false 4) 0,
 o1 9 (.un .not (tm 8)) 4,
 oM 10 9 4,
 o2 11 (.fieldAddr 1 (tm 1)) 10 4,
 o2 12 (.load false 1 (tm 11)) 10 4,
 o2 13 (.bin .lss (tm 12) (ki 1)) 10 4,
 o1 14 (.pick (tm 10) kt (tm 13)) 4,
 oM 15 14 4,
 o2 16 (.fieldAddr 1 (tm 1)) 15 4,
 o2 17 (.load false 1 (tm 16)) 15 4,
 o2 18 (.bin .gtr (tm 17) (ki 1073741824)) 15 4,
 o1 19 (.pick (tm 15) kt (tm 18)) 4,
 oM 20 19 4,
 o2 21 (.fieldAddr 0 (tm 1)) 20 4,
 o2 22 (.load false 1 (tm 21)) 20 4,
 o2 23 (.fieldAddr 12 (tm 1)) 20 4,
 o2 24 (.load false 1 (tm 23)) 20 4,
 o2 25 (.call (fc 95) [(vv 22),(vv 24)] false 4) 20 4,
 o2 26 (.un .not (tm 25)) 20 8,
 o1 27 (.pick (tm 20) kt (tm 26)) 8] []) (.cond (tm 27) (.seq (.region 0 [
 o1 2 (.move kf) 0] []) (.ret)) (.skip))) (.seq (.region 1 [
 oT 28 17 1 0,
 o1 3 (.alloc [iz,iz,iz,iz,iz,iz,iz,iz,iz,iz,iz,iz,.zsl,iz,iz,iz,iz]) 0,
 oS 17 3 28 1] []) (.seq (.region 0 [
 oF 29 12 3 0,
 ⟨none,.store 1 (tm 29) (.const (.zsl)),none,0,none⟩] []) (.seq (.join [1,3] [] ⟨[(1,(.ptr 0 0 0)),(3,(.ptr 1 0 0))],[],[.one false .request,.one false .request]⟩ (.seq (.region 4 [
 o1 30 (.call (fc 96) [(vw 3)] false 4) 0,
 o1 31 (.len (tm 30)) 4,
 o1 32 (.move (ki 0)) 4] []) (.block 0 (.loopU [1,3,30,31,32] 9 (.seq (.region 0 [
 oB 33 .lss 32 31 0] []) (.seq (.cond (tm 33) (.skip) (.exit 0)) (.seq (.block 1 (.seq (.region 0 [
 o1 34 (.indexSl 1 (tm 30) (tm 32)) 0,
 oL 35 34 0,
 oM 5 35 0] []) (.seq (.seq (.region 0 [
 oM 36 5 0,
 o1 37 (.nilCheck (tm 36)) 0,
 oL 38 37 0,
 oC 39 .lss 38 0 0,
 oM 40 39 0,
 oN 41 5 40 0,
 o2 42 (.nilCheck (tm 41)) 40 0,
 o2 43 (.load false 1 (tm 42)) 40 0,
 o2 44 (.bin .gtr (tm 43) (ki 281474976710656)) 40 0,
 o1 45 (.pick (tm 40) kt (tm 44)) 0] []) (.cond (tm 45) (.seq (.region 0 [
 o1 2 (.move kf) 0] []) (.ret)) (.skip))) (.region 0 [
 oM 46 5 0,
 o1 47 (.nilCheck (tm 46)) 0,
 ⟨none,.store 1 (tm 47) (ki 0),none,0,none⟩] [])))) (.region 0 [
 oC 48 .add 32 1 0,
 oM 32 48 0] [])))))))) (.seq (.region 4 [
 oT 49 17 3 0,
 oF 50 0 1 0,
 oL 51 50 0,
 oF 52 1 1 0,
 oL 53 52 0,
 o1 54 (.build [iz,iz,iz,iz,iz,iz,iz,iz,iz,iz,iz,iz,.zsl,iz,iz,iz,iz] [(0,1,(tm 51)),(1,1,(tm 53))]) 0,
 o1 55 (.call (fc 29) [(vv 49),(vv 54)] false 4) 0,
 oM 2 55 4] []) (.ret)))))),[.tmp 2],true⟩
def s58 : Sig := ⟨(.cons (.v .request) .nil),[],((.v .bool),[]),[]⟩
def F58 (L : Lp) (g94 : Int → Option Bool) (g95 : Int → (List Dep) → Option Bool) (g96 : Request → Option y96) (g29 : Request → Request → Option Bool) (ar0 : Request) : Option Bool :=
 Option.bind (g94 ar0.kind) fun r1 =>
 cond (!r1)
 (some false)
 (cond (decide (ar0.key < 1))
 (some false)
 (cond (decide (1073741824 < ar0.key))
 (some false)
 (Option.bind (g95 ar0.kind ar0.after) fun r2 =>
 cond (!r2)
 (some false)
 (Option.bind (α := (((Unit × (Unit × Unit)) × (Request × (Request × Unit))) ⊕ Bool))
 (Option.bind (g96 (Request.mk ar0.kind ar0.key ar0.job ar0.version ar0.queue ar0.many ar0.need ar0.wall ar0.tasks [] ar0.node ar0.fro ar0.to ar0.id)) (Sum.elim (fun r3 =>
 cond (decide (r3.2.1.node < 0))
 (some (.inr false))
 (cond (decide (281474976710656 < r3.2.1.node))
 (some (.inr false))
 (cond (decide (r3.2.1.fro < 0))
 (some (.inr false))
 (cond (decide (281474976710656 < r3.2.1.fro))
 (some (.inr false))
 (cond (decide (r3.2.1.to < 0))
 (some (.inr false))
 (cond (decide (281474976710656 < r3.2.1.to))
 (some (.inr false))
 (some (.inl (((),(),()),(ar0,Request.mk r3.2.1.kind r3.2.1.key r3.2.1.job r3.2.1.version r3.2.1.queue r3.2.1.many r3.2.1.need r3.2.1.wall r3.2.1.tasks r3.2.1.after 0 0 0 r3.2.1.id,())))))))))) (Sum.elim (fun r4 =>
 some (.inl (((),(),()),(ar0,r4.2.1,())))) (Sum.elim (fun r5 =>
 cond (decide (r5.2.1.queue < 0))
 (some (.inr false))
 (cond (decide (281474976710656 < r5.2.1.queue))
 (some (.inr false))
 (some (.inl (((),(),()),(ar0,Request.mk r5.2.1.kind r5.2.1.key r5.2.1.job r5.2.1.version 0 r5.2.1.many r5.2.1.need r5.2.1.wall r5.2.1.tasks r5.2.1.after r5.2.1.node r5.2.1.fro r5.2.1.to r5.2.1.id,())))))) (Sum.elim (fun r6 =>
 cond (decide (r6.2.1.job < 0))
 (some (.inr false))
 (cond (decide (281474976710656 < r6.2.1.job))
 (some (.inr false))
 (some (.inl (((),(),()),(ar0,Request.mk r6.2.1.kind r6.2.1.key 0 r6.2.1.version r6.2.1.queue r6.2.1.many r6.2.1.need r6.2.1.wall r6.2.1.tasks r6.2.1.after r6.2.1.node r6.2.1.fro r6.2.1.to r6.2.1.id,())))))) (Sum.elim (fun r7 =>
 cond (decide (r7.2.1.job < 0))
 (some (.inr false))
 (cond (decide (281474976710656 < r7.2.1.job))
 (some (.inr false))
 (cond (decide (r7.2.1.version < 0))
 (some (.inr false))
 (cond (decide (281474976710656 < r7.2.1.version))
 (some (.inr false))
 (cond (decide (r7.2.1.queue < 0))
 (some (.inr false))
 (cond (decide (281474976710656 < r7.2.1.queue))
 (some (.inr false))
 (some (.inl (((),(),()),(ar0,Request.mk r7.2.1.kind r7.2.1.key 0 0 0 r7.2.1.many r7.2.1.need r7.2.1.wall r7.2.1.tasks r7.2.1.after r7.2.1.node r7.2.1.fro r7.2.1.to r7.2.1.id,())))))))))) (Sum.elim (fun r8 =>
 cond (decide (r8.2.1.job < 0))
 (some (.inr false))
 (cond (decide (281474976710656 < r8.2.1.job))
 (some (.inr false))
 (cond (decide (r8.2.1.version < 0))
 (some (.inr false))
 (cond (decide (281474976710656 < r8.2.1.version))
 (some (.inr false))
 (some (.inl (((),(),()),(ar0,Request.mk r8.2.1.kind r8.2.1.key 0 0 r8.2.1.queue r8.2.1.many r8.2.1.need r8.2.1.wall r8.2.1.tasks r8.2.1.after r8.2.1.node r8.2.1.fro r8.2.1.to r8.2.1.id,())))))))) (Sum.elim (fun r9 =>
 cond (decide (r9.2.1.job < 0))
 (some (.inr false))
 (cond (decide (281474976710656 < r9.2.1.job))
 (some (.inr false))
 (cond (decide (r9.2.1.version < 0))
 (some (.inr false))
 (cond (decide (281474976710656 < r9.2.1.version))
 (some (.inr false))
 (cond (decide (r9.2.1.many < 0))
 (some (.inr false))
 (cond (decide (281474976710656 < r9.2.1.many))
 (some (.inr false))
 (cond (decide (r9.2.1.need.cpu < 0))
 (some (.inr false))
 (cond (decide (281474976710656 < r9.2.1.need.cpu))
 (some (.inr false))
 (cond (decide (r9.2.1.need.mem < 0))
 (some (.inr false))
 (cond (decide (281474976710656 < r9.2.1.need.mem))
 (some (.inr false))
 (cond (decide (r9.2.1.need.gpu < 0))
 (some (.inr false))
 (cond (decide (281474976710656 < r9.2.1.need.gpu))
 (some (.inr false))
 (cond (decide (r9.2.1.need.lic < 0))
 (some (.inr false))
 (cond (decide (281474976710656 < r9.2.1.need.lic))
 (some (.inr false))
 (cond (decide (r9.2.1.wall < 0))
 (some (.inr false))
 (cond (decide (281474976710656 < r9.2.1.wall))
 (some (.inr false))
 (some (.inl (((),(),()),(ar0,Request.mk r9.2.1.kind r9.2.1.key 0 0 r9.2.1.queue 0 (Res.mk 0 0 0 0) 0 r9.2.1.tasks r9.2.1.after r9.2.1.node r9.2.1.fro r9.2.1.to r9.2.1.id,())))))))))))))))))))) (Sum.elim (fun r10 =>
 cond (decide (r10.2.1.queue < 0))
 (some (.inr false))
 (cond (decide (281474976710656 < r10.2.1.queue))
 (some (.inr false))
 (cond (decide (r10.2.1.many < 0))
 (some (.inr false))
 (cond (decide (281474976710656 < r10.2.1.many))
 (some (.inr false))
 (cond (decide (r10.2.1.need.cpu < 0))
 (some (.inr false))
 (cond (decide (281474976710656 < r10.2.1.need.cpu))
 (some (.inr false))
 (cond (decide (r10.2.1.need.mem < 0))
 (some (.inr false))
 (cond (decide (281474976710656 < r10.2.1.need.mem))
 (some (.inr false))
 (cond (decide (r10.2.1.need.gpu < 0))
 (some (.inr false))
 (cond (decide (281474976710656 < r10.2.1.need.gpu))
 (some (.inr false))
 (cond (decide (r10.2.1.need.lic < 0))
 (some (.inr false))
 (cond (decide (281474976710656 < r10.2.1.need.lic))
 (some (.inr false))
 (cond (decide (r10.2.1.wall < 0))
 (some (.inr false))
 (cond (decide (281474976710656 < r10.2.1.wall))
 (some (.inr false))
 (cond (decide (r10.2.1.tasks < 0))
 (some (.inr false))
 (cond (decide (281474976710656 < r10.2.1.tasks))
 (some (.inr false))
 (some (.inl (((),(),()),(ar0,Request.mk r10.2.1.kind r10.2.1.key r10.2.1.job r10.2.1.version 0 0 (Res.mk 0 0 0 0) 0 0 r10.2.1.after r10.2.1.node r10.2.1.fro r10.2.1.to r10.2.1.id,())))))))))))))))))))) (fun r11 =>
 cond (decide (r11.2.1.id < 0))
 (some (.inr false))
 (cond (decide (281474976710656 < r11.2.1.id))
 (some (.inr false))
 (some (.inl (((),(),()),(ar0,Request.mk r11.2.1.kind r11.2.1.key r11.2.1.job r11.2.1.version r11.2.1.queue r11.2.1.many r11.2.1.need r11.2.1.wall r11.2.1.tasks r11.2.1.after r11.2.1.node r11.2.1.fro r11.2.1.to 0,()))))))))))))))) (Sum.elim (fun x12 =>
 Option.bind (g29 x12.2.2.1 (Request.mk x12.2.1.kind x12.2.1.key 0 0 0 0 (Res.mk 0 0 0 0) 0 0 [] 0 0 0 0)) fun r13 =>
 some r13) some)))))
theorem e58 (L : Lp) (g94 : Int → Option Bool) (g95 : Int → (List Dep) → Option Bool) (g96 : Request → Option y96) (g29 : Request → Request → Option Bool) (x : s58.args.den) (h : denH s58.heap) : nrun [⟨94,s94,fun x h => g94 x.1⟩,⟨95,s95,fun x h => g95 x.1 x.2.1⟩,⟨96,s96,fun x h => g96 h.1⟩,⟨29,s29,fun x h => g29 x.1 x.2.1⟩] L n58 s58 x h = F58 L g94 g95 g96 g29 x.1 := by kernel_rfl
def f58 : Request → Option Bool := F58 (@LN LOOPS) f94 f95 f96 f29
@[reducible] def t58 : Ent := ⟨58,s58,fun x h => f58 x.1⟩
theorem k58 : chkNF Tryz.prog Tryz.f58 n58 = true := by kernel_rfl
theorem ok58 : NOk Tryz.prog t58 := NOk.body (T := [t94,t95,t96,t29]) mixed (nall_cons ok94 (nall_cons ok95 (nall_cons ok96 (nall_cons ok29 nall_nil)))) (oneEach_of (by kernel_rfl)) Tryz.func58 k58 (by kernel_rfl) (fun x h => e58 _ _ _ _ _ x h)
def n97 : NFunc := ⟨12,.seq (.region 2 [
 o1 1 (.box 4 (tm 0)) 0,
 o1 2 (.alloc [iz,iz,iz,iz]) 1] []) (.seq (.region 0 [
 oF 3 0 1 0,
 oL 4 3 0,
 oF 5 1 1 0,
 oL 6 5 0,
 oF 7 2 1 0,
 oL 8 7 0,
 oF 9 3 1 0,
 oL 10 9 0,
 o1 11 (.build [iz,iz,iz,iz] [(0,1,(tm 4)),(1,1,(tm 6)),(2,1,(tm 8)),(3,1,(tm 10))]) 0,
 oS 4 2 11 0] []) (.ret)),[.cell true 4 2],true⟩
def s97 : Sig := ⟨(.cons (.v .res) .nil),[],((.v (.pair (.int .i64) (.pair (.int .i64) (.pair (.int .i64) (.int .i64))))),[]),[]⟩
def F97 (L : Lp)  (a0 : Res) : Option (Int × (Int × (Int × Int))) :=
 some (a0.cpu,(a0.mem,(a0.gpu,a0.lic)))
theorem e97 (L : Lp)  (x : s97.args.den) (h : denH s97.heap) : nrun [] L n97 s97 x h = F97 L  x.1 := by kernel_rfl
def f97 : Res → Option (Int × (Int × (Int × Int))) := F97 (@LN LOOPS) 
@[reducible] def t97 : Ent := ⟨97,s97,fun x h => f97 x.1⟩
theorem k97 : chkNF Tryz.prog Tryz.f97 n97 = true := by kernel_rfl
theorem ok97 : NOk Tryz.prog t97 := NOk.body (T := []) mixed nall_nil (oneEach_of (by kernel_rfl)) Tryz.func97 k97 (by kernel_rfl) (fun x h => e97 _  x h)
def n59 : NFunc := ⟨17,.seq (.region 1 [
 o1 1 (.box 4 (tm 0)) 0,
 o1 2 (.move kf) 1] []) (.seq (.seq (.region 4 [
 oT 5 4 1 0,
 o1 6 (.call (fc 97) [(vv 5)] false 4) 0,
 o1 7 (.move (ki 0)) 4] []) (.block 0 (.loopU [6,7] 5 (.seq (.region 0 [
 oC 8 .lss 7 4 0] []) (.seq (.cond (tm 8) (.skip) (.exit 0)) (.seq (.block 1 (.seq (.region 0 [
 o1 9 (.indexVal false 4 1 (tm 6) (tm 7)) 0,
 oM 4 9 0] []) (.seq (.region 0 [
 oM 10 4 0,
 oC 11 .lss 10 0 0,
 oM 12 11 0,
 oN 13 4 12 0,
 o2 14 (.bin .gtr (tm 13) (ki 1048576)) 12 0,
 o1 15 (.pick (tm 12) kt (tm 14)) 0] []) (.cond (tm 15) (.seq (.region 0 [
 o1 2 (.move kf) 0] []) (.ret)) (.skip))))) (.region 0 [
 oC 16 .add 7 1 0,
 oM 7 16 0] []))))))) (.seq (.region 0 [
 o1 2 (.move kt) 0] []) (.ret))),[.tmp 2],true⟩
def s59 : Sig := ⟨(.cons (.v .res) .nil),[],((.v .bool),[]),[]⟩
def F59 (L : Lp) (g97 : Res → Option (Int × (Int × (Int × Int)))) (a0 : Res) : Option Bool :=
 Option.bind (g97 a0) fun r1 =>
 cond (decide (r1.1 < 0))
 (some false)
 (cond (decide (1048576 < r1.1))
 (some false)
 (cond (decide (r1.2.1 < 0))
 (some false)
 (cond (decide (1048576 < r1.2.1))
 (some false)
 (cond (decide (r1.2.2.1 < 0))
 (some false)
 (cond (decide (1048576 < r1.2.2.1))
 (some false)
 (cond (decide (r1.2.2.2 < 0))
 (some false)
 (cond (decide (1048576 < r1.2.2.2))
 (some false)
 (some true))))))))
theorem e59 (L : Lp) (g97 : Res → Option (Int × (Int × (Int × Int)))) (x : s59.args.den) (h : denH s59.heap) : nrun [⟨97,s97,fun x h => g97 x.1⟩] L n59 s59 x h = F59 L g97 x.1 := by kernel_rfl
def f59 : Res → Option Bool := F59 (@LN LOOPS) f97
@[reducible] def t59 : Ent := ⟨59,s59,fun x h => f59 x.1⟩
theorem k59 : chkNF Tryz.prog Tryz.f59 n59 = true := by kernel_rfl
theorem ok59 : NOk Tryz.prog t59 := NOk.body (T := [t97]) mixed (nall_cons ok97 nall_nil) (oneEach_of (by kernel_rfl)) Tryz.func59 k59 (by kernel_rfl) (fun x h => e59 _ _ x h)
def s28 : Sig := ⟨(.cons (.v (.list (.int .u8))) (.cons (.v (.list (.int .u8))) .nil)),[],((.v .bool),[]),[]⟩
def f28 : (List Int) → (List Int) → Option Bool := eqBytesF
@[reducible] def t28 : Ent := ⟨28,s28,fun x h => f28 x.1 x.2.1⟩
theorem ok28 : NOk Tryz.prog t28 := ext28
def n10 : NFunc := ⟨59,.seq (.region 2 [
 o1 2 (.box 24 (tm 0)) 0,
 o1 3 (.box 24 (tm 1)) 1,
 o1 4 (.move kf) 2] []) (.seq (.region 8 [
 oF 5 0 2 0,
 oL 6 5 0,
 oF 7 0 3 0,
 oL 8 7 0,
 oB 9 .eql 6 8 0,
 oM 10 9 0,
 o3 11 (.fieldAddr 1 (tm 2)) 10 0,
 o3 12 (.load false 1 (tm 11)) 10 0,
 o3 13 (.fieldAddr 1 (tm 3)) 10 0,
 o3 14 (.load false 1 (tm 13)) 10 0,
 o3 15 (.bin .eql (tm 12) (tm 14)) 10 0,
 o1 16 (.pick (tm 10) (tm 15) kf) 0,
 oM 17 16 0,
 o3 18 (.fieldAddr 20 (tm 2)) 17 0,
 o3 19 (.load false 1 (tm 18)) 17 0,
 o3 20 (.fieldAddr 20 (tm 3)) 17 0,
 o3 21 (.load false 1 (tm 20)) 17 0,
 o3 22 (.bin .eql (tm 19) (tm 21)) 17 0,
 o1 23 (.pick (tm 17) (tm 22) kf) 0,
 oM 24 23 0,
 o3 25 (.fieldAddr 21 (tm 2)) 24 0,
 o3 26 (.load false 1 (tm 25)) 24 0,
 o3 27 (.fieldAddr 21 (tm 3)) 24 0,
 o3 28 (.load false 1 (tm 27)) 24 0,
 o3 29 (.eqB false (tm 26) (tm 28)) 24 0,
 o1 30 (.pick (tm 24) (tm 29) kf) 0,
 oM 31 30 0,
 o3 32 (.fieldAddr 22 (tm 2)) 31 0,
 o3 33 (.load false 1 (tm 32)) 31 0,
 o3 34 (.fieldAddr 22 (tm 3)) 31 0,
 o3 35 (.load false 1 (tm 34)) 31 0,
 o3 36 (.bin .eql (tm 33) (tm 35)) 31 0,
 o1 37 (.pick (tm 31) (tm 36) kf) 0,
 oM 38 37 0,
 o3 39 (.fieldAddr 23 (tm 2)) 38 0,
 o3 40 (.load false 1 (tm 39)) 38 0,
 o3 41 (.fieldAddr 23 (tm 3)) 38 0,
 o3 42 (.load false 1 (tm 41)) 38 0,
 o3 43 (.eqB false (tm 40) (tm 42)) 38 0,
 o1 44 (.pick (tm 38) (tm 43) kf) 0,
 oM 45 44 0,
 o3 46 (.fieldAddr 19 (tm 2)) 45 0,
 o3 47 (.load false 1 (tm 46)) 45 0,
 o3 48 (.fieldAddr 19 (tm 3)) 45 0,
 o3 49 (.load false 1 (tm 48)) 45 0,
 o3 50 (.call (fc 28) [(vv 47),(vv 49)] false 4) 45 0,
 o1 51 (.pick (tm 45) (tm 50) kf) 4,
 oM 52 51 4,
 o3 53 (.fieldAddr 2 (tm 2)) 52 4,
 o3 54 (.load true 17 (tm 53)) 52 4,
 o3 55 (.fieldAddr 2 (tm 3)) 52 4,
 o3 56 (.load true 17 (tm 55)) 52 4,
 o3 57 (.call (fc 29) [(vv 54),(vv 56)] false 4) 52 4,
 o1 58 (.pick (tm 52) (tm 57) kf) 8,
 oM 4 58 8] []) (.ret)),[.tmp 4],true⟩
def s10 : Sig := ⟨(.cons (.v (.pair (.int .i64) (.pair (.int .i64) (.pair .request (.pair (.list (.int .u8)) (.pair (.int .i64) (.pair .bool (.pair (.int .i64) .bool)))))))) (.cons (.v (.pair (.int .i64) (.pair (.int .i64) (.pair .request (.pair (.list (.int .u8)) (.pair (.int .i64) (.pair .bool (.pair (.int .i64) .bool)))))))) .nil)),[],((.v .bool),[]),[]⟩
def F10 (L : Lp) (g28 : (List Int) → (List Int) → Option Bool) (g29 : Request → Request → Option Bool) (a0 : (Int × (Int × (Request × ((List Int) × (Int × (Bool × (Int × Bool)))))))) (b1 : (Int × (Int × (Request × ((List Int) × (Int × (Bool × (Int × Bool)))))))) : Option Bool :=
 cond (decide (a0.1 = b1.1))
 (cond (decide (a0.2.1 = b1.2.1))
 (cond (decide (a0.2.2.2.2.1 = b1.2.2.2.2.1))
 (cond (a0.2.2.2.2.2.1 == b1.2.2.2.2.2.1)
 (cond (decide (a0.2.2.2.2.2.2.1 = b1.2.2.2.2.2.2.1))
 (cond (a0.2.2.2.2.2.2.2 == b1.2.2.2.2.2.2.2)
 (Option.bind (g28 a0.2.2.2.1 b1.2.2.2.1) fun r2 =>
 cond r2
 (Option.bind (g29 a0.2.2.1 b1.2.2.1) fun r3 =>
 some r3)
 (some false))
 (some false))
 (some false))
 (some false))
 (some false))
 (some false))
 (some false)
theorem e10 (L : Lp) (g28 : (List Int) → (List Int) → Option Bool) (g29 : Request → Request → Option Bool) (x : s10.args.den) (h : denH s10.heap) : nrun [⟨28,s28,fun x h => g28 x.1 x.2.1⟩,⟨29,s29,fun x h => g29 x.1 x.2.1⟩] L n10 s10 x h = F10 L g28 g29 x.1 x.2.1 := by kernel_rfl
def f10 : (Int × (Int × (Request × ((List Int) × (Int × (Bool × (Int × Bool))))))) → (Int × (Int × (Request × ((List Int) × (Int × (Bool × (Int × Bool))))))) → Option Bool := F10 (@LN LOOPS) f28 f29
@[reducible] def t10 : Ent := ⟨10,s10,fun x h => f10 x.1 x.2.1⟩
theorem k10 : chkNF Tryz.prog Tryz.f10 n10 = true := by kernel_rfl
theorem ok10 : NOk Tryz.prog t10 := NOk.body (T := [t28,t29]) mixed (nall_cons ok28 (nall_cons ok29 nall_nil)) (oneEach_of (by kernel_rfl)) Tryz.func10 k10 (by kernel_rfl) (fun x h => e10 _ _ _ x h)
def n25 : NFunc := ⟨88,.seq (.region 1 [
 o1 1 (.box 24 (tm 0)) 0,
 o1 2 (.move kf) 1] []) (.seq (.seq (.region 12 [
 oF 4 0 1 0,
 oL 5 4 0,
 oC 6 .lss 5 1 0,
 oM 7 6 0,
 o2 8 (.fieldAddr 0 (tm 1)) 7 0,
 o2 9 (.load false 1 (tm 8)) 7 0,
 o2 10 (.bin .gtr (tm 9) (ki 10)) 7 0,
 o1 11 (.pick (tm 7) kt (tm 10)) 0,
 oM 12 11 0,
 o2 13 (.fieldAddr 1 (tm 1)) 12 0,
 o2 14 (.load false 1 (tm 13)) 12 0,
 o2 15 (.call (fc 57) [(vv 14)] false 4) 12 0,
 o2 16 (.un .not (tm 15)) 12 4,
 o1 17 (.pick (tm 12) kt (tm 16)) 4,
 oM 18 17 4,
 o2 19 (.fieldAddr 20 (tm 1)) 18 4,
 o2 20 (.load false 1 (tm 19)) 18 4,
 o2 21 (.call (fc 57) [(vv 20)] false 4) 18 4,
 o2 22 (.un .not (tm 21)) 18 8,
 o1 23 (.pick (tm 18) kt (tm 22)) 8,
 oM 24 23 8,
 o2 25 (.fieldAddr 22 (tm 1)) 24 8,
 o2 26 (.load false 1 (tm 25)) 24 8,
 o2 27 (.call (fc 57) [(vv 26)] false 4) 24 8,
 o2 28 (.un .not (tm 27)) 24 12,
 o1 29 (.pick (tm 24) kt (tm 28)) 12] []) (.cond (tm 29) (.seq (.region 0 [
 o1 2 (.move kf) 0] []) (.ret)) (.skip))) (.seq (.region 1 [
 oT 30 24 1 0,
 o1 3 (.alloc [iz,iz,iz,iz,iz,iz,iz,iz,iz,iz,iz,iz,iz,iz,.zsl,iz,iz,iz,iz,.zsl,iz,.bool false,iz,.bool false]) 0,
 oS 24 3 30 1] []) (.seq (.region 0 [
 oF 31 0 3 0,
 ⟨none,.store 1 (tm 31) (ki 0),none,0,none⟩] []) (.seq (.join [3] [] ⟨[(3,(.ptr 0 0 0))],[],[.cell false (.cons vI (.cons vI (.cons vI (.cons vI (.cons vI (.cons vI (.cons vI (.cons vI (.cons vI (.cons vI (.cons vI (.cons vI (.cons vI (.cons vI (.cons (.v (.list .dep)) (.cons vI (.cons vI (.cons vI (.cons vI (.cons (.v (.list (.int .u8))) (.cons vI (.cons (.v .bool) (.cons vI (.cons (.v .bool) .nil))))))))))))))))))))))))]⟩ (.seq (.region 0 [
 oF 32 0 1 0,
 oL 33 32 0] []) (.block 0 (.seq (.region 0 [
 oC 35 .eql 33 1 0,
 oM 34 35 0] []) (.cond (tm 34) (.seq (.seq (.region 8 [
 oF 36 2 1 0,
 oT 37 17 36 0,
 o1 38 (.call (fc 58) [(vv 37)] false 4) 0,
 o1 39 (.un .not (tm 38)) 4,
 oM 40 39 4,
 o2 41 (.fieldAddr 2 (tm 1)) 40 4,
 o2 42 (.fieldAddr 6 (tm 41)) 40 4,
 o2 43 (.load true 4 (tm 42)) 40 4,
 o2 44 (.call (fc 59) [(vv 43)] false 4) 40 4,
 o2 45 (.un .not (tm 44)) 40 8,
 o1 46 (.pick (tm 40) kt (tm 45)) 8,
 oM 47 46 8,
 o2 48 (.fieldAddr 2 (tm 1)) 47 8,
 o2 49 (.fieldAddr 10 (tm 48)) 47 8,
 o2 50 (.load false 1 (tm 49)) 47 8,
 o2 51 (.bin .gtr (tm 50) (ki 65536)) 47 8,
 o1 52 (.pick (tm 47) kt (tm 51)) 8] []) (.cond (tm 52) (.seq (.region 0 [
 o1 2 (.move kf) 0] []) (.ret)) (.skip))) (.region 0 [
 o1 53 (.build [iz,iz,iz,iz,iz,iz,iz,iz,iz,iz,iz,iz,.zsl,iz,iz,iz,iz] []) 0,
 oF 54 1 3 0,
 ⟨none,.store 1 (tm 54) (ki 0),none,0,none⟩,
 oF 55 2 3 0,
 oS 17 55 53 0] [])) (.seq (.region 0 [
 oC 57 .eql 33 2 0,
 oM 56 57 0] []) (.cond (tm 56) (.seq (.seq (.region 0 [
 oF 58 19 1 0,
 oL 59 58 0,
 o1 60 (.len (tm 59)) 0,
 oC 61 .lss 60 1 0,
 oM 62 61 0,
 o2 63 (.fieldAddr 19 (tm 1)) 62 0,
 o2 64 (.load false 1 (tm 63)) 62 0,
 o2 65 (.len (tm 64)) 62 0,
 o2 66 (.bin .gtr (tm 65) (ki 480)) 62 0,
 o1 67 (.pick (tm 62) kt (tm 66)) 0] []) (.cond (tm 67) (.seq (.region 0 [
 o1 2 (.move kf) 0] []) (.ret)) (.skip))) (.region 0 [
 oF 68 1 3 0,
 ⟨none,.store 1 (tm 68) (ki 0),none,0,none⟩,
 oF 69 19 3 0,
 ⟨none,.store 1 (tm 69) (.const (.zsl)),none,0,none⟩] [])) (.seq (.meet [3,33,70] [] ⟨[(3,(.ptr 0 0 0)),(70,(.v .bool))],[33],[.one false (.pair (.int .i64) (.pair (.int .i64) (.pair .request (.pair (.list (.int .u8)) (.pair (.int .i64) (.pair .bool (.pair (.int .i64) .bool)))))))]⟩ (.seq (.region 0 [
 oC 71 .eql 33 3 0,
 oM 70 71 0] []) (.cond (tm 70) (.skip) (.region 0 [
 oC 72 .eql 33 9 0,
 oM 70 72 0] [])))) (.cond (tm 70) (.region 0 [
 oF 73 1 3 0,
 ⟨none,.store 1 (tm 73) (ki 0),none,0,none⟩,
 oF 74 20 3 0,
 ⟨none,.store 1 (tm 74) (ki 0),none,0,none⟩,
 oF 75 21 3 0,
 ⟨none,.store 1 (tm 75) kf,none,0,none⟩] []) (.seq (.seq (.region 0 [
 oC 77 .eql 33 4 0,
 oM 76 77 0] []) (.cond (tm 76) (.skip) (.region 0 [
 oC 78 .eql 33 10 0,
 oM 76 78 0] []))) (.cond (tm 76) (.region 0 [
 oF 79 1 3 0,
 ⟨none,.store 1 (tm 79) (ki 0),none,0,none⟩,
 oF 80 20 3 0,
 ⟨none,.store 1 (tm 80) (ki 0),none,0,none⟩] []) (.seq (.region 0 [
 oC 82 .eql 33 8 0,
 oM 81 82 0] []) (.cond (tm 81) (.region 0 [
 oF 83 22 3 0,
 ⟨none,.store 1 (tm 83) (ki 0),none,0,none⟩,
 oF 84 23 3 0,
 ⟨none,.store 1 (tm 84) kf,none,0,none⟩] []) (.skip)))))))))))))) (.seq (.region 4 [
 oT 85 24 3 0,
 o1 86 (.build [iz,iz,iz,iz,iz,iz,iz,iz,iz,iz,iz,iz,iz,iz,.zsl,iz,iz,iz,iz,.zsl,iz,.bool false,iz,.bool false] []) 0,
 o1 87 (.call (fc 10) [(vv 85),(vv 86)] false 4) 0,
 oM 2 87 4] []) (.ret)))))),[.tmp 2],true⟩
def s25 : Sig := ⟨(.cons (.v (.pair (.int .i64) (.pair (.int .i64) (.pair .request (.pair (.list (.int .u8)) (.pair (.int .i64) (.pair .bool (.pair (.int .i64) .bool)))))))) .nil),[],((.v .bool),[]),[]⟩
def F25 (L : Lp) (g57 : Int → Option Bool) (g58 : Request → Option Bool) (g59 : Res → Option Bool) (g10 : (Int × (Int × (Request × ((List Int) × (Int × (Bool × (Int × Bool))))))) → (Int × (Int × (Request × ((List Int) × (Int × (Bool × (Int × Bool))))))) → Option Bool) (ae0 : (Int × (Int × (Request × ((List Int) × (Int × (Bool × (Int × Bool)))))))) : Option Bool :=
 cond (decide (ae0.1 < 1))
 (some false)
 (cond (decide (10 < ae0.1))
 (some false)
 (Option.bind (g57 ae0.2.1) fun r1 =>
 cond (!r1)
 (some false)
 (Option.bind (g57 ae0.2.2.2.2.1) fun r2 =>
 cond (!r2)
 (some false)
 (Option.bind (g57 ae0.2.2.2.2.2.2.1) fun r3 =>
 cond (!r3)
 (some false)
 (Option.bind (α := (((Unit × Unit) × ((Int × (Int × (Int × (Int × (Int × (Int × (Int × (Int × (Int × (Int × (Int × (Int × (Int × (Int × ((List Dep) × (Int × (Int × (Int × (Int × ((List Int) × (Int × (Bool × (Int × (Bool × Unit)))))))))))))))))))))))) × Unit)) ⊕ Bool))
 (cond (decide (ae0.1 = 1))
 (Option.bind (g58 ae0.2.2.1) fun r4 =>
 cond (!r4)
 (some (.inr false))
 (Option.bind (g59 ae0.2.2.1.need) fun r5 =>
 cond (!r5)
 (some (.inr false))
 (cond (decide (65536 < ae0.2.2.1.wall))
 (some (.inr false))
 (some (.inl (((),()),((0,0,0,0,0,0,0,0,0,0,0,0,0,0,[],0,0,0,0,ae0.2.2.2.1,ae0.2.2.2.2.1,ae0.2.2.2.2.2.1,ae0.2.2.2.2.2.2.1,ae0.2.2.2.2.2.2.2,()),())))))))
 (cond (decide (ae0.1 = 2))
 (cond (decide ((List.length ae0.2.2.2.1 : Int) < 1))
 (some (.inr false))
 (cond (decide (480 < (List.length ae0.2.2.2.1 : Int)))
 (some (.inr false))
 (some (.inl (((),()),((0,0,ae0.2.2.1.kind,ae0.2.2.1.key,ae0.2.2.1.job,ae0.2.2.1.version,ae0.2.2.1.queue,ae0.2.2.1.many,ae0.2.2.1.need.cpu,ae0.2.2.1.need.mem,ae0.2.2.1.need.gpu,ae0.2.2.1.need.lic,ae0.2.2.1.wall,ae0.2.2.1.tasks,ae0.2.2.1.after,ae0.2.2.1.node,ae0.2.2.1.fro,ae0.2.2.1.to,ae0.2.2.1.id,[],ae0.2.2.2.2.1,ae0.2.2.2.2.2.1,ae0.2.2.2.2.2.2.1,ae0.2.2.2.2.2.2.2,()),()))))))
 (Option.bind (α := ((Unit × (Bool × Unit)) × ((Int × (Int × (Request × ((List Int) × (Int × (Bool × (Int × Bool))))))) × Unit)))
 (cond (decide (ae0.1 = 3))
 (some (((),true,()),((0,ae0.2),())))
 (some (((),decide (ae0.1 = 9),()),((0,ae0.2),())))) fun x6 =>
 cond x6.1.2.1
 (some (.inl (((),()),((x6.2.1.1,0,x6.2.1.2.2.1.kind,x6.2.1.2.2.1.key,x6.2.1.2.2.1.job,x6.2.1.2.2.1.version,x6.2.1.2.2.1.queue,x6.2.1.2.2.1.many,x6.2.1.2.2.1.need.cpu,x6.2.1.2.2.1.need.mem,x6.2.1.2.2.1.need.gpu,x6.2.1.2.2.1.need.lic,x6.2.1.2.2.1.wall,x6.2.1.2.2.1.tasks,x6.2.1.2.2.1.after,x6.2.1.2.2.1.node,x6.2.1.2.2.1.fro,x6.2.1.2.2.1.to,x6.2.1.2.2.1.id,x6.2.1.2.2.2.1,0,false,x6.2.1.2.2.2.2.2.2.1,x6.2.1.2.2.2.2.2.2.2,()),()))))
 (cond (decide (ae0.1 = 4))
 (some (.inl (((),()),((x6.2.1.1,0,x6.2.1.2.2.1.kind,x6.2.1.2.2.1.key,x6.2.1.2.2.1.job,x6.2.1.2.2.1.version,x6.2.1.2.2.1.queue,x6.2.1.2.2.1.many,x6.2.1.2.2.1.need.cpu,x6.2.1.2.2.1.need.mem,x6.2.1.2.2.1.need.gpu,x6.2.1.2.2.1.need.lic,x6.2.1.2.2.1.wall,x6.2.1.2.2.1.tasks,x6.2.1.2.2.1.after,x6.2.1.2.2.1.node,x6.2.1.2.2.1.fro,x6.2.1.2.2.1.to,x6.2.1.2.2.1.id,x6.2.1.2.2.2.1,0,x6.2.1.2.2.2.2.2.1,x6.2.1.2.2.2.2.2.2.1,x6.2.1.2.2.2.2.2.2.2,()),()))))
 (cond (decide (ae0.1 = 10))
 (some (.inl (((),()),((x6.2.1.1,0,x6.2.1.2.2.1.kind,x6.2.1.2.2.1.key,x6.2.1.2.2.1.job,x6.2.1.2.2.1.version,x6.2.1.2.2.1.queue,x6.2.1.2.2.1.many,x6.2.1.2.2.1.need.cpu,x6.2.1.2.2.1.need.mem,x6.2.1.2.2.1.need.gpu,x6.2.1.2.2.1.need.lic,x6.2.1.2.2.1.wall,x6.2.1.2.2.1.tasks,x6.2.1.2.2.1.after,x6.2.1.2.2.1.node,x6.2.1.2.2.1.fro,x6.2.1.2.2.1.to,x6.2.1.2.2.1.id,x6.2.1.2.2.2.1,0,x6.2.1.2.2.2.2.2.1,x6.2.1.2.2.2.2.2.2.1,x6.2.1.2.2.2.2.2.2.2,()),()))))
 (cond (decide (ae0.1 = 8))
 (some (.inl (((),()),((x6.2.1.1,x6.2.1.2.1,x6.2.1.2.2.1.kind,x6.2.1.2.2.1.key,x6.2.1.2.2.1.job,x6.2.1.2.2.1.version,x6.2.1.2.2.1.queue,x6.2.1.2.2.1.many,x6.2.1.2.2.1.need.cpu,x6.2.1.2.2.1.need.mem,x6.2.1.2.2.1.need.gpu,x6.2.1.2.2.1.need.lic,x6.2.1.2.2.1.wall,x6.2.1.2.2.1.tasks,x6.2.1.2.2.1.after,x6.2.1.2.2.1.node,x6.2.1.2.2.1.fro,x6.2.1.2.2.1.to,x6.2.1.2.2.1.id,x6.2.1.2.2.2.1,x6.2.1.2.2.2.2.1,x6.2.1.2.2.2.2.2.1,0,false,()),()))))
 (some (.inl (((),()),((x6.2.1.1,x6.2.1.2.1,x6.2.1.2.2.1.kind,x6.2.1.2.2.1.key,x6.2.1.2.2.1.job,x6.2.1.2.2.1.version,x6.2.1.2.2.1.queue,x6.2.1.2.2.1.many,x6.2.1.2.2.1.need.cpu,x6.2.1.2.2.1.need.mem,x6.2.1.2.2.1.need.gpu,x6.2.1.2.2.1.need.lic,x6.2.1.2.2.1.wall,x6.2.1.2.2.1.tasks,x6.2.1.2.2.1.after,x6.2.1.2.2.1.node,x6.2.1.2.2.1.fro,x6.2.1.2.2.1.to,x6.2.1.2.2.1.id,x6.2.1.2.2.2.1,x6.2.1.2.2.2.2.1,x6.2.1.2.2.2.2.2.1,x6.2.1.2.2.2.2.2.2.1,x6.2.1.2.2.2.2.2.2.2,()),())))))))))) (Sum.elim (fun x7 =>
 Option.bind (g10 (x7.2.1.1,(x7.2.1.2.1,(Request.mk x7.2.1.2.2.1 x7.2.1.2.2.2.1 x7.2.1.2.2.2.2.1 x7.2.1.2.2.2.2.2.1 x7.2.1.2.2.2.2.2.2.1 x7.2.1.2.2.2.2.2.2.2.1 (Res.mk x7.2.1.2.2.2.2.2.2.2.2.1 x7.2.1.2.2.2.2.2.2.2.2.2.1 x7.2.1.2.2.2.2.2.2.2.2.2.2.1 x7.2.1.2.2.2.2.2.2.2.2.2.2.2.1) x7.2.1.2.2.2.2.2.2.2.2.2.2.2.2.1 x7.2.1.2.2.2.2.2.2.2.2.2.2.2.2.2.1 x7.2.1.2.2.2.2.2.2.2.2.2.2.2.2.2.2.1 x7.2.1.2.2.2.2.2.2.2.2.2.2.2.2.2.2.2.1 x7.2.1.2.2.2.2.2.2.2.2.2.2.2.2.2.2.2.2.1 x7.2.1.2.2.2.2.2.2.2.2.2.2.2.2.2.2.2.2.2.1 x7.2.1.2.2.2.2.2.2.2.2.2.2.2.2.2.2.2.2.2.2.1,(x7.2.1.2.2.2.2.2.2.2.2.2.2.2.2.2.2.2.2.2.2.2.1,(x7.2.1.2.2.2.2.2.2.2.2.2.2.2.2.2.2.2.2.2.2.2.2.1,(x7.2.1.2.2.2.2.2.2.2.2.2.2.2.2.2.2.2.2.2.2.2.2.2.1,(x7.2.1.2.2.2.2.2.2.2.2.2.2.2.2.2.2.2.2.2.2.2.2.2.2.1,x7.2.1.2.2.2.2.2.2.2.2.2.2.2.2.2.2.2.2.2.2.2.2.2.2.2.1))))))) (0,(0,(Request.mk 0 0 0 0 0 0 (Res.mk 0 0 0 0) 0 0 [] 0 0 0 0,([],(0,(false,(0,false)))))))) fun r8 =>
 some r8) some))))))
theorem e25 (L : Lp) (g57 : Int → Option Bool) (g58 : Request → Option Bool) (g59 : Res → Option Bool) (g10 : (Int × (Int × (Request × ((List Int) × (Int × (Bool × (Int × Bool))))))) → (Int × (Int × (Request × ((List Int) × (Int × (Bool × (Int × Bool))))))) → Option Bool) (x : s25.args.den) (h : denH s25.heap) : nrun [⟨57,s57,fun x h => g57 x.1⟩,⟨58,s58,fun x h => g58 x.1⟩,⟨59,s59,fun x h => g59 x.1⟩,⟨10,s10,fun x h => g10 x.1 x.2.1⟩] L n25 s25 x h = F25 L g57 g58 g59 g10 x.1 := by kernel_rfl
def f25 : (Int × (Int × (Request × ((List Int) × (Int × (Bool × (Int × Bool))))))) → Option Bool := F25 (@LN LOOPS) f57 f58 f59 f10
@[reducible] def t25 : Ent := ⟨25,s25,fun x h => f25 x.1⟩
theorem k25 : chkNF Tryz.prog Tryz.f25 n25 = true := by kernel_rfl
theorem ok25 : NOk Tryz.prog t25 := NOk.body (T := [t57,t58,t59,t10]) mixed (nall_cons ok57 (nall_cons ok58 (nall_cons ok59 (nall_cons ok10 nall_nil)))) (oneEach_of (by kernel_rfl)) Tryz.func25 k25 (by kernel_rfl) (fun x h => e25 _ _ _ _ _ x h)
def s82 : Sig := ⟨(.cons (.v (.int .i64)) .nil),[],((.v .str),[]),[]⟩
def f82 : Int → Option (List UInt8) := itoaF
@[reducible] def t82 : Ent := ⟨82,s82,fun x h => f82 x.1⟩
theorem ok82 : NOk Tryz.prog t82 := ext82
def n63 : NFunc := ⟨20,.seq (.region 0 [
 o1 4 (.move (.const (.zsl))) 0] []) (.seq (.seq (.region 0 [
 oM 7 1 0,
 o1 8 (.len (tm 7)) 0,
 o1 9 (.move (ki 0)) 0] []) (.block 0 (.loopU [0,7,8,9] 2 (.seq (.region 0 [
 oB 10 .lss 9 8 0] []) (.seq (.cond (tm 10) (.skip) (.exit 0)) (.seq (.block 1 (.seq (.region 0 [
 o1 11 (.indexSl 1 (tm 7) (tm 9)) 0,
 oL 12 11 0,
 oM 6 12 0] []) (.region 6 [
 oM 13 0 0,
 oM 14 6 0,
 o1 15 (.call (fc 82) [(vv 14)] false 4) 0,
 o1 16 (.buildSlice 1 1 true [.str []] [(0,(tm 15))]) 4,
 o1 17 (.append 1 16 true (tm 13) (tm 16)) 5,
 oM 0 17 6] []))) (.region 0 [
 oC 18 .add 9 1 0,
 oM 9 18 0] []))))))) (.seq (.region 0 [
 oM 19 0 0,
 oM 4 19 0] []) (.ret))),[.tmp 4],false⟩
def s63 : Sig := ⟨(.cons (.slw 0 1) (.cons (.rows 1 (.cons (.cons (.v (.int .i64)) .nil) .nil)) .nil)),[.typed .str],((.slw 1 1),[.dead,.typed .str]),[]⟩
def F63 (L : Lp) (g82 : Int → Option (List UInt8)) (an0 : Int) (a1 : (List (List UInt8))) : Option (Unit × (Unit × ((List (List UInt8)) × Unit))) :=
 Option.bind (g82 an0) fun r2 =>
 cond (smallB ((List.length a1) + 1) 16)
 (some ((),((),a1 ++ [r2],())))
 (none)
theorem e63 (L : Lp) (g82 : Int → Option (List UInt8)) (x : s63.args.den) (h : denH s63.heap) : nrun [⟨82,s82,fun x h => g82 x.1⟩] L n63 s63 x h = F63 L g82 x.2.1.1.1 h.1 := by kernel_rfl
def f63 : Int → (List (List UInt8)) → Option (Unit × (Unit × ((List (List UInt8)) × Unit))) := F63 (@LN LOOPS) f82
@[reducible] def t63 : Ent := ⟨63,s63,fun x h => f63 x.2.1.1.1 h.1⟩
theorem k63 : chkNF Tryz.prog Tryz.f63 n63 = true := by kernel_rfl
theorem ok63 : NOk Tryz.prog t63 := NOk.body (T := [t82]) mixed (nall_cons ok82 nall_nil) (oneEach_of (by kernel_rfl)) Tryz.func63 k63 (by kernel_rfl) (fun x h => e63 _ _ x h)
def n63_1 : NFunc := ⟨20,.seq (.region 0 [
 o1 4 (.move (.const (.zsl))) 0] []) (.seq (.seq (.region 0 [
 oM 7 1 0,
 o1 8 (.len (tm 7)) 0,
 o1 9 (.move (ki 0)) 0] []) (.block 0 (.loopU [0,7,8,9] 3 (.seq (.region 0 [
 oB 10 .lss 9 8 0] []) (.seq (.cond (tm 10) (.skip) (.exit 0)) (.seq (.block 1 (.seq (.region 0 [
 o1 11 (.indexSl 1 (tm 7) (tm 9)) 0,
 oL 12 11 0,
 oM 6 12 0] []) (.region 6 [
 oM 13 0 0,
 oM 14 6 0,
 o1 15 (.call (fc 82) [(vv 14)] false 4) 0,
 o1 16 (.buildSlice 1 1 true [.str []] [(0,(tm 15))]) 4,
 o1 17 (.append 1 16 true (tm 13) (tm 16)) 5,
 oM 0 17 6] []))) (.region 0 [
 oC 18 .add 9 1 0,
 oM 9 18 0] []))))))) (.seq (.region 0 [
 oM 19 0 0,
 oM 4 19 0] []) (.ret))),[.tmp 4],false⟩
def s63_1 : Sig := ⟨(.cons (.slw 0 1) (.cons (.rows 1 (.cons (.cons (.v (.int .i64)) .nil) (.cons (.cons (.v (.int .i64)) .nil) .nil))) .nil)),[.typed .str],((.slw 1 1),[.dead,.typed .str]),[]⟩
def F63_1 (L : Lp) (g82 : Int → Option (List UInt8)) (an0 : Int) (an1 : Int) (a2 : (List (List UInt8))) : Option (Unit × (Unit × ((List (List UInt8)) × Unit))) :=
 Option.bind (g82 an0) fun r3 =>
 cond (smallB ((List.length a2) + 1) 16)
 (Option.bind (g82 an1) fun r4 =>
 cond (smallB ((List.length (a2 ++ [r3])) + 1) 16)
 (some ((),((),(a2 ++ [r3]) ++ [r4],())))
 (none))
 (none)
theorem e63_1 (L : Lp) (g82 : Int → Option (List UInt8)) (x : s63_1.args.den) (h : denH s63_1.heap) : nrun [⟨82,s82,fun x h => g82 x.1⟩] L n63_1 s63_1 x h = F63_1 L g82 x.2.1.1.1 x.2.1.2.1.1 h.1 := by kernel_rfl
def f63_1 : Int → Int → (List (List UInt8)) → Option (Unit × (Unit × ((List (List UInt8)) × Unit))) := F63_1 (@LN LOOPS) f82
@[reducible] def t63_1 : Ent := ⟨63,s63_1,fun x h => f63_1 x.2.1.1.1 x.2.1.2.1.1 h.1⟩
theorem k63_1 : chkNF Tryz.prog Tryz.f63 n63_1 = true := by kernel_rfl
theorem ok63_1 : NOk Tryz.prog t63_1 := NOk.body (T := [t82]) mixed (nall_cons ok82 nall_nil) (oneEach_of (by kernel_rfl)) Tryz.func63 k63_1 (by kernel_rfl) (fun x h => e63_1 _ _ x h)
def s26 : Sig := ⟨(.cons (.v (.list .str)) (.cons (.v .str) .nil)),[],((.v .str),[]),[]⟩
def f26 : (List (List UInt8)) → (List UInt8) → Option (List UInt8) := joinF
@[reducible] def t26 : Ent := ⟨26,s26,fun x h => f26 x.1 x.2.1⟩
theorem ok26 : NOk Tryz.prog t26 := ext26
def n46 : NFunc := ⟨44,.seq (.region 1 [
 o1 1 (.box 4 (tm 0)) 0,
 o1 2 (.move (.const (.str []))) 1,
 o1 3 (.move (ki 0)) 1] []) (.seq (.seq (.region 4 [
 oT 8 4 1 0,
 o1 9 (.call (fc 59) [(vv 8)] false 4) 0,
 o1 10 (.un .not (tm 9)) 4] []) (.cond (tm 10) (.seq (.region 0 [
 o1 2 (.move (.const (.str []))) 0,
 o1 3 (.move (ki 2)) 0] []) (.ret)) (.skip))) (.seq (.region 4 [
 o1 11 (.call (fc 81) [] false 4) 0,
 oM 4 11 4] []) (.seq (.region 0 [
 o1 5 (.move (.const (.zsl))) 0] []) (.seq (.seq (.region 0 [
 oF 12 0 1 0,
 oL 13 12 0,
 oF 14 1 1 0,
 oL 15 14 0,
 oF 16 2 1 0,
 oL 17 16 0,
 oF 18 3 1 0,
 oL 19 18 0,
 o1 20 (.build [iz,iz,iz,iz] [(0,1,(tm 13)),(1,1,(tm 15)),(2,1,(tm 17)),(3,1,(tm 19))]) 0,
 o1 21 (.move (ki 0)) 0] []) (.block 0 (.pre [4,5,20,21] [.mat 5 1 true] (.loop [4,5,20,21] ⟨[(5,(.slw 0 1)),(21,vI)],[4,20],[.typed .str]⟩ (.seq (.region 0 [
 oC 22 .lss 21 4 0] []) (.seq (.cond (tm 22) (.skip) (.exit 0)) (.seq (.block 1 (.seq (.meet [4,20,21,7,6,5] [] ⟨[(5,(.slw 0 1)),(6,vI),(7,vI)],[4,20,21],[.typed .str]⟩ (.region 0 [
 oM 23 21 0,
 o1 24 (.indexVal false 4 1 (tm 20) (tm 21)) 0,
 oM 6 23 0,
 oM 7 24 0] [⟨24,none,some (21,4)⟩])) (.seq (.region 0 [
 oM 25 7 0,
 oC 26 .neq 25 0 0] []) (.cond (tm 26) (.region 6 [
 o4 27 (.move (tm 5)) 0 [],
 o4 28 (.move (tm 4)) 0 [],
 o4 29 (.move (tm 6)) 0 [],
 o4 30 (.indexSl 1 (tm 28) (tm 29)) 0 [],
 o4 31 (.load false 1 (tm 30)) 0 [],
 o4 32 (.bin .add (tm 31) (.const (.str [61]))) 0 [],
 o4 33 (.move (tm 7)) 0 [],
 o4 34 (.call (fc 82) [(vv 33)] true 4) 0 [],
 o4 35 (.bin .add (tm 32) (tm 34)) 4 [0,1,2,3],
 o4 36 (.buildSlice 1 1 true [.str []] [(0,(tm 35))]) 4 [0,1,2,3],
 o4 37 (.append 1 16 true (tm 27) (tm 36)) 5 [0,1,2,3,4],
 o4 5 (.move (tm 37)) 6 [0,1,2,3,4,5]] []) (.skip))))) (.region 0 [
 oC 38 .add 21 1 0,
 oM 21 38 0] [])))))))) (.seq (.seq (.region 0 [
 oM 39 5 0,
 o1 40 (.len (tm 39)) 0,
 oC 41 .eql 40 0 0] []) (.cond (tm 41) (.seq (.region 0 [
 o1 2 (.move (.const (.str [110,111,110,101]))) 0,
 o1 3 (.move (ki 0)) 0] []) (.ret)) (.skip))) (.seq (.region 4 [
 oM 42 5 0,
 o1 43 (.call (fc 26) [(vv 42),(false,(.const (.str [44])))] false 4) 0,
 oM 2 43 4,
 o1 3 (.move (ki 0)) 4] []) (.ret))))))),[.tmp 2,.tmp 3],true⟩
def s46 : Sig := ⟨(.cons (.v .res) .nil),[],((.tup (.cons (.v .str) (.cons (.v (.int .i64)) .nil))),[]),[]⟩
def l46_0 (g82 : Int → Option (List UInt8)) (g26 : (List (List UInt8)) → (List UInt8) → Option (List UInt8)) (a0 : Res) (r2 : (List (List UInt8))) (nx4 : ((Unit × (Int × Unit)) × ((List (List UInt8)) × Unit)) → Option ((List UInt8) × (Int × Unit))) (z5 : Int) (z6 : (List (List UInt8))) : Option ((List UInt8) × (Int × Unit)) :=
 cond (decide (z5 < 4))
 (Option.bind (α := ((Unit × (Int × (Int × Unit))) × ((List (List UInt8)) × Unit)))
 (cond (decide (z5 = 3))
 (some (((),z5,a0.lic,()),(z6,())))
 (cond (decide (z5 = 2))
 (some (((),z5,a0.gpu,()),(z6,())))
 (cond (decide (z5 = 1))
 (some (((),z5,a0.mem,()),(z6,())))
 (cond (decide (z5 = 0))
 (some (((),z5,a0.cpu,()),(z6,())))
 (none))))) fun x7 =>
 cond (!decide (x7.1.2.2.1 = 0))
 (cond (decide (0 ≤ x7.1.2.1))
 (Option.bind (r2[Int.toNat x7.1.2.1]?) fun y8 =>
 cond (decide (y8.length + ([61] : List UInt8).length ≤ 4294967296))
 (Option.bind (g82 x7.1.2.2.1) fun r9 =>
 cond (decide ((y8 ++ ([61] : List UInt8)).length + r9.length ≤ 4294967296))
 (cond (smallB ((List.length x7.2.1) + 1) 16)
 (nx4 (((),IntKind.wrap .i64 (z5 + 1),()),(x7.2.1 ++ [(y8 ++ ([61] : List UInt8)) ++ r9],())))
 (none))
 (none))
 (none))
 (none))
 (nx4 (((),IntKind.wrap .i64 (z5 + 1),()),(x7.2.1,()))))
 (cond (decide ((List.length z6 : Int) = 0))
 (some (([110,111,110,101] : List UInt8),0,()))
 (Option.bind (g26 z6 ([44] : List UInt8)) fun r10 =>
 some (r10,0,())))
def F46 (L : Lp) (g59 : Res → Option Bool) (g81 : Option (List (List UInt8))) (g82 : Int → Option (List UInt8)) (g26 : (List (List UInt8)) → (List UInt8) → Option (List UInt8)) (a0 : Res) : Option ((List UInt8) × (Int × Unit)) :=
 Option.bind (g59 a0) fun r1 =>
 cond (!r1)
 (some (([] : List UInt8),2,()))
 (Option.bind (g81) fun r2 =>
 L (fun (s3 : ((Unit × (Int × Unit)) × ((List (List UInt8)) × Unit))) nx4 => l46_0 g82 g26 a0 r2 nx4 s3.1.2.1 s3.2.1) (((),0,()),([],())))
theorem e46 (L : Lp) (g59 : Res → Option Bool) (g81 : Option (List (List UInt8))) (g82 : Int → Option (List UInt8)) (g26 : (List (List UInt8)) → (List UInt8) → Option (List UInt8)) (x : s46.args.den) (h : denH s46.heap) : nrun [⟨59,s59,fun x h => g59 x.1⟩,⟨81,s81,fun x h => g81 ⟩,⟨82,s82,fun x h => g82 x.1⟩,⟨26,s26,fun x h => g26 x.1 x.2.1⟩] L n46 s46 x h = F46 L g59 g81 g82 g26 x.1 := by kernel_rfl
def f46 : Res → Option ((List UInt8) × (Int × Unit)) := F46 (@LN LOOPS) f59 f81 f82 f26
@[reducible] def t46 : Ent := ⟨46,s46,fun x h => f46 x.1⟩
theorem k46 : chkNF Tryz.prog Tryz.f46 n46 = true := by kernel_rfl
theorem ok46 : NOk Tryz.prog t46 := NOk.body (T := [t59,t81,t82,t26]) mixed (nall_cons ok59 (nall_cons ok81 (nall_cons ok82 (nall_cons ok26 nall_nil)))) (oneEach_of (by kernel_rfl)) Tryz.func46 k46 (by kernel_rfl) (fun x h => e46 _ _ _ _ _ x h)
def n100 : NFunc := ⟨26,.seq (.region 1 [
 o1 3 (.box 17 (tm 1)) 0,
 o1 4 (.move (.const (.zsl))) 1] []) (.seq (.region 4 [
 oF 10 6 3 0,
 oT 11 4 10 0,
 o1 12 (.call (fc 46) [(vv 11)] false 4) 0,
 oM 9 12 4,
 oX 13 9 0 4,
 oX 14 9 1 4,
 oM 5 13 4,
 oM 6 14 4] []) (.seq (.region 4 [
 oF 16 10 3 0,
 oL 17 16 0,
 o1 18 (.call (fc 131) [(vv 17)] false 4) 0,
 oM 15 18 4,
 oX 19 15 0 4,
 oX 20 15 1 4,
 oM 7 19 4,
 oM 8 20 4] []) (.seq (.region 2 [
 oM 21 0 0,
 oM 22 5 0,
 oM 23 7 0,
 o1 24 (.buildSlice 1 2 true [.str []] [(0,(tm 22)),(1,(tm 23))]) 0,
 o1 25 (.append 1 16 true (tm 21) (tm 24)) 1,
 oM 4 25 2] []) (.ret)))),[.tmp 4],false⟩
def s100 : Sig := ⟨(.cons (.slw 0 1) (.cons (.v .request) .nil)),[.typed .str],((.slw 1 1),[.dead,.typed .str]),[]⟩
def F100 (L : Lp) (g46 : Res → Option ((List UInt8) × (Int × Unit))) (g131 : Int → Option ((List UInt8) × (Int × Unit))) (ar0 : Request) (a1 : (List (List UInt8))) : Option (Unit × (Unit × ((List (List UInt8)) × Unit))) :=
 Option.bind (g46 ar0.need) fun r2 =>
 Option.bind (g131 ar0.wall) fun r3 =>
 cond (smallB ((List.length a1) + 2) 16)
 (some ((),((),a1 ++ [r2.1,r3.1],())))
 (none)
theorem e100 (L : Lp) (g46 : Res → Option ((List UInt8) × (Int × Unit))) (g131 : Int → Option ((List UInt8) × (Int × Unit))) (x : s100.args.den) (h : denH s100.heap) : nrun [⟨46,s46,fun x h => g46 x.1⟩,⟨131,s131,fun x h => g131 x.1⟩] L n100 s100 x h = F100 L g46 g131 x.2.1 h.1 := by kernel_rfl
def f100 : Request → (List (List UInt8)) → Option (Unit × (Unit × ((List (List UInt8)) × Unit))) := F100 (@LN LOOPS) f46 f131
@[reducible] def t100 : Ent := ⟨100,s100,fun x h => f100 x.2.1 h.1⟩
theorem k100 : chkNF Tryz.prog Tryz.f100 n100 = true := by kernel_rfl
theorem ok100 : NOk Tryz.prog t100 := NOk.body (T := [t46,t131]) mixed (nall_cons ok46 (nall_cons ok131 nall_nil)) (oneEach_of (by kernel_rfl)) Tryz.func100 k100 (by kernel_rfl) (fun x h => e100 _ _ _ x h)
def n63_2 : NFunc := ⟨20,.seq (.region 0 [
 o1 4 (.move (.const (.zsl))) 0] []) (.seq (.seq (.region 0 [
 oM 7 1 0,
 o1 8 (.len (tm 7)) 0,
 o1 9 (.move (ki 0)) 0] []) (.block 0 (.loopU [0,7,8,9] 4 (.seq (.region 0 [
 oB 10 .lss 9 8 0] []) (.seq (.cond (tm 10) (.skip) (.exit 0)) (.seq (.block 1 (.seq (.region 0 [
 o1 11 (.indexSl 1 (tm 7) (tm 9)) 0,
 oL 12 11 0,
 oM 6 12 0] []) (.region 6 [
 oM 13 0 0,
 oM 14 6 0,
 o1 15 (.call (fc 82) [(vv 14)] false 4) 0,
 o1 16 (.buildSlice 1 1 true [.str []] [(0,(tm 15))]) 4,
 o1 17 (.append 1 16 true (tm 13) (tm 16)) 5,
 oM 0 17 6] []))) (.region 0 [
 oC 18 .add 9 1 0,
 oM 9 18 0] []))))))) (.seq (.region 0 [
 oM 19 0 0,
 oM 4 19 0] []) (.ret))),[.tmp 4],false⟩
def s63_2 : Sig := ⟨(.cons (.slw 0 1) (.cons (.rows 1 (.cons (.cons (.v (.int .i64)) .nil) (.cons (.cons (.v (.int .i64)) .nil) (.cons (.cons (.v (.int .i64)) .nil) .nil)))) .nil)),[.typed .str],((.slw 1 1),[.dead,.typed .str]),[]⟩
def F63_2 (L : Lp) (g82 : Int → Option (List UInt8)) (an0 : Int) (an1 : Int) (an2 : Int) (a3 : (List (List UInt8))) : Option (Unit × (Unit × ((List (List UInt8)) × Unit))) :=
 Option.bind (g82 an0) fun r4 =>
 cond (smallB ((List.length a3) + 1) 16)
 (Option.bind (g82 an1) fun r5 =>
 cond (smallB ((List.length (a3 ++ [r4])) + 1) 16)
 (Option.bind (g82 an2) fun r6 =>
 cond (smallB ((List.length ((a3 ++ [r4]) ++ [r5])) + 1) 16)
 (some ((),((),((a3 ++ [r4]) ++ [r5]) ++ [r6],())))
 (none))
 (none))
 (none)
theorem e63_2 (L : Lp) (g82 : Int → Option (List UInt8)) (x : s63_2.args.den) (h : denH s63_2.heap) : nrun [⟨82,s82,fun x h => g82 x.1⟩] L n63_2 s63_2 x h = F63_2 L g82 x.2.1.1.1 x.2.1.2.1.1 x.2.1.2.2.1.1 h.1 := by kernel_rfl
def f63_2 : Int → Int → Int → (List (List UInt8)) → Option (Unit × (Unit × ((List (List UInt8)) × Unit))) := F63_2 (@LN LOOPS) f82
@[reducible] def t63_2 : Ent := ⟨63,s63_2,fun x h => f63_2 x.2.1.1.1 x.2.1.2.1.1 x.2.1.2.2.1.1 h.1⟩
theorem k63_2 : chkNF Tryz.prog Tryz.f63 n63_2 = true := by kernel_rfl
theorem ok63_2 : NOk Tryz.prog t63_2 := NOk.body (T := [t82]) mixed (nall_cons ok82 nall_nil) (oneEach_of (by kernel_rfl)) Tryz.func63 k63_2 (by kernel_rfl) (fun x h => e63_2 _ _ x h)
def n64 : NFunc := ⟨121,.seq (.region 1 [
 o1 1 (.box 17 (tm 0)) 0,
 o1 2 (.move (.const (.zsl))) 1] []) (.seq (.meet [1,3] [] ⟨[(1,(.ptr 0 0 0)),(3,(.slw 1 1))],[],[.one false .request,.typed .str]⟩ (.region 6 [
 o4 7 (.fieldAddr 0 (tm 1)) 0 [],
 o4 8 (.load false 1 (tm 7)) 0 [],
 o4 9 (.indexArr 13 1 (.glob 1) (tm 8)) 0 [],
 o4 10 (.load false 1 (tm 9)) 0 [],
 o4 11 (.buildSlice 1 1 true [.str []] [(0,(tm 10))]) 0 [],
 o4 12 (.fieldAddr 1 (tm 1)) 1 [],
 o4 13 (.load false 1 (tm 12)) 1 [],
 o4 14 (.buildSlice 1 1 true [iz] [(0,(tm 13))]) 1 [],
 o4 15 (.call (fc 63) [(vw 11),(vv 14)] false 4) 2 [0,1],
 o4 3 (.move (tm 15)) 6 [0,1,2,3,4,5]] [⟨9,none,some (8,13)⟩])) (.seq (.seq (.region 0 [
 oF 16 0 1 0,
 oL 17 16 0] []) (.block 0 (.seq (.region 0 [
 oC 19 .eql 17 1 0,
 oM 18 19 0] []) (.cond (tm 18) (.seq (.region 14 [
 o4 20 (.move (tm 3)) 0 [],
 o4 21 (.fieldAddr 4 (tm 1)) 0 [],
 ⟨(some 22),.load false 1 (tm 21),none,0,(some ([],some [0]))⟩,
 o4 23 (.fieldAddr 5 (tm 1)) 0 [],
 ⟨(some 24),.load false 1 (tm 23),none,0,(some ([],some [0]))⟩,
 ⟨(some 25),.buildSlice 1 2 true [iz] [(0,(tm 22)),(1,(tm 24))],none,0,(some ([],some []))⟩,
 ⟨(some 26),.call (fc 63) [(vw 20),(vv 25)] false 4,none,1,(some ([0],some [1]))⟩,
 ⟨(some 27),.load true 17 (tm 1),none,5,(some ([],some [0]))⟩,
 ⟨(some 28),.call (fc 100) [(vw 26),(vv 27)] false 4,none,5,(some ([1],some []))⟩,
 o4 29 (.fieldAddr 11 (tm 1)) 9 [],
 ⟨(some 30),.load false 1 (tm 29),none,9,(some ([],some [0]))⟩,
 ⟨(some 31),.buildSlice 1 1 true [iz] [(0,(tm 30))],none,9,(some ([],some []))⟩,
 ⟨(some 32),.call (fc 63) [(vw 28),(vv 31)] false 4,none,10,(some ([5,9],some []))⟩,
 o4 3 (.move (tm 32)) 14 [0,1,2,3,4,5,6,7,8,9,10,11,12,13]] []) (.seq (.region 0 [
 oF 33 12 1 0,
 oL 34 33 0,
 o1 35 (.len (tm 34)) 0,
 o1 36 (.move (ki 0)) 0] []) (.block 1 (.loop [3,34,35,36] ⟨[(3,(.slw 0 1)),(36,vI)],[34,35],[.typed .str]⟩ (.seq (.region 0 [
 oB 37 .lss 36 35 0] []) (.seq (.cond (tm 37) (.skip) (.exit 1)) (.seq (.block 2 (.seq (.region 1 [
 o1 38 (.indexSl 2 (tm 34) (tm 36)) 0,
 oT 39 2 38 0,
 o1 5 (.alloc [iz,.bool false]) 0,
 oS 2 5 39 1] []) (.seq (.region 4 [
 oF 40 0 5 0,
 oL 41 40 0,
 o1 42 (.call (fc 82) [(vv 41)] false 4) 0,
 oM 6 42 4] []) (.seq (.seq (.region 0 [
 oF 43 1 5 0,
 oL 44 43 0] []) (.cond (tm 44) (.region 0 [
 oM 45 6 0,
 o1 46 (.bin .add (tm 45) (.const (.str [33]))) 0,
 oM 6 46 0] []) (.skip))) (.region 2 [
 oM 47 3 0,
 oM 48 6 0,
 o1 49 (.buildSlice 1 1 true [.str []] [(0,(tm 48))]) 0,
 o1 50 (.append 1 16 true (tm 47) (tm 49)) 1,
 oM 3 50 2] []))))) (.region 0 [
 oC 51 .add 36 1 0,
 oM 36 51 0] [])))))))) (.seq (.region 0 [
 oC 53 .eql 17 2 0,
 oM 52 53 0] []) (.cond (tm 52) (.region 9 [
 o4 54 (.move (tm 3)) 0 [],
 o4 55 (.fieldAddr 2 (tm 1)) 0 [],
 ⟨(some 56),.load false 1 (tm 55),none,0,(some ([],some [0]))⟩,
 o4 57 (.fieldAddr 3 (tm 1)) 0 [],
 ⟨(some 58),.load false 1 (tm 57),none,0,(some ([],some [0]))⟩,
 o4 59 (.fieldAddr 5 (tm 1)) 0 [],
 ⟨(some 60),.load false 1 (tm 59),none,0,(some ([],some [0]))⟩,
 ⟨(some 61),.buildSlice 1 3 true [iz] [(0,(tm 56)),(1,(tm 58)),(2,(tm 60))],none,0,(some ([],some []))⟩,
 ⟨(some 62),.call (fc 63) [(vw 54),(vv 61)] false 4,none,1,(some ([0],some [1]))⟩,
 ⟨(some 63),.load true 17 (tm 1),none,5,(some ([],some [0]))⟩,
 ⟨(some 64),.call (fc 100) [(vw 62),(vv 63)] false 4,none,5,(some ([1],some []))⟩,
 o4 3 (.move (tm 64)) 9 [0,1,2,3,4,5,6,7,8]] []) (.seq (.meet [1,3,17,65] [] ⟨[(1,(.ptr 0 0 0)),(3,(.slw 1 1)),(65,(.v .bool))],[17],[.one false .request,.typed .str]⟩ (.seq (.region 0 [
 oC 66 .eql 17 3 0,
 oM 65 66 0] []) (.cond (tm 65) (.skip) (.seq (.region 0 [
 oC 67 .eql 17 4 0,
 oM 65 67 0] []) (.cond (tm 65) (.skip) (.seq (.region 0 [
 oC 68 .eql 17 5 0,
 oM 65 68 0] []) (.cond (tm 65) (.skip) (.region 0 [
 oC 69 .eql 17 6 0,
 oM 65 69 0] [])))))))) (.cond (tm 65) (.region 5 [
 oM 70 3 0,
 oF 71 2 1 0,
 oL 72 71 0,
 oF 73 3 1 0,
 oL 74 73 0,
 o1 75 (.buildSlice 1 2 true [iz] [(0,(tm 72)),(1,(tm 74))]) 0,
 o1 76 (.call (fc 63) [(vw 70),(vv 75)] false 4) 1,
 oM 3 76 5] []) (.seq (.region 0 [
 oC 78 .eql 17 7 0,
 oM 77 78 0] []) (.cond (tm 77) (.region 5 [
 oM 79 3 0,
 oF 80 2 1 0,
 oL 81 80 0,
 oF 82 3 1 0,
 oL 83 82 0,
 oF 84 4 1 0,
 oL 85 84 0,
 o1 86 (.buildSlice 1 3 true [iz] [(0,(tm 81)),(1,(tm 83)),(2,(tm 85))]) 0,
 o1 87 (.call (fc 63) [(vw 79),(vv 86)] false 4) 1,
 oM 3 87 5] []) (.seq (.region 0 [
 oC 89 .eql 17 8 0,
 oM 88 89 0] []) (.cond (tm 88) (.region 5 [
 oM 90 3 0,
 oF 91 2 1 0,
 oL 92 91 0,
 o1 93 (.buildSlice 1 1 true [iz] [(0,(tm 92))]) 0,
 o1 94 (.call (fc 63) [(vw 90),(vv 93)] false 4) 1,
 oM 3 94 5] []) (.seq (.region 0 [
 oC 96 .eql 17 9 0,
 oM 95 96 0] []) (.cond (tm 95) (.region 5 [
 oM 97 3 0,
 oF 98 4 1 0,
 oL 99 98 0,
 o1 100 (.buildSlice 1 1 true [iz] [(0,(tm 99))]) 0,
 o1 101 (.call (fc 63) [(vw 97),(vv 100)] false 4) 1,
 oM 3 101 5] []) (.seq (.region 0 [
 oC 103 .eql 17 11 0,
 oM 102 103 0] []) (.cond (tm 102) (.region 5 [
 oM 104 3 0,
 oF 105 13 1 0,
 oL 106 105 0,
 oF 107 14 1 0,
 oL 108 107 0,
 oF 109 15 1 0,
 oL 110 109 0,
 o1 111 (.buildSlice 1 3 true [iz] [(0,(tm 106)),(1,(tm 108)),(2,(tm 110))]) 0,
 o1 112 (.call (fc 63) [(vw 104),(vv 111)] false 4) 1,
 oM 3 112 5] []) (.seq (.region 0 [
 oC 114 .eql 17 12 0,
 oM 113 114 0] []) (.cond (tm 113) (.region 5 [
 oM 115 3 0,
 oF 116 16 1 0,
 oL 117 116 0,
 o1 118 (.buildSlice 1 1 true [iz] [(0,(tm 117))]) 0,
 o1 119 (.call (fc 63) [(vw 115),(vv 118)] false 4) 1,
 oM 3 119 5] []) (.skip))))))))))))))))))) (.seq (.region 0 [
 oM 120 3 0,
 oM 2 120 0] []) (.ret)))),[.tmp 2],true⟩
def s64 : Sig := ⟨(.cons (.v .request) .nil),[],((.v (.list .str)),[]),[]⟩
def l64_0 (g82 : Int → Option (List UInt8)) (x14 : ((Unit × (Unit × Unit)) × (Request × ((List (List UInt8)) × Unit)))) (nx19 : ((Unit × (Int × Unit)) × ((List (List UInt8)) × Unit)) → Option (List (List UInt8))) (z20 : Int) (z21 : (List (List UInt8))) : Option (List (List UInt8)) :=
 cond (decide (z20 < (List.length x14.2.1.after : Int)))
 (cond (decide (0 ≤ z20))
 (Option.bind (x14.2.1.after[Int.toNat z20]?) fun y22 =>
 Option.bind (g82 y22.job) fun r23 =>
 cond y22.ok
 (cond (decide (r23.length + ([33] : List UInt8).length ≤ 4294967296))
 (cond (smallB ((List.length z21) + 1) 16)
 (nx19 (((),IntKind.wrap .i64 (z20 + 1),()),(z21 ++ [r23 ++ ([33] : List UInt8)],())))
 (none))
 (none))
 (cond (smallB ((List.length z21) + 1) 16)
 (nx19 (((),IntKind.wrap .i64 (z20 + 1),()),(z21 ++ [r23],())))
 (none)))
 (none))
 (some z21)
def F64 (L : Lp) (g63 : Int → (List (List UInt8)) → Option (Unit × (Unit × ((List (List UInt8)) × Unit)))) (g63_1 : Int → Int → (List (List UInt8)) → Option (Unit × (Unit × ((List (List UInt8)) × Unit)))) (g100 : Request → (List (List UInt8)) → Option (Unit × (Unit × ((List (List UInt8)) × Unit)))) (g82 : Int → Option (List UInt8)) (g63_2 : Int → Int → Int → (List (List UInt8)) → Option (Unit × (Unit × ((List (List UInt8)) × Unit)))) (ar0 : Request) : Option (List (List UInt8)) :=
 Option.bind (α := ((Unit × (Unit × Unit)) × (Request × ((List (List UInt8)) × Unit))))
 (cond (decide (ar0.kind = 12))
 (Option.bind (g63 ar0.key [([117,110,114,101,115,101,114,118,101] : List UInt8)]) fun r1 =>
 some (((),(),()),(ar0,r1.2.2.1,())))
 (cond (decide (ar0.kind = 11))
 (Option.bind (g63 ar0.key [([114,101,115,101,114,118,101] : List UInt8)]) fun r2 =>
 some (((),(),()),(ar0,r2.2.2.1,())))
 (cond (decide (ar0.kind = 10))
 (Option.bind (g63 ar0.key [([110,111,100,101,115] : List UInt8)]) fun r3 =>
 some (((),(),()),(ar0,r3.2.2.1,())))
 (cond (decide (ar0.kind = 9))
 (Option.bind (g63 ar0.key [([113,117,101,117,101] : List UInt8)]) fun r4 =>
 some (((),(),()),(ar0,r4.2.2.1,())))
 (cond (decide (ar0.kind = 8))
 (Option.bind (g63 ar0.key [([106,111,98] : List UInt8)]) fun r5 =>
 some (((),(),()),(ar0,r5.2.2.1,())))
 (cond (decide (ar0.kind = 7))
 (Option.bind (g63 ar0.key [([109,111,118,101] : List UInt8)]) fun r6 =>
 some (((),(),()),(ar0,r6.2.2.1,())))
 (cond (decide (ar0.kind = 6))
 (Option.bind (g63 ar0.key [([114,101,113,117,101,117,101] : List UInt8)]) fun r7 =>
 some (((),(),()),(ar0,r7.2.2.1,())))
 (cond (decide (ar0.kind = 5))
 (Option.bind (g63 ar0.key [([99,97,110,99,101,108] : List UInt8)]) fun r8 =>
 some (((),(),()),(ar0,r8.2.2.1,())))
 (cond (decide (ar0.kind = 4))
 (Option.bind (g63 ar0.key [([114,101,108,101,97,115,101] : List UInt8)]) fun r9 =>
 some (((),(),()),(ar0,r9.2.2.1,())))
 (cond (decide (ar0.kind = 3))
 (Option.bind (g63 ar0.key [([104,111,108,100] : List UInt8)]) fun r10 =>
 some (((),(),()),(ar0,r10.2.2.1,())))
 (cond (decide (ar0.kind = 2))
 (Option.bind (g63 ar0.key [([109,111,100,105,102,121] : List UInt8)]) fun r11 =>
 some (((),(),()),(ar0,r11.2.2.1,())))
 (cond (decide (ar0.kind = 1))
 (Option.bind (g63 ar0.key [([115,117,98,109,105,116] : List UInt8)]) fun r12 =>
 some (((),(),()),(ar0,r12.2.2.1,())))
 (cond (decide (ar0.kind = 0))
 (Option.bind (g63 ar0.key [([] : List UInt8)]) fun r13 =>
 some (((),(),()),(ar0,r13.2.2.1,())))
 (none)))))))))))))) fun x14 =>
 cond (decide (x14.2.1.kind = 1))
 (Option.bind (g63_1 x14.2.1.queue x14.2.1.many x14.2.2.1) fun r15 =>
 Option.bind (g100 x14.2.1 r15.2.2.1) fun r16 =>
 Option.bind (g63 x14.2.1.tasks r16.2.2.1) fun r17 =>
 L (fun (s18 : ((Unit × (Int × Unit)) × ((List (List UInt8)) × Unit))) nx19 => l64_0 g82 x14 nx19 s18.1.2.1 s18.2.1) (((),0,()),(r17.2.2.1,())))
 (cond (decide (x14.2.1.kind = 2))
 (Option.bind (g63_2 x14.2.1.job x14.2.1.version x14.2.1.many x14.2.2.1) fun r24 =>
 Option.bind (g100 x14.2.1 r24.2.2.1) fun r25 =>
 some r25.2.2.1)
 (Option.bind (α := ((Unit × (Unit × (Bool × Unit))) × (Request × ((List (List UInt8)) × Unit))))
 (cond (decide (x14.2.1.kind = 3))
 (some (((),(),true,()),(x14.2.1,x14.2.2.1,())))
 (cond (decide (x14.2.1.kind = 4))
 (some (((),(),true,()),(x14.2.1,x14.2.2.1,())))
 (cond (decide (x14.2.1.kind = 5))
 (some (((),(),true,()),(x14.2.1,x14.2.2.1,())))
 (some (((),(),decide (x14.2.1.kind = 6),()),(x14.2.1,x14.2.2.1,())))))) fun x26 =>
 cond x26.1.2.2.1
 (Option.bind (g63_1 x26.2.1.job x26.2.1.version x26.2.2.1) fun r27 =>
 some r27.2.2.1)
 (cond (decide (x14.2.1.kind = 7))
 (Option.bind (g63_2 x26.2.1.job x26.2.1.version x26.2.1.queue x26.2.2.1) fun r28 =>
 some r28.2.2.1)
 (cond (decide (x14.2.1.kind = 8))
 (Option.bind (g63 x26.2.1.job x26.2.2.1) fun r29 =>
 some r29.2.2.1)
 (cond (decide (x14.2.1.kind = 9))
 (Option.bind (g63 x26.2.1.queue x26.2.2.1) fun r30 =>
 some r30.2.2.1)
 (cond (decide (x14.2.1.kind = 11))
 (Option.bind (g63_2 x26.2.1.node x26.2.1.fro x26.2.1.to x26.2.2.1) fun r31 =>
 some r31.2.2.1)
 (cond (decide (x14.2.1.kind = 12))
 (Option.bind (g63 x26.2.1.id x26.2.2.1) fun r32 =>
 some r32.2.2.1)
 (some x26.2.2.1))))))))
theorem e64 (L : Lp) (g63 : Int → (List (List UInt8)) → Option (Unit × (Unit × ((List (List UInt8)) × Unit)))) (g63_1 : Int → Int → (List (List UInt8)) → Option (Unit × (Unit × ((List (List UInt8)) × Unit)))) (g100 : Request → (List (List UInt8)) → Option (Unit × (Unit × ((List (List UInt8)) × Unit)))) (g82 : Int → Option (List UInt8)) (g63_2 : Int → Int → Int → (List (List UInt8)) → Option (Unit × (Unit × ((List (List UInt8)) × Unit)))) (x : s64.args.den) (h : denH s64.heap) : nrun [⟨63,s63,fun x h => g63 x.2.1.1.1 h.1⟩,⟨63,s63_1,fun x h => g63_1 x.2.1.1.1 x.2.1.2.1.1 h.1⟩,⟨100,s100,fun x h => g100 x.2.1 h.1⟩,⟨82,s82,fun x h => g82 x.1⟩,⟨63,s63_2,fun x h => g63_2 x.2.1.1.1 x.2.1.2.1.1 x.2.1.2.2.1.1 h.1⟩] L n64 s64 x h = F64 L g63 g63_1 g100 g82 g63_2 x.1 := by kernel_rfl
def f64 : Request → Option (List (List UInt8)) := F64 (@LN LOOPS) f63 f63_1 f100 f82 f63_2
@[reducible] def t64 : Ent := ⟨64,s64,fun x h => f64 x.1⟩
theorem k64 : chkNF Tryz.prog Tryz.f64 n64 = true := by kernel_rfl
theorem ok64 : NOk Tryz.prog t64 := NOk.body (T := [t63,t63_1,t100,t82,t63_2]) mixed (nall_cons ok63 (nall_cons ok63_1 (nall_cons ok100 (nall_cons ok82 (nall_cons ok63_2 nall_nil))))) (oneEach_of (by kernel_rfl)) Tryz.func64 k64 (by kernel_rfl) (fun x h => e64 _ _ _ _ _ _ x h)
def n65 : NFunc := ⟨28,.seq (.region 0 [
 o1 2 (.move (.const (.str []))) 0] []) (.seq (.region 1 [
 oM 6 0 0,
 o1 7 (.len (tm 6)) 0,
 o1 8 (.bin .mul (ki 2) (tm 7)) 0,
 o1 9 (.makeSlice 1 1 true [.int .u8 (0)] (ki 0) (tm 8)) 0,
 oM 3 9 1] [⟨9,some (.int .u8),none⟩]) (.seq (.seq (.region 0 [
 oM 10 0 0,
 o1 11 (.len (tm 10)) 0,
 o1 12 (.move (ki 0)) 0] []) (.block 0 (.loop [3,10,11,12] ⟨[(3,(.slw 0 1)),(12,vI)],[10,11],[.typed (.int .u8)]⟩ (.seq (.region 0 [
 oB 13 .lss 12 11 0] []) (.seq (.cond (tm 13) (.skip) (.exit 0)) (.seq (.block 1 (.seq (.region 0 [
 o1 14 (.indexSl 1 (tm 10) (tm 12)) 0,
 oL 15 14 0,
 oM 5 15 0] []) (.region 2 [
 o4 16 (.move (tm 3)) 0 [],
 o4 17 (.move (tm 5)) 0 [],
 o4 18 (.bin .shr (tm 17) (.const (.int .u64 (4)))) 0 [],
 o4 19 (.indexStr (.const (.str [48,49,50,51,52,53,54,55,56,57,97,98,99,100,101,102])) (tm 18)) 0 [],
 o4 20 (.move (tm 5)) 0 [],
 o4 21 (.bin .and (tm 20) (.const (.int .u8 (15)))) 0 [],
 o4 22 (.indexStr (.const (.str [48,49,50,51,52,53,54,55,56,57,97,98,99,100,101,102])) (tm 21)) 0 [],
 o4 23 (.buildSlice 1 2 true [.int .u8 (0)] [(0,(tm 19)),(1,(tm 22))]) 0 [],
 o4 24 (.append 1 1 true (tm 16) (tm 23)) 1 [0],
 o4 3 (.move (tm 24)) 2 [0,1]] []))) (.region 0 [
 oC 25 .add 12 1 0,
 oM 12 25 0] []))))))) (.seq (.region 0 [
 oM 26 3 0,
 o1 27 (.load false 0 (tm 26)) 0,
 oM 2 27 0] []) (.ret)))),[.tmp 2],true⟩
def s65 : Sig := ⟨(.cons (.v (.list (.int .u8))) .nil),[],((.v .str),[]),[]⟩
def l65_0 (b0 : (List Int)) (nx2 : ((Unit × (Int × Unit)) × ((List Int) × Unit)) → Option (List UInt8)) (z3 : Int) (z4 : (List Int)) : Option (List UInt8) :=
 cond (decide (z3 < (List.length b0 : Int)))
 (cond (decide (0 ≤ z3))
 (Option.bind (b0[Int.toNat z3]?) fun y5 =>
 cond (decide (0 ≤ (Int.fdiv y5 (2 ^ (min (Int.toNat 4) 8)))))
 (Option.bind (([48,49,50,51,52,53,54,55,56,57,97,98,99,100,101,102] : List UInt8)[Int.toNat (Int.fdiv y5 (2 ^ (min (Int.toNat 4) 8)))]?) fun c6 =>
 cond (decide (0 ≤ (IntKind.wrap .u8 (((BitVec.ofInt 8 y5 &&& BitVec.ofInt 8 15).toNat : Int)))))
 (Option.bind (([48,49,50,51,52,53,54,55,56,57,97,98,99,100,101,102] : List UInt8)[Int.toNat (IntKind.wrap .u8 (((BitVec.ofInt 8 y5 &&& BitVec.ofInt 8 15).toNat : Int)))]?) fun c7 =>
 cond (smallB ((List.length z4) + 2) 1)
 (nx2 (((),IntKind.wrap .i64 (z3 + 1),()),(z4 ++ [(c6.toNat : Int),(c7.toNat : Int)],())))
 (none))
 (none))
 (none))
 (none))
 (Option.bind (nbytes z4) fun s8 =>
 some s8)
def F65 (L : Lp)  (b0 : (List Int)) : Option (List UInt8) :=
 cond (decide (0 ≤ (IntKind.wrap .i64 (2 * (List.length b0 : Int)))))
 (cond ((decide (0 ≤ (Int.toNat (IntKind.wrap .i64 (2 * (List.length b0 : Int)))))) && ((decide ((Int.toNat (IntKind.wrap .i64 (2 * (List.length b0 : Int)))) * 1 ≤ 1099511627776)) && (decide ((Int.toNat (IntKind.wrap .i64 (2 * (List.length b0 : Int)))) ≤ 4294967296))))
 (L (fun (s1 : ((Unit × (Int × Unit)) × ((List Int) × Unit))) nx2 => l65_0 b0 nx2 s1.1.2.1 s1.2.1) (((),0,()),((List.replicate 0 0 : List Int),())))
 (none))
 (none)
theorem e65 (L : Lp)  (x : s65.args.den) (h : denH s65.heap) : nrun [] L n65 s65 x h = F65 L  x.1 := by kernel_rfl
def f65 : (List Int) → Option (List UInt8) := F65 (@LN LOOPS) 
@[reducible] def t65 : Ent := ⟨65,s65,fun x h => f65 x.1⟩
theorem k65 : chkNF Tryz.prog Tryz.f65 n65 = true := by kernel_rfl
theorem ok65 : NOk Tryz.prog t65 := NOk.body (T := []) mixed nall_nil (oneEach_of (by kernel_rfl)) Tryz.func65 k65 (by kernel_rfl) (fun x h => e65 _  x h)
def n27 : NFunc := ⟨73,.seq (.region 1 [
 o1 1 (.box 24 (tm 0)) 0,
 o1 2 (.move (.const (.zsl))) 1] []) (.seq (.meet [1,3] [] ⟨[(1,(.ptr 0 0 0)),(3,(.slw 1 1))],[],[.one false (.pair (.int .i64) (.pair (.int .i64) (.pair .request (.pair (.list (.int .u8)) (.pair (.int .i64) (.pair .bool (.pair (.int .i64) .bool))))))),.typed .str]⟩ (.region 1 [
 oF 5 0 1 0,
 oL 6 5 0,
 o1 7 (.indexArr 11 1 (.glob 0) (tm 6)) 0,
 oL 8 7 0,
 o1 9 (.buildSlice 1 1 true [.str []] [(0,(tm 8))]) 0,
 oM 3 9 1] [⟨7,none,some (6,11)⟩])) (.seq (.seq (.region 0 [
 oF 10 0 1 0,
 oL 11 10 0] []) (.block 0 (.seq (.region 0 [
 oC 13 .eql 11 1 0,
 oM 12 13 0] []) (.cond (tm 12) (.region 10 [
 o4 14 (.move (tm 3)) 0 [],
 o4 15 (.fieldAddr 1 (tm 1)) 0 [],
 ⟨(some 16),.load false 1 (tm 15),none,0,(some ([],some [0]))⟩,
 ⟨(some 17),.buildSlice 1 1 true [iz] [(0,(tm 16))],none,0,(some ([],some []))⟩,
 ⟨(some 18),.call (fc 63) [(vw 14),(vv 17)] false 4,none,1,(some ([0],some [1]))⟩,
 o4 19 (.fieldAddr 2 (tm 1)) 5 [],
 ⟨(some 20),.load true 17 (tm 19),none,5,(some ([],some [0]))⟩,
 ⟨(some 21),.call (fc 64) [(vv 20)] false 4,none,5,(some ([],some []))⟩,
 ⟨(some 22),.append 1 16 true (tm 18) (tm 21),none,9,(some ([1],some []))⟩,
 o4 3 (.move (tm 22)) 10 [0,1,2,3,4,5,6,7,8,9]] []) (.seq (.region 0 [
 oC 24 .eql 11 2 0,
 oM 23 24 0] []) (.cond (tm 23) (.region 11 [
 o4 25 (.move (tm 3)) 0 [],
 o4 26 (.fieldAddr 1 (tm 1)) 0 [],
 ⟨(some 27),.load false 1 (tm 26),none,0,(some ([],some [0]))⟩,
 ⟨(some 28),.buildSlice 1 1 true [iz] [(0,(tm 27))],none,0,(some ([],some []))⟩,
 ⟨(some 29),.call (fc 63) [(vw 25),(vv 28)] false 4,none,1,(some ([0],some [1]))⟩,
 o4 30 (.fieldAddr 19 (tm 1)) 5 [],
 ⟨(some 31),.load false 1 (tm 30),none,5,(some ([],some [0]))⟩,
 ⟨(some 32),.call (fc 65) [(vv 31)] false 4,none,5,(some ([],some []))⟩,
 ⟨(some 33),.buildSlice 1 1 true [.str []] [(0,(tm 32))],none,9,(some ([],some []))⟩,
 ⟨(some 34),.append 1 16 true (tm 29) (tm 33),none,10,(some ([1,9],some []))⟩,
 o4 3 (.move (tm 34)) 11 [0,1,2,3,4,5,6,7,8,9,10]] []) (.seq (.meet [1,3,11,35] [] ⟨[(1,(.ptr 0 0 0)),(3,(.slw 1 1)),(35,(.v .bool))],[11],[.one false (.pair (.int .i64) (.pair (.int .i64) (.pair .request (.pair (.list (.int .u8)) (.pair (.int .i64) (.pair .bool (.pair (.int .i64) .bool))))))),.typed .str]⟩ (.seq (.region 0 [
 oC 36 .eql 11 3 0,
 oM 35 36 0] []) (.cond (tm 35) (.skip) (.region 0 [
 oC 37 .eql 11 9 0,
 oM 35 37 0] [])))) (.cond (tm 35) (.seq (.region 5 [
 oM 38 3 0,
 oF 39 1 1 0,
 oL 40 39 0,
 oF 41 20 1 0,
 oL 42 41 0,
 o1 43 (.buildSlice 1 2 true [iz] [(0,(tm 40)),(1,(tm 42))]) 0,
 o1 44 (.call (fc 63) [(vw 38),(vv 43)] false 4) 1,
 oM 3 44 5] []) (.seq (.region 0 [
 oF 45 21 1 0,
 oL 46 45 0] []) (.cond (tm 46) (.region 2 [
 oM 47 3 0,
 o1 48 (.buildSlice 1 1 true [.str []] [(0,(.const (.str [107,101,101,112])))]) 0,
 o1 49 (.append 1 16 true (tm 47) (tm 48)) 1,
 oM 3 49 2] []) (.skip)))) (.seq (.meet [1,3,11,50] [] ⟨[(1,(.ptr 0 0 0)),(3,(.slw 1 1)),(50,(.v .bool))],[11],[.one false (.pair (.int .i64) (.pair (.int .i64) (.pair .request (.pair (.list (.int .u8)) (.pair (.int .i64) (.pair .bool (.pair (.int .i64) .bool))))))),.typed .str]⟩ (.seq (.region 0 [
 oC 51 .eql 11 4 0,
 oM 50 51 0] []) (.cond (tm 50) (.skip) (.region 0 [
 oC 52 .eql 11 10 0,
 oM 50 52 0] [])))) (.cond (tm 50) (.region 5 [
 oM 53 3 0,
 oF 54 1 1 0,
 oL 55 54 0,
 oF 56 20 1 0,
 oL 57 56 0,
 o1 58 (.buildSlice 1 2 true [iz] [(0,(tm 55)),(1,(tm 57))]) 0,
 o1 59 (.call (fc 63) [(vw 53),(vv 58)] false 4) 1,
 oM 3 59 5] []) (.seq (.region 0 [
 oC 61 .eql 11 8 0,
 oM 60 61 0] []) (.cond (tm 60) (.seq (.region 0 [
 o1 4 (.move (.const (.str [102,97,105,108,101,100]))) 0] []) (.seq (.seq (.region 0 [
 oF 62 23 1 0,
 oL 63 62 0] []) (.cond (tm 63) (.region 0 [
 o1 4 (.move (.const (.str [111,107]))) 0] []) (.skip))) (.region 7 [
 oM 64 3 0,
 oF 65 22 1 0,
 oL 66 65 0,
 o1 67 (.buildSlice 1 1 true [iz] [(0,(tm 66))]) 0,
 o1 68 (.call (fc 63) [(vw 64),(vv 67)] false 4) 1,
 oM 69 4 5,
 o1 70 (.buildSlice 1 1 true [.str []] [(0,(tm 69))]) 5,
 o1 71 (.append 1 16 true (tm 68) (tm 70)) 6,
 oM 3 71 7] []))) (.skip))))))))))))) (.seq (.region 0 [
 oM 72 3 0,
 oM 2 72 0] []) (.ret)))),[.tmp 2],true⟩
def s27 : Sig := ⟨(.cons (.v (.pair (.int .i64) (.pair (.int .i64) (.pair .request (.pair (.list (.int .u8)) (.pair (.int .i64) (.pair .bool (.pair (.int .i64) .bool)))))))) .nil),[],((.v (.list .str)),[]),[]⟩
def F27 (L : Lp) (g63 : Int → (List (List UInt8)) → Option (Unit × (Unit × ((List (List UInt8)) × Unit)))) (g64 : Request → Option (List (List UInt8))) (g65 : (List Int) → Option (List UInt8)) (g63_1 : Int → Int → (List (List UInt8)) → Option (Unit × (Unit × ((List (List UInt8)) × Unit)))) (ae0 : (Int × (Int × (Request × ((List Int) × (Int × (Bool × (Int × Bool)))))))) : Option (List (List UInt8)) :=
 Option.bind (α := ((Unit × (Unit × Unit)) × ((Int × (Int × (Request × ((List Int) × (Int × (Bool × (Int × Bool))))))) × ((List (List UInt8)) × Unit))))
 (cond (decide (ae0.1 = 10))
 (some (((),(),()),(ae0,[([100,114,111,112] : List UInt8)],())))
 (cond (decide (ae0.1 = 9))
 (some (((),(),()),(ae0,[([100,101,108,105,118,101,114] : List UInt8)],())))
 (cond (decide (ae0.1 = 8))
 (some (((),(),()),(ae0,[([101,120,105,116] : List UInt8)],())))
 (cond (decide (ae0.1 = 7))
 (some (((),(),()),(ae0,[([116,105,99,107] : List UInt8)],())))
 (cond (decide (ae0.1 = 6))
 (some (((),(),()),(ae0,[([99,121,99,108,101] : List UInt8)],())))
 (cond (decide (ae0.1 = 5))
 (some (((),(),()),(ae0,[([99,108,111,115,101] : List UInt8)],())))
 (cond (decide (ae0.1 = 4))
 (some (((),(),()),(ae0,[([108,111,115,101] : List UInt8)],())))
 (cond (decide (ae0.1 = 3))
 (some (((),(),()),(ae0,[([97,114,114,105,118,101] : List UInt8)],())))
 (cond (decide (ae0.1 = 2))
 (some (((),(),()),(ae0,[([114,97,119] : List UInt8)],())))
 (cond (decide (ae0.1 = 1))
 (some (((),(),()),(ae0,[([115,101,110,100] : List UInt8)],())))
 (cond (decide (ae0.1 = 0))
 (some (((),(),()),(ae0,[([] : List UInt8)],())))
 (none)))))))))))) fun x1 =>
 cond (decide (x1.2.1.1 = 1))
 (Option.bind (g63 x1.2.1.2.1 x1.2.2.1) fun r2 =>
 Option.bind (g64 x1.2.1.2.2.1) fun r3 =>
 cond (smallB ((List.length r2.2.2.1) + (List.length r3)) 16)
 (some (r2.2.2.1 ++ r3))
 (none))
 (cond (decide (x1.2.1.1 = 2))
 (Option.bind (g63 x1.2.1.2.1 x1.2.2.1) fun r4 =>
 Option.bind (g65 x1.2.1.2.2.2.1) fun r5 =>
 cond (smallB ((List.length r4.2.2.1) + 1) 16)
 (some (r4.2.2.1 ++ [r5]))
 (none))
 (Option.bind (α := ((Unit × (Unit × (Bool × Unit))) × ((Int × (Int × (Request × ((List Int) × (Int × (Bool × (Int × Bool))))))) × ((List (List UInt8)) × Unit))))
 (cond (decide (x1.2.1.1 = 3))
 (some (((),(),true,()),(x1.2.1,x1.2.2.1,())))
 (some (((),(),decide (x1.2.1.1 = 9),()),(x1.2.1,x1.2.2.1,())))) fun x6 =>
 cond x6.1.2.2.1
 (Option.bind (g63_1 x6.2.1.2.1 x6.2.1.2.2.2.2.1 x6.2.2.1) fun r7 =>
 cond x6.2.1.2.2.2.2.2.1
 (cond (smallB ((List.length r7.2.2.1) + 1) 16)
 (some (r7.2.2.1 ++ [([107,101,101,112] : List UInt8)]))
 (none))
 (some r7.2.2.1))
 (Option.bind (α := ((Unit × (Unit × (Bool × Unit))) × ((Int × (Int × (Request × ((List Int) × (Int × (Bool × (Int × Bool))))))) × ((List (List UInt8)) × Unit))))
 (cond (decide (x1.2.1.1 = 4))
 (some (((),(),true,()),(x6.2.1,x6.2.2.1,())))
 (some (((),(),decide (x1.2.1.1 = 10),()),(x6.2.1,x6.2.2.1,())))) fun x8 =>
 cond x8.1.2.2.1
 (Option.bind (g63_1 x8.2.1.2.1 x8.2.1.2.2.2.2.1 x8.2.2.1) fun r9 =>
 some r9.2.2.1)
 (cond (decide (x1.2.1.1 = 8))
 (cond x8.2.1.2.2.2.2.2.2.2
 (Option.bind (g63 x8.2.1.2.2.2.2.2.2.1 x8.2.2.1) fun r10 =>
 cond (smallB ((List.length r10.2.2.1) + 1) 16)
 (some (r10.2.2.1 ++ [([111,107] : List UInt8)]))
 (none))
 (Option.bind (g63 x8.2.1.2.2.2.2.2.2.1 x8.2.2.1) fun r11 =>
 cond (smallB ((List.length r11.2.2.1) + 1) 16)
 (some (r11.2.2.1 ++ [([102,97,105,108,101,100] : List UInt8)]))
 (none)))
 (some x8.2.2.1)))))
theorem e27 (L : Lp) (g63 : Int → (List (List UInt8)) → Option (Unit × (Unit × ((List (List UInt8)) × Unit)))) (g64 : Request → Option (List (List UInt8))) (g65 : (List Int) → Option (List UInt8)) (g63_1 : Int → Int → (List (List UInt8)) → Option (Unit × (Unit × ((List (List UInt8)) × Unit)))) (x : s27.args.den) (h : denH s27.heap) : nrun [⟨63,s63,fun x h => g63 x.2.1.1.1 h.1⟩,⟨64,s64,fun x h => g64 x.1⟩,⟨65,s65,fun x h => g65 x.1⟩,⟨63,s63_1,fun x h => g63_1 x.2.1.1.1 x.2.1.2.1.1 h.1⟩] L n27 s27 x h = F27 L g63 g64 g65 g63_1 x.1 := by kernel_rfl
def f27 : (Int × (Int × (Request × ((List Int) × (Int × (Bool × (Int × Bool))))))) → Option (List (List UInt8)) := F27 (@LN LOOPS) f63 f64 f65 f63_1
@[reducible] def t27 : Ent := ⟨27,s27,fun x h => f27 x.1⟩
theorem k27 : chkNF Tryz.prog Tryz.f27 n27 = true := by kernel_rfl
theorem ok27 : NOk Tryz.prog t27 := NOk.body (T := [t63,t64,t65,t63_1]) mixed (nall_cons ok63 (nall_cons ok64 (nall_cons ok65 (nall_cons ok63_1 nall_nil)))) (oneEach_of (by kernel_rfl)) Tryz.func27 k27 (by kernel_rfl) (fun x h => e27 _ _ _ _ _ x h)
def n9 : NFunc := ⟨10,.seq (.region 1 [
 o1 1 (.box 24 (tm 0)) 0,
 o1 2 (.move (.const (.str []))) 1,
 o1 3 (.move (ki 0)) 1] []) (.seq (.seq (.region 4 [
 oT 4 24 1 0,
 o1 5 (.call (fc 25) [(vv 4)] false 4) 0,
 o1 6 (.un .not (tm 5)) 4] []) (.cond (tm 6) (.seq (.region 0 [
 o1 2 (.move (.const (.str []))) 0,
 o1 3 (.move (ki 2)) 0] []) (.ret)) (.skip))) (.seq (.region 8 [
 oT 7 24 1 0,
 o1 8 (.call (fc 27) [(vv 7)] false 4) 0,
 o1 9 (.call (fc 26) [(vv 8),(false,(.const (.str [32])))] false 4) 4,
 oM 2 9 8,
 o1 3 (.move (ki 0)) 8] []) (.ret))),[.tmp 2,.tmp 3],true⟩
def s9 : Sig := ⟨(.cons (.v (.pair (.int .i64) (.pair (.int .i64) (.pair .request (.pair (.list (.int .u8)) (.pair (.int .i64) (.pair .bool (.pair (.int .i64) .bool)))))))) .nil),[],((.tup (.cons (.v .str) (.cons (.v (.int .i64)) .nil))),[]),[]⟩
def F9 (L : Lp) (g25 : (Int × (Int × (Request × ((List Int) × (Int × (Bool × (Int × Bool))))))) → Option Bool) (g27 : (Int × (Int × (Request × ((List Int) × (Int × (Bool × (Int × Bool))))))) → Option (List (List UInt8))) (g26 : (List (List UInt8)) → (List UInt8) → Option (List UInt8)) (ae0 : (Int × (Int × (Request × ((List Int) × (Int × (Bool × (Int × Bool)))))))) : Option ((List UInt8) × (Int × Unit)) :=
 Option.bind (g25 ae0) fun r1 =>
 cond (!r1)
 (some (([] : List UInt8),2,()))
 (Option.bind (g27 ae0) fun r2 =>
 Option.bind (g26 r2 ([32] : List UInt8)) fun r3 =>
 some (r3,0,()))
theorem e9 (L : Lp) (g25 : (Int × (Int × (Request × ((List Int) × (Int × (Bool × (Int × Bool))))))) → Option Bool) (g27 : (Int × (Int × (Request × ((List Int) × (Int × (Bool × (Int × Bool))))))) → Option (List (List UInt8))) (g26 : (List (List UInt8)) → (List UInt8) → Option (List UInt8)) (x : s9.args.den) (h : denH s9.heap) : nrun [⟨25,s25,fun x h => g25 x.1⟩,⟨27,s27,fun x h => g27 x.1⟩,⟨26,s26,fun x h => g26 x.1 x.2.1⟩] L n9 s9 x h = F9 L g25 g27 g26 x.1 := by kernel_rfl
def f9 : (Int × (Int × (Request × ((List Int) × (Int × (Bool × (Int × Bool))))))) → Option ((List UInt8) × (Int × Unit)) := F9 (@LN LOOPS) f25 f27 f26
@[reducible] def t9 : Ent := ⟨9,s9,fun x h => f9 x.1⟩
theorem k9 : chkNF Tryz.prog Tryz.f9 n9 = true := by kernel_rfl
theorem ok9 : NOk Tryz.prog t9 := NOk.body (T := [t25,t27,t26]) mixed (nall_cons ok25 (nall_cons ok27 (nall_cons ok26 nall_nil))) (oneEach_of (by kernel_rfl)) Tryz.func9 k9 (by kernel_rfl) (fun x h => e9 _ _ _ _ x h)
end NM
end Go.Proofs.YtpogjlhgbdpnbaaGreatDoor
end
