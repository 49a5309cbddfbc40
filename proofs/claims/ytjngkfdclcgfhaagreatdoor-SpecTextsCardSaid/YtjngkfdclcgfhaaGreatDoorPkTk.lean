/-
  What the proof of SpecTexts leans on, part 11. (Many texts laid together by program.)
-/
import Derived.Test.YtjngkfdclcgfhaaGreatDoorPkTj
set_option linter.unnecessarySimpa false
set_option linter.unusedSimpArgs false
set_option linter.unusedVariables false
section
namespace Go.Proofs.YtjngkfdclcgfhaaGreatDoor
namespace NM
open AM
inductive Ty where
 | int (k : IntKind)
 | bool
 | str
 | list (t : Ty)
 | unit
 | pair (a b : Ty)
 | res | dep | queue | weights | spec | job | share | alloc | run | booking | step | request | reply | call | entry
 deriving DecidableEq
@[reducible] def den : Ty → Type
 | .int _ => Int
 | .bool => Bool
 | .str => List UInt8
 | .list t => List (den t)
 | .unit => Unit
 | .pair a b => den a × den b
 | .res => Res
 | .dep => Dep
 | .queue => Queue
 | .weights => Weights
 | .spec => Spec
 | .job => Job
 | .share => Share
 | .alloc => Alloc
 | .run => Run
 | .booking => Booking
 | .step => Step
 | .request => Request
 | .reply => Reply
 | .call => Call
 | .entry => Entry
def Ty.isAgg : Ty → Bool
 | .int _ | .bool | .str | .list _ => false
 | _ => true
inductive NVal where
 | undef
 | bool (b : Bool)
 | int (k : IntKind) (n : Int)
 | str (s : List UInt8)
 | nilp
 | ptr (b i f : Nat)
 | iptr (cs : List NVal) (off : Nat)
 | lst (t : Ty) (xs : List (den t))
 | rows (e : Nat) (xs : List (List NVal))
 | zsl
 | sl (b off len e : Nat)
 | slw (b e : Nat)
 | fn (f : Nat) (cap : List NVal)
 | nilfn
 | nili
 | agg (cs : List NVal)
 | tup (vs : List NVal)
instance : Inhabited NVal := ⟨.undef⟩
structure Ops (α : Type) where
 size : Nat
 cells : α → List NVal
 un : List NVal → Option α
def intO (k : IntKind) : Ops Int where
 size := 1
 cells n := [.int k n]
 un cs := match cs with
   | [.int k' n] => if k' = k then some n else none
   | _ => none
def boolO : Ops Bool where
 size := 1
 cells b := [.bool b]
 un cs := match cs with
   | [.bool b] => some b
   | _ => none
def strO : Ops (List UInt8) where
 size := 1
 cells s := [.str s]
 un cs := match cs with
   | [.str s] => some s
   | _ => none
def unitO : Ops Unit where
 size := 0
 cells _ := []
 un cs := match cs with
   | [] => some ()
   | _ => none
def pairO {α β : Type} (a : Ops α) (b : Ops β) : Ops (α × β) where
 size := a.size + b.size
 cells x := a.cells x.1 ++ b.cells x.2
 un cs := (a.un (cs.take a.size)).bind fun x => (b.un (cs.drop a.size)).bind fun y => some (x, y)
def isoO {α β : Type} (o : Ops β) (f : α → β) (g : β → α) : Ops α where
 size := o.size
 cells x := o.cells (f x)
 un cs := (o.un cs).bind fun y => some (g y)
def gList (t : Ty) (o : Ops (den t)) : NVal → Option (List (den t))
 | .lst t' xs => if h : t' = t then some (h ▸ xs) else none
 | .rows e rs => if e = o.size then allOf o.un rs else none
 | .zsl => some []
 | _ => none
def listO (t : Ty) (o : Ops (den t)) : Ops (List (den t)) where
 size := 1
 cells xs := [.lst t xs]
 un cs := match cs with
   | [c] => gList t o c
   | _ => none
def i64O : Ops Int := intO .i64
def resO : Ops Res := isoO (pairO i64O (pairO i64O (pairO i64O i64O))) Res.pr Res.of
def depO : Ops Dep := isoO (pairO i64O boolO) Dep.pr Dep.of
def intsO : Ops (List Int) := listO (.int .i64) i64O
def depsO : Ops (List Dep) := listO .dep depO
def queueO : Ops Queue := isoO (pairO i64O (pairO intsO (pairO i64O (pairO i64O (pairO i64O i64O))))) Queue.pr Queue.of
def weightsO : Ops Weights := isoO (pairO i64O (pairO i64O (pairO i64O i64O))) Weights.pr Weights.of
def specO : Ops Spec := isoO (pairO (listO .res resO) (pairO (listO (.list (.int .i64)) intsO) (pairO (listO .queue queueO) (pairO i64O (pairO weightsO (pairO i64O (pairO i64O (pairO i64O (pairO i64O (pairO i64O (pairO i64O (pairO i64O (pairO i64O (pairO i64O i64O)))))))))))))) Spec.pr Spec.of
def jobO : Ops Job := isoO (pairO i64O (pairO i64O (pairO i64O (pairO i64O (pairO resO (pairO i64O (pairO depsO (pairO i64O (pairO boolO (pairO boolO (pairO i64O (pairO i64O (pairO i64O (pairO i64O i64O)))))))))))))) Job.pr Job.of
def shareO : Ops Share := isoO (pairO i64O i64O) Share.pr Share.of
def allocO : Ops Alloc := isoO (pairO i64O (pairO resO (listO .share shareO))) Alloc.pr Alloc.of
def runO : Ops Run := isoO (pairO resO (pairO (listO .share shareO) i64O)) Run.pr Run.of
def bookingO : Ops Booking := isoO (pairO i64O (pairO i64O (pairO i64O i64O))) Booking.pr Booking.of
def stepO : Ops Step := isoO (pairO i64O resO) Step.pr Step.of
def requestO : Ops Request := isoO (pairO i64O (pairO i64O (pairO i64O (pairO i64O (pairO i64O (pairO i64O (pairO resO (pairO i64O (pairO i64O (pairO depsO (pairO i64O (pairO i64O (pairO i64O i64O))))))))))))) Request.pr Request.of
def replyO : Ops Reply := isoO (pairO i64O (pairO i64O (pairO i64O (pairO i64O intsO)))) Reply.pr Reply.of
def callO : Ops Call := isoO (pairO i64O requestO) Call.pr Call.of
def entryO : Ops Entry := isoO (pairO i64O (pairO i64O (pairO requestO (pairO replyO (pairO i64O boolO))))) Entry.pr Entry.of
def ops : (t : Ty) → Ops (den t)
 | .int k => intO k
 | .bool => boolO
 | .str => strO
 | .list t => listO t (ops t)
 | .unit => unitO
 | .pair a b => pairO (ops a) (ops b)
 | .res => resO
 | .dep => depO
 | .queue => queueO
 | .weights => weightsO
 | .spec => specO
 | .job => jobO
 | .share => shareO
 | .alloc => allocO
 | .run => runO
 | .booking => bookingO
 | .step => stepO
 | .request => requestO
 | .reply => replyO
 | .call => callO
 | .entry => entryO
inductive NBlk where
 | cells (e : Nat) (flat : Bool) (rows : List (List NVal))
 | typed (t : Ty) (xs : List (den t))
inductive NSlot where
 | free
 | dead
 | gone
 | live (k : NBlk)
instance : Inhabited NSlot := ⟨.free⟩
abbrev NHeap := List NSlot
def nget (hp : NHeap) (b : Nat) : Option NBlk := match hp[b]? with
 | some (.live k) => some k
 | _ => none
def NBlk.len : NBlk → Nat
 | .cells _ _ rows => rows.length
 | .typed _ xs => xs.length
structure NSt where
 tmps : List NVal
 heap : NHeap
 k : Nat
def skP : NVal → AVal
 | .ptr b i f => .ptr b i f
 | .sl b o l e => .sl b o l e
 | .slw b e => .sl b 0 0 e
 | _ => .nilp
def skC : NVal → AVal
 | .fn f cap => .fn f (cap.map skP)
 | v => skP v
def skV : NVal → AVal
 | .agg cs => .agg (cs.map skC)
 | v => skC v
def skT : NVal → AVal
 | .tup vs => .tup (vs.map skV)
 | v => skV v
def skB : NBlk → AM.Blk
 | .cells e flat rows => ⟨e, flat, if flat then [] else rows.map (·.map skC)⟩
 | .typed _ _ => ⟨0, true, []⟩
def skS : NSlot → Slot
 | .free => .free
 | .live k => .live (skB k)
 | _ => .dead
def skH (hp : NHeap) : Heap := hp.map skS
def noneGone (hp : NHeap) (l : List Nat) : Bool := l.all fun b => match hp[b]? with
 | some .gone => false
 | _ => true
def nimmP : NVal → Bool
 | .undef | .ptr .. | .sl .. | .slw .. | .fn .. | .agg _ | .tup _ => false
 | _ => true
def nimmC : NVal → Bool
 | .fn _ cap => cap.all nimmP
 | v => nimmP v
def ncellB : NVal → Bool
 | .undef | .agg _ | .tup _ => false
 | _ => true
def ncapB : NVal → Bool
 | .fn _ cap => cap.all nimmP
 | v => ncellB v
def nbareC : NVal → Bool
 | .bool _ | .int .. | .str _ | .nilp | .zsl | .nilfn | .nili => true
 | _ => false
def nbareV : NVal → Bool
 | .agg cs => cs.all nbareC
 | v => nbareC v
def nbareT : NVal → Bool
 | .tup vs => vs.all nbareV
 | v => nbareV v
def nrenP (r : Nat → Option Nat) : NVal → NVal
 | .ptr b i f => match r b with | some c => .ptr c i f | none => .undef
 | .sl b o l e => match r b with | some c => .sl c o l e | none => .undef
 | .slw b e => match r b with | some c => .slw c e | none => .undef
 | .fn f cap => if cap.all nimmP then .fn f cap else .undef
 | .agg _ => .undef
 | .tup _ => .undef
 | v => v
def nrenC (r : Nat → Option Nat) : NVal → NVal
 | .fn f cap => .fn f (cap.map (nrenP r))
 | v => nrenP r v
def nrenV (r : Nat → Option Nat) : NVal → NVal
 | .agg cs => .agg (cs.map (nrenC r))
 | v => nrenC r v
def nrenT (r : Nat → Option Nat) : NVal → NVal
 | .tup vs => .tup (vs.map (nrenV r))
 | v => nrenV r v
def NBlk.ren (r : Nat → Option Nat) : NBlk → NBlk
 | .cells e flat rows => .cells e flat (if flat then rows else rows.map (·.map (nrenC r)))
 | .typed t xs => .typed t xs
def nviewP (hp : NHeap) : Nat → NVal → Option (NVal × List Nat)
 | 0, v => if nimmP v then some (v, []) else none
 | d + 1, .slw b e => match nget hp b with
   | some (.typed t xs) => if e = (ops t).size then some (.lst t xs, [b]) else none
   | some (.cells _ flat rows) =>
     if flat then some (.rows e rows, [b])
     else match allOn (allOn (nviewP hp d)) rows with
       | some (xs, l) => some (.rows e xs, b :: l)
       | none => none
   | none => none
 | d + 1, .ptr b i f => match nget hp b with
   | some (.cells _ flat rows) => match rows[i]? with
     | some x =>
       if flat then some (.iptr x f, [b])
       else match allOn (nviewP hp d) x with
         | some (y, l) => some (.iptr y f, b :: l)
         | none => none
     | none => none
   | _ => none
 | d + 1, .fn f cap => match allOn (nviewP hp d) cap with
   | some (c, l) => some (.fn f c, l)
   | none => none
 | _ + 1, v => if nimmP v then some (v, []) else none
def nviewV (hp : NHeap) (d : Nat) : NVal → Option (NVal × List Nat)
 | .agg cs => match allOn (nviewP hp d) cs with
   | some (c, l) => some (.agg c, l)
   | none => none
 | v => nviewP hp d v
def nviewT (hp : NHeap) (d : Nat) : NVal → Option (NVal × List Nat)
 | .tup vs => match allOn (nviewV hp d) vs with
   | some (c, l) => some (.tup c, l)
   | none => none
 | v => nviewV hp d v
def ofC : AVal → NVal
 | .bool b => .bool b
 | .int k n => .int k n
 | .str s => .str s
 | .nilp => .nilp
 | .zsl => .zsl
 | .nilfn => .nilfn
 | .nili => .nili
 | _ => .undef
def constC (c : AVal) : Bool := match c with
 | .bool _ | .int _ _ | .str _ | .nilp | .zsl | .nilfn | .nili => true
 | _ => false
def ofV : AVal → NVal
 | .agg cs => if cs.all constC then .agg (cs.map ofC) else .undef
 | v => ofC v
def nzero (zs : List AVal) : Option (List NVal) := if zs.all constC then some (zs.map ofC) else none
def nlook (tmps : List NVal) : Opd → NVal
 | .tmp t => tmps.getD t .undef
 | .const v => ofV v
 | .func f => .fn f []
 | .glob b => match globOf b globs with | some cs => if cs.all constC then .iptr (cs.map ofC) 0 else .undef | none => .undef
section
variable {ω : Type}
def nbinInt (op : BinOp) (kd : IntKind) (a b : Int) (k : NVal → Option ω) : Option ω :=
 match op with
 | .add => k (.int kd (kd.wrap (a + b)))
 | .sub => k (.int kd (kd.wrap (a - b)))
 | .mul => k (.int kd (kd.wrap (a * b)))
 | .quo => cond (decide (b = 0)) none (k (.int kd (kd.wrap (a.tdiv b))))
 | .rem => cond (decide (b = 0)) none (k (.int kd (a.tmod b)))
 | .and => k (.int kd (kd.wrap (BitVec.ofInt kd.bits a &&& BitVec.ofInt kd.bits b).toNat))
 | .or => k (.int kd (kd.wrap (BitVec.ofInt kd.bits a ||| BitVec.ofInt kd.bits b).toNat))
 | .xor => k (.int kd (kd.wrap (BitVec.ofInt kd.bits a ^^^ BitVec.ofInt kd.bits b).toNat))
 | .andNot => k (.int kd (kd.wrap (BitVec.ofInt kd.bits a &&& ~~~BitVec.ofInt kd.bits b).toNat))
 | .shl => cond (decide (b < 0)) none (k (.int kd (kd.wrap (a * 2 ^ (min b.toNat kd.bits)))))
 | .shr => cond (decide (b < 0)) none (k (.int kd (a.fdiv (2 ^ (min b.toNat kd.bits)))))
 | .eql => k (.bool (decide (a = b)))
 | .neq => k (.bool (!decide (a = b)))
 | .lss => k (.bool (decide (a < b)))
 | .leq => k (.bool (decide (a ≤ b)))
 | .gtr => k (.bool (decide (b < a)))
 | .geq => k (.bool (decide (b ≤ a)))
def nbinStr (op : BinOp) (a b : List UInt8) (k : NVal → Option ω) : Option ω :=
 match op with
 | .add => cond (decide (a.length + b.length ≤ 4294967296)) (k (.str (a ++ b))) none
 | .eql => k (.bool (decide (a = b)))
 | .neq => k (.bool (!decide (a = b)))
 | .lss => k (.bool (bytesLess a b))
 | .leq => k (.bool (bytesLess a b || decide (a = b)))
 | .gtr => k (.bool (!(bytesLess a b || decide (a = b))))
 | .geq => k (.bool (!bytesLess a b))
 | _ => none
def nbin (op : BinOp) (x y : NVal) (k : NVal → Option ω) : Option ω :=
 match x, y with
 | .int kd a, .int kd' b => if kd = kd' ∨ isShift op = true then nbinInt op kd a b k else none
 | .str a, .str b => nbinStr op a b k
 | _, _ => none
def ncellEq : CK → NVal → NVal → Option Bool
 | .int k, .int k1 a, .int k2 b => if k1 = k ∧ k2 = k then some (decide (a = b)) else none
 | .bool, .bool a, .bool b => some (a == b)
 | .str, .str a, .str b => some (decide (a = b))
 | _, _, _ => none
def ncellsEq : List CK → List NVal → List NVal → Option Bool
 | [], [], [] => some true
 | k :: ks, x :: xs, y :: ys => match ncellEq k x y with
   | some a => match ncellsEq ks xs ys with
     | some b => some (a && b)
     | none => none
   | none => none
 | _, _, _ => none
def neqPtr : NVal → NVal → Option Bool
 | .nilp, .nilp => some true
 | .nilp, .ptr .. | .nilp, .iptr .. | .ptr .., .nilp | .iptr .., .nilp => some false
 | _, _ => none
def ncellsOf : NVal → List NVal
 | .agg cs => cs
 | v => [v]
def nputAt (cs : List NVal) (off : Nat) (vs : List NVal) : List NVal := cs.take off ++ vs ++ cs.drop (off + vs.length)
def nfillP (ρ : Opd → NVal) (cs : List NVal) : List (Nat × Nat × Opd) → Option (List NVal)
 | [] => some cs
 | (off, n, x) :: rest =>
   if (ncellsOf (ρ x)).length = n ∧ off + n ≤ cs.length ∧ (ncellsOf (ρ x)).all ncellB = true then nfillP ρ (nputAt cs off (ncellsOf (ρ x))) rest else none
def nfillS (ρ : Opd → NVal) (e : Nat) (xs : List (List NVal)) : List (Nat × Opd) → Option (List (List NVal))
 | [] => some xs
 | (i, x) :: rest =>
   if (ncellsOf (ρ x)).length = e ∧ i < xs.length ∧ (ncellsOf (ρ x)).all ncellB = true then nfillS ρ e (xs.set i (ncellsOf (ρ x))) rest else none
def npartOf (agg : Bool) (cs : List NVal) (off n : Nat) : Option NVal :=
 if off + n ≤ cs.length then
   if agg then some (.agg ((cs.drop off).take n)) else (if n = 1 then cs[off]? else none)
 else none
def nidx (v : NVal) (k : Nat → Option ω) : Option ω :=
 match v with
 | .int _ n => cond (decide (0 ≤ n)) (k n.toNat) none
 | _ => none
def nbound (ρ : Opd → NVal) (o : Option Opd) (k : Option Nat → Option ω) : Option ω :=
 match o with
 | none => k none
 | some x => nidx (ρ x) fun n => k (some n)
def cut {α : Type} (xs : List α) : Option Nat → Option Nat → List α
 | none, none => xs
 | none, some h => xs.take h
 | some l, none => xs.drop l
 | some l, some h => (xs.take h).drop l
def cutOk (n : Nat) : Option Nat → Option Nat → Bool
 | none, none => true
 | none, some h => decide (h ≤ n)
 | some l, none => decide (l ≤ n)
 | some l, some h => decide (l ≤ h) && decide (h ≤ n)
def nslice (hp : NHeap) (el : Nat) (x : NVal) (lo hi : Option Nat) (k : NVal → Option ω) : Option ω :=
 match x with
 | .lst t xs => if el = (ops t).size then cond (cutOk xs.length lo hi) (k (.lst t (cut xs lo hi))) none else none
 | .rows e xs => if e = el then cond (cutOk xs.length lo hi) (k (.rows e (cut xs lo hi))) none else none
 | .zsl => cond (decide (lo.getD 0 = 0) && decide (hi.getD 0 = 0)) (k .zsl) none
 | .slw b e => if e = el then match lo, hi with
   | none, none => k (.slw b e)
   | lo, hi => match nget hp b with
     | some kb => cond (cutOk kb.len lo hi) (cond (decide (lo.getD 0 = 0) || decide (lo.getD 0 < kb.len)) (k (.sl b (lo.getD 0) (hi.getD kb.len - lo.getD 0) e)) (k (.rows e []))) none
     | none => none
   else none
 | .sl b off len e => if e = el then cond (cutOk len lo hi) (cond (decide (lo.getD 0 = 0) || decide (lo.getD 0 < len)) (k (.sl b (off + lo.getD 0) (hi.getD len - lo.getD 0) e)) (k (.rows e []))) none else none
 | _ => none
def npure (hp : NHeap) (op : AOp) (ρ : Opd → NVal) (k : NVal → Option ω) : Option ω :=
 match op with
 | .move x => k (ρ x)
 | .pick c a b => match ρ c with | .bool t => cond t (k (ρ a)) (k (ρ b)) | _ => none
 | .build zero parts => match nzero zero with
   | some zs => match nfillP ρ zs parts with | some cs => k (.agg cs) | none => none
   | none => none
 | .nilCheck x => match ρ x with | .ptr b i f => k (.ptr b i f) | .iptr cs o => k (.iptr cs o) | .fn f c => k (.fn f c) | _ => none
 | .bin op x y => nbin op (ρ x) (ρ y) k
 | .eqB neg x y => match ρ x, ρ y with | .bool a, .bool b => k (.bool (cond neg (!(a == b)) (a == b))) | _, _ => none
 | .eqP neg x y => match neqPtr (ρ x) (ρ y) with | some r => k (.bool (cond neg (!r) r)) | none => none
 | .eqI neg x y => match ρ x, ρ y with
   | .nili, .nili => k (.bool (!neg))
   | .lst _ xs, .zsl => cond xs.isEmpty none (k (.bool neg))
   | .rows _ xs, .zsl => cond xs.isEmpty none (k (.bool neg))
   | .slw b _, .zsl => match nget hp b with
     | some kb => cond (decide (kb.len = 0)) none (k (.bool neg))
     | none => none
   | _, _ => none
 | .eqAgg neg x y => match ρ x, ρ y with
   | .agg a, .agg b => match ncellsEq neg.2 a b with | some r => k (.bool (cond neg.1 (!r) r)) | none => none
   | _, _ => none
 | .un op x => match op, ρ x with
   | .neg, .int kd n => k (.int kd (kd.wrap (0 - n)))
   | .not, .bool b => k (.bool (!b))
   | _, _ => none
 | .conv kd x => match ρ x with | .int _ n => k (.int kd (kd.wrap n)) | _ => none
 | .slice el x lo hi mx => match mx with
   | none => nbound ρ lo fun l => nbound ρ hi fun h => nslice hp el (ρ x) l h k
   | some _ => none
 | .sliceStr x lo hi => match ρ x with
   | .str s => nbound ρ lo fun l => nbound ρ hi fun h => cond (cutOk s.length l h) (k (.str (cut s l h))) none
   | _ => none
 | .fieldAddr off x => match ρ x with | .ptr b i f => k (.ptr b i (f + off)) | .iptr cs o => k (.iptr cs (o + off)) | _ => none
 | .field agg off n x => match ρ x with
   | .agg cs => match npartOf agg cs off n with | some v => k v | none => none
   | _ => none
 | .indexSl e x i => match ρ x with
   | .lst t xs => if e = (ops t).size then nidx (ρ i) fun j => (xs[j]?).bind fun y => k (.iptr ((ops t).cells y) 0) else none
   | .rows e' xs => if e' = e then nidx (ρ i) fun j => match xs[j]? with | some y => k (.iptr y 0) | none => none else none
   | .slw b e' => if e' = e then match nget hp b with
     | some kb => nidx (ρ i) fun j => cond (decide (j < kb.len)) (k (.ptr b j 0)) none
     | none => none
     else none
   | .sl b off len e' => if e' = e then nidx (ρ i) fun j => cond (decide (j < len)) (k (.ptr b (off + j) 0)) none else none
   | _ => none
 | .indexArr len e x i => match ρ x with
   | .ptr b j f => nidx (ρ i) fun m => cond (decide (m < len)) (k (.ptr b j (f + m * e))) none
   | .iptr cs o => nidx (ρ i) fun m => cond (decide (m < len)) (k (.iptr cs (o + m * e))) none
   | _ => none
 | .indexVal agg len e x i => match ρ x with
   | .agg cs => nidx (ρ i) fun m => cond (decide (m < len)) (match npartOf agg cs (m * e) e with | some v => k v | none => none) none
   | _ => none
 | .indexStr x i => match ρ x with
   | .str s => nidx (ρ i) fun j => (s[j]?).bind fun c => k (.int .u8 (c.toNat : Int))
   | _ => none
 | .extract x i => match ρ x with
   | .tup vs => match vs[i]? with | some v => k v | none => none
   | _ => none
 | .makeFunc f cap => if (cap.map ρ).all ncapB = true then k (.fn f (cap.map ρ)) else none
 | .len x => match ρ x with
   | .lst _ xs => k (.int .i64 (xs.length : Int))
   | .rows _ xs => k (.int .i64 (xs.length : Int))
   | .zsl => k (.int .i64 ((0 : Nat) : Int))
   | .slw b _ => match nget hp b with | some kb => k (.int .i64 (kb.len : Int)) | none => none
   | .sl _ _ len _ => k (.int .i64 (len : Int))
   | _ => none
 | .lenStr x => match ρ x with | .str s => k (.int .i64 (s.length : Int)) | _ => none
 | .minmax isMax x y => match ρ x, ρ y with
   | .int kd a, .int kd' b => if kd = kd' then k (.int kd (cond isMax (if b > a then b else a) (if b < a then b else a))) else none
   | _, _ => none
 | _ => none
def nload (hp : NHeap) (n : Nat) (a : NVal) (k : List NVal → Option ω) : Option ω :=
 match a with
 | .ptr b i f => match nget hp b with
   | some (.cells _ _ rows) => match rows[i]? with
     | some x => if f + n ≤ x.length then k ((x.drop f).take n) else none
     | none => none
   | some (.typed t xs) => (xs[i]?).bind fun y => if f + n ≤ ((ops t).cells y).length then k ((((ops t).cells y).drop f).take n) else none
   | none => none
 | .iptr cs off => if off + n ≤ cs.length then k ((cs.drop off).take n) else none
 | _ => none
def nbyte (n : Int) : Option UInt8 := if 0 ≤ n ∧ n < 256 then some (UInt8.ofNat n.toNat) else none
def nbytes (xs : List Int) : Option (List UInt8) := allOf nbyte xs
def nstrL (t : Ty) (xs : List (den t)) (k : NVal → Option ω) : Option ω :=
 match t, xs with
 | .int .u8, xs => (nbytes xs).bind fun s => k (.str s)
 | _, _ => none
def nrowInt (x : List NVal) : Option Int := match x with | [.int .u8 n] => some n | _ => none
def nrowInts (rows : List (List NVal)) : Option (List Int) := allOf nrowInt rows
def nstrV (hp : NHeap) (a : NVal) (k : NVal → Option ω) : Option ω :=
 match a with
 | .zsl => k (.str [])
 | .lst t xs => nstrL t xs k
 | .slw b e => match nget hp b with
   | some (.typed t xs) => if e = 1 then nstrL t xs k else none
   | some (.cells _ _ rows) => if e = 1 then match nrowInts rows with | some xs => nstrL (.int .u8) xs k | none => none else none
   | none => none
 | _ => none
def nloadV (hp : NHeap) (agg : Bool) (n : Nat) (a : NVal) (k : NVal → Option ω) : Option ω :=
 if agg = false ∧ n = 0 then nstrV hp a k
 else nload hp n a fun cs => if agg then k (.agg cs) else match cs with | [c] => k c | _ => none
def nkill (s : NSlot) (hp : NHeap) : List Nat → NHeap
 | [] => hp
 | b :: bs => nkill s (hp.set b s) bs
def NBlk.flat : NBlk → Bool
 | .cells _ flat _ => flat
 | .typed _ _ => true
def nsettle (hp : NHeap) (flat : Bool) (vs : List NVal) : Option (List NVal × NHeap) :=
 if flat then
   match allOn (nviewP hp DEEP) vs with
   | some (us, l) => some (us, nkill .dead hp l)
   | none => none
 else some (vs, hp)
def nstore (hp : NHeap) (n : Nat) (a x : NVal) (k : NHeap → Option ω) : Option ω :=
 match a with
 | .ptr b i f => match nget hp b with
   | some kb =>
     if (ncellsOf x).length = n ∧ (ncellsOf x).all ncellB = true then
       match nsettle hp kb.flat (ncellsOf x) with
       | some (us, hp1) => match nget hp1 b with
         | some (.cells e fl rows) => match rows[i]? with
           | some y => if f + n ≤ y.length then k (hp1.set b (.live (.cells e fl (rows.set i (nputAt y f us))))) else none
           | none => none
         | some (.typed t xs) => (xs[i]?).bind fun y =>
           if f + n ≤ ((ops t).cells y).length then match (ops t).un (nputAt ((ops t).cells y) f us) with
             | some y' => k (hp1.set b (.live (.typed t (xs.set i y'))))
             | none => none
           else none
         | none => none
       | none => none
     else none
   | none => none
 | _ => none
inductive Els where
 | rows (ro : Bool) (rs : List (List NVal))
 | typed (t : Ty) (xs : List (den t))
def Els.len : Els → Nat
 | .rows _ rs => rs.length
 | .typed _ xs => xs.length
def nappended (hp : NHeap) (e : Nat) (x : NVal) (k : Els → Option ω) : Option ω :=
 match x with
 | .lst t xs => if e = (ops t).size then k (.typed t xs) else none
 | .rows e' xs => if e' = e then k (.rows true xs) else none
 | .zsl => k (.rows true [])
 | .slw b e' => match nget hp b with
   | some (.typed t xs) => if e = (ops t).size then k (.typed t xs) else none
   | some (.cells e' fl rows) => if e' = e then k (.rows fl rows) else none
   | _ => none
 | .sl b off len e' => match nget hp b with
   | some (.typed t xs) => if e = (ops t).size then cond (decide (off + len ≤ xs.length)) (k (.typed t ((xs.drop off).take len))) none else none
   | _ => none
 | .str s => if e = 1 then k (.typed (.int .u8) (s.map fun c => (c.toNat : Int))) else none
 | _ => none
def naddTo (flat : Bool) (e : Nat) : NBlk → Els → Option NBlk
 | .cells e' flat' rows, .rows ro rs => if e' = e ∧ flat' = flat ∧ (flat = true → ro = true) then some (.cells e flat (rows ++ rs)) else none
 | .typed t xs, .typed t' ys => if h : t' = t then (if flat = true ∧ e = (ops t).size then some (.typed t (xs ++ (h ▸ ys))) else none) else none
 | .typed t xs, .rows ro rs => if flat = true ∧ e = (ops t).size ∧ ro = true then match allOf (ops t).un rs with | some ys => some (.typed t (xs ++ ys)) | none => none else none
 | .cells e' flat' rows, .typed t ys => if flat' = true ∧ flat = true ∧ e' = e ∧ e = (ops t).size then match allOf (ops t).un rows with | some xs => some (.typed t (xs ++ ys)) | none => none else none
def nfree (hp : NHeap) (b : Nat) : Bool := match hp[b]? with | some .free => true | _ => false
def notOf (b : Nat) : NVal → Bool
 | .sl b' _ _ _ => b' != b
 | .slw b' _ => b' != b
 | _ => true
def nsettleRows (hp : NHeap) (flat : Bool) : Els → Option (Els × NHeap)
 | .rows false rs => if flat then match allOn (allOn (nviewP hp DEEP)) rs with
     | some (zs, l) => some (.rows true zs, nkill .dead hp l)
     | none => none
   else some (.rows false rs, hp)
 | els => some (els, hp)
def nappend (hp : NHeap) (id e bytes : Nat) (flat : Bool) (s x : NVal) (k : NVal → NHeap → Option ω) : Option ω :=
 nappended hp e x fun els => match nsettleRows hp flat els with
   | none => none
   | some (els, hp1) => if nfree hp1 id = false then none else match s with
     | .zsl => match naddTo flat e (.cells e flat []) els with
       | some kb => cond (smallB els.len bytes) (k (.slw id e) (hp1.set id (.live kb))) none
       | none => none
     | .slw b e' => match nget hp1 b with
       | some kb => if notOf b x = true ∧ id ≠ b then match naddTo flat e kb els with
           | some kb' => cond (smallB (kb.len + els.len) bytes) (k (.slw id e) ((nkill .dead hp1 [b]).set id (.live kb'))) none
           | none => none
         else none
       | none => none
     | _ => none
end
end NM
end Go.Proofs.YtjngkfdclcgfhaaGreatDoor
end
