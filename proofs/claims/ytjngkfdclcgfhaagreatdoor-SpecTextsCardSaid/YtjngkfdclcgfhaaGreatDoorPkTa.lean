/-
  What the proof of SpecTexts leans on, part 1. (Many texts laid together by program.)
-/
import Derived.Orders
import Derived.Below
import GoSem.Core.Float
set_option linter.unnecessarySimpa false
set_option linter.unusedSimpArgs false
set_option linter.unusedVariables false
section
namespace Go.Proofs.YtjngkfdclcgfhaaGreatDoor
namespace AM
inductive AVal where
 | undef
 | bool (b : Bool)
 | int (k : IntKind) (n : Int)
 | str (s : List UInt8)
 | nilp
 | ptr (b i f : Nat)
 | iptr (cs : List AVal) (off : Nat)
 | imm (e : Nat) (xs : List (List AVal))
 | zsl
 | sl (b off len e : Nat)
 | fn (f : Nat) (cap : List AVal)
 | nilfn
 | nili
 /-- a whole number as a floating-point number of 64 bits; two of them as a complex one -/
 | fl (n : Int)
 | cx (a b : Int)
 | agg (cs : List AVal)
 | tup (vs : List AVal)
 deriving Inhabited
def globs : List (Nat × List AVal) :=
 (1, [.int .u64 1, .int .u64 10, .int .u64 100, .int .u64 1000, .int .u64 10000, .int .u64 100000, .int .u64 1000000, .int .u64 10000000, .int .u64 100000000, .int .u64 1000000000, .int .u64 10000000000, .int .u64 100000000000, .int .u64 1000000000000, .int .u64 10000000000000, .int .u64 100000000000000, .int .u64 1000000000000000, .int .u64 10000000000000000, .int .u64 100000000000000000, .int .u64 1000000000000000000, .int .u64 10000000000000000000]) ::
 []
def anyInts : List Nat :=
 0 ::
 []
def anyIfs : List Nat :=
 2 ::
 3 ::
 []
def globOf (b : Nat) : List (Nat × List AVal) → Option (List AVal)
 | [] => none
 | (c, cs) :: l => if c = b then some cs else globOf b l
end AM
end Go.Proofs.YtjngkfdclcgfhaaGreatDoor
end
section
namespace Go.Proofs.YtjngkfdclcgfhaaGreatDoor
namespace AM
structure Blk where
 e : Nat
 flat : Bool
 elems : List (List AVal)
 deriving Inhabited
inductive Slot where
 | free
 | dead
 | live (k : Blk)
 deriving Inhabited
abbrev Heap := List Slot
def Heap.get (hp : Heap) (b : Nat) : Option Blk := match hp[b]? with | some (.live k) => some k | _ => none
def Heap.isFree (hp : Heap) (b : Nat) : Bool := match hp[b]? with | some .free => true | _ => false
def allOf {α β : Type} (f : α → Option β) : List α → Option (List β)
 | [] => some []
 | x :: xs => match f x with
   | some y => match allOf f xs with
     | some ys => some (y :: ys)
     | none => none
   | none => none
def allOn {α β : Type} (f : α → Option (β × List Nat)) : List α → Option (List β × List Nat)
 | [] => some ([], [])
 | x :: xs => match f x with
   | some (y, l) => match allOn f xs with
     | some (ys, m) => some (y :: ys, l ++ m)
     | none => none
   | none => none
namespace AVal
def ownP : AVal → List Nat
 | .ptr b _ _ => [b]
 | .sl b _ _ _ => [b]
 | _ => []
def ownC : AVal → List Nat
 | .fn _ cap => cap.flatMap ownP
 | v => ownP v
def ownV : AVal → List Nat
 | .agg cs => cs.flatMap ownC
 | v => ownC v
def ownT : AVal → List Nat
 | .tup vs => vs.flatMap ownV
 | v => ownV v
def immP : AVal → Bool
 | .undef | .ptr .. | .sl .. | .fn .. | .agg _ | .tup _ => false
 | _ => true
def renP (r : Nat → Option Nat) : AVal → AVal
 | .ptr b i f => match r b with | some c => .ptr c i f | none => .undef
 | .sl b o l e => match r b with | some c => .sl c o l e | none => .undef
 | .fn f cap => if cap.all immP then .fn f cap else .undef
 | .agg _ => .undef
 | .tup _ => .undef
 | v => v
def renC (r : Nat → Option Nat) : AVal → AVal
 | .fn f cap => .fn f (cap.map (renP r))
 | v => renP r v
def renV (r : Nat → Option Nat) : AVal → AVal
 | .agg cs => .agg (cs.map (renC r))
 | v => renC r v
def renT (r : Nat → Option Nat) : AVal → AVal
 | .tup vs => .tup (vs.map (renV r))
 | v => renV r v
def immC : AVal → Bool
 | .fn _ cap => cap.all immP
 | v => immP v
def cellB : AVal → Bool
 | .undef | .agg _ | .tup _ => false
 | _ => true
def bareC : AVal → Bool
 | .bool _ | .int .. | .str _ | .nilp | .zsl | .nilfn | .nili | .fl _ | .cx .. => true
 | _ => false
def bareV : AVal → Bool
 | .agg cs => cs.all bareC
 | v => bareC v
def bareT : AVal → Bool
 | .tup vs => vs.all bareV
 | v => bareV v
end AVal
def viewP (hp : Heap) : Nat → AVal → Option (AVal × List Nat)
 | 0, v => if v.immP then some (v, []) else none
 | d + 1, .sl b off len e => match hp.get b with
   | some k =>
     if off + len ≤ k.elems.length then
       if k.flat then some (.imm e ((k.elems.drop off).take len), [b])
       else match allOn (allOn (viewP hp d)) ((k.elems.drop off).take len) with
         | some (xs, l) => some (.imm e xs, b :: l)
         | none => none
     else none
   | none => none
 | d + 1, .ptr b i f => match hp.get b with
   | some k => match k.elems[i]? with
     | some x =>
       if k.flat then some (.iptr x f, [b])
       else match allOn (viewP hp d) x with
         | some (y, l) => some (.iptr y f, b :: l)
         | none => none
     | none => none
   | none => none
 | d + 1, .fn f cap => match allOn (viewP hp d) cap with
   | some (c, l) => some (.fn f c, l)
   | none => none
 | _ + 1, v => if v.immP then some (v, []) else none
def viewV (hp : Heap) (d : Nat) : AVal → Option (AVal × List Nat)
 | .agg cs => match allOn (viewP hp d) cs with
   | some (c, l) => some (.agg c, l)
   | none => none
 | v => viewP hp d v
def viewT (hp : Heap) (d : Nat) : AVal → Option (AVal × List Nat)
 | .tup vs => match allOn (viewV hp d) vs with
   | some (c, l) => some (.tup c, l)
   | none => none
 | v => viewV hp d v
def Blk.owns (k : Blk) : List Nat := if k.flat then [] else k.elems.flatMap fun r => r.flatMap AVal.ownC
def Blk.ren (r : Nat → Option Nat) (k : Blk) : Blk := if k.flat then k else { k with elems := k.elems.map (·.map (AVal.renC r)) }
def addNew (acc : List Nat) : List Nat → List Nat
 | [] => acc
 | b :: bs => addNew (if acc.contains b then acc else acc ++ [b]) bs
def alive (hp : Heap) (l : List Nat) : List Nat := l.filter fun b => (hp.get b).isSome
def reachOnce (hp : Heap) (acc : List Nat) : List Nat := addNew acc (alive hp (acc.flatMap fun b => match hp.get b with | some k => k.owns | none => []))
def reach (hp : Heap) (keep : List Nat) (roots : List Nat) : List Nat :=
 reachOnce hp (reachOnce hp (reachOnce hp (addNew keep (alive hp roots))))
def index (ids : List Nat) (b : Nat) : Option Nat := ids.findIdx? (· == b)
def nodupB : List Nat → Bool
 | [] => true
 | x :: xs => !xs.contains x && nodupB xs
def DEEP : Nat := 4
inductive Opd where
 | tmp (t : Nat)
 | const (v : AVal)
 | func (f : Nat)
 | glob (b : Nat)
 deriving Inhabited
inductive CK where
 | int (k : IntKind)
 | bool
 | str
 deriving DecidableEq, Inhabited
inductive FOp where
 | ofInt | toInt | mk | re | im | add | sub | mul
 deriving DecidableEq, Inhabited
inductive AOp where
 | move (x : Opd)
 | pick (c a b : Opd)
 | box (n : Nat) (x : Opd)
 | alloc (zero : List AVal)
 | build (zero : List AVal) (parts : List (Nat × Nat × Opd))
 | buildSlice (e len : Nat) (flat : Bool) (zero : List AVal) (parts : List (Nat × Opd))
 | load (agg : Bool) (n : Nat) (a : Opd)
 | store (n : Nat) (a x : Opd)
 | nilCheck (x : Opd)
 | bin (op : BinOp) (x y : Opd)
 | eqB (neg : Bool) (x y : Opd)
 | eqP (neg : Bool) (x y : Opd)
 | eqI (neg : Bool) (x y : Opd)
 | eqAgg (neg : Bool × List CK) (x y : Opd)
 | un (op : UnOp) (x : Opd)
 | conv (k : IntKind) (x : Opd)
 | makeSlice (e bytes : Nat) (flat : Bool) (zero : List AVal) (len cap : Opd)
 | slice (e : Nat) (x : Opd) (lo hi mx : Option Opd)
 | sliceStr (x : Opd) (lo hi : Option Opd)
 | fieldAddr (off : Nat) (x : Opd)
 | field (agg : Bool) (off n : Nat) (x : Opd)
 | indexSl (e : Nat) (x i : Opd)
 | indexArr (len e : Nat) (x i : Opd)
 | indexVal (agg : Bool) (len e : Nat) (x i : Opd)
 | indexStr (x i : Opd)
 | extract (x : Opd) (i : Nat)
 | makeFunc (f : Nat) (cap : List Opd)
 | call (f : Opd) (args : List (Bool × Opd)) (quiet : Bool) (room : Nat)
 | len (x : Opd)
 | lenStr (x : Opd)
 | append (e bytes : Nat) (flat : Bool) (s x : Opd)
 | sliceArr (len e : Nat) (x : Opd)
 | minmax (isMax : Bool) (x y : Opd)
 | flt (op : FOp) (x y : Opd)
 deriving Inhabited
abbrev Sees := Option (List Nat × Option (List Nat))
structure AOper where
 dst : Option Nat
 op : AOp
 guard : Option (Nat × Bool)
 /-- the first of the numbers that are kept for blocks of this operation, counted from the region's first -/
 at_ : Nat
 sees : Sees
 deriving Inhabited
inductive ACode where
 | skip
 | region (ids : Nat) (ops : List AOper)
 | seq (a b : ACode)
 | cond (c : Opd) (thn els : ACode)
 | block (id : Nat) (body : ACode)
 | loop (keep : List Nat) (body : ACode)
 | exit (id : Nat)
 | ret
 | label
 | goto (l : Nat)
 | scope (l : Nat) (keep : List Nat) (rest body : ACode)
 deriving Inhabited
inductive RVar where
 | tmp (t : Nat)
 | cell (agg : Bool) (n : Nat) (t : Nat)
 deriving Inhabited
structure AFunc where
 ntmps : Nat
 code : ACode
 results : List RVar
 freeze : Bool
 deriving Inhabited
structure St where
 tmps : List AVal
 heap : Heap
 /-- how many of the first blocks are the caller's -/
 k : Nat
 deriving Inhabited
abbrev Oracle := Nat → List AVal → Heap → Option (AVal × Heap)
def look (tmps : List AVal) : Opd → AVal
 | .tmp t => tmps.getD t .undef
 | .const v => v
 | .func f => .fn f []
 | .glob b => match globOf b globs with | some cs => .iptr cs 0 | none => .undef
def bytesLess : List UInt8 → List UInt8 → Bool
 | _, [] => false
 | [], _ :: _ => true
 | a :: x, b :: y => a < b || (a == b && bytesLess x y)
def binInt (op : BinOp) (k : IntKind) (a b : Int) : Option AVal :=
 match op with
 | .add => some (.int k (k.wrap (a + b)))
 | .sub => some (.int k (k.wrap (a - b)))
 | .mul => some (.int k (k.wrap (a * b)))
 | .quo => if b = 0 then none else some (.int k (k.wrap (a.tdiv b)))
 | .rem => if b = 0 then none else some (.int k (a.tmod b))
 | .and => some (.int k (k.wrap (BitVec.ofInt k.bits a &&& BitVec.ofInt k.bits b).toNat))
 | .or => some (.int k (k.wrap (BitVec.ofInt k.bits a ||| BitVec.ofInt k.bits b).toNat))
 | .xor => some (.int k (k.wrap (BitVec.ofInt k.bits a ^^^ BitVec.ofInt k.bits b).toNat))
 | .andNot => some (.int k (k.wrap (BitVec.ofInt k.bits a &&& ~~~BitVec.ofInt k.bits b).toNat))
 | .shl => if b < 0 then none else some (.int k (k.wrap (a * 2 ^ (min b.toNat k.bits))))
 | .shr => if b < 0 then none else some (.int k (a.fdiv (2 ^ (min b.toNat k.bits))))
 | .eql => some (.bool (decide (a = b)))
 | .neq => some (.bool (!decide (a = b)))
 | .lss => some (.bool (decide (a < b)))
 | .leq => some (.bool (decide (a ≤ b)))
 | .gtr => some (.bool (decide (b < a)))
 | .geq => some (.bool (decide (b ≤ a)))
def isShift : BinOp → Bool
 | .shl | .shr => true
 | _ => false
def binStr (op : BinOp) (a b : List UInt8) : Option AVal :=
 match op with
 | .add => if a.length + b.length ≤ 4294967296 then some (.str (a ++ b)) else none
 | .eql => some (.bool (decide (a = b)))
 | .neq => some (.bool (!decide (a = b)))
 | .lss => some (.bool (bytesLess a b))
 | .leq => some (.bool (bytesLess a b || decide (a = b)))
 | .gtr => some (.bool (!(bytesLess a b || decide (a = b))))
 | .geq => some (.bool (!bytesLess a b))
 | _ => none
def binop (op : BinOp) : AVal → AVal → Option AVal
 | .int k a, .int k' b => if k = k' ∨ isShift op = true then binInt op k a b else none
 | .str a, .str b => binStr op a b
 | _, _ => none
def unop : UnOp → AVal → Option AVal
 | .neg, .int k n => some (.int k (k.wrap (0 - n)))
 | .not, .bool b => some (.bool (!b))
 | _, _ => none
def wholeB (n : Int) : Bool := decide (-1125899906842624 ≤ n) && decide (n ≤ 1125899906842624)
def partB (n : Int) : Bool := decide (0 ≤ n) && decide (n ≤ 1048576)
def fop : FOp → AVal → AVal → Option AVal
 | .ofInt, .int .i64 n, _ => some (.fl n)
 | .toInt, .fl n, _ => if wholeB n = true then some (.int .i64 n) else none
 | .mk, .fl a, .fl b => some (.cx a b)
 | .re, .cx a _, _ => some (.fl a)
 | .im, .cx _ b, _ => some (.fl b)
 | .add, .cx a b, .cx c d => if (partB a && partB b && partB c && partB d) = true then some (.cx (a + c) (b + d)) else none
 | .sub, .cx a b, .cx c d => if (partB a && partB b && partB c && partB d) = true then some (.cx (a - c) (b - d)) else none
 | .mul, .cx a b, .cx c d => if (partB a && partB b && partB c && decide (d = 0)) = true then some (.cx (a * c) (b * c)) else none
 | _, _, _ => none
def cellEq : CK → AVal → AVal → Option Bool
 | .int k, .int k1 a, .int k2 b => if k1 = k ∧ k2 = k then some (decide (a = b)) else none
 | .bool, .bool a, .bool b => some (a == b)
 | .str, .str a, .str b => some (decide (a = b))
 | _, _, _ => none
def cellsEq : List CK → List AVal → List AVal → Option Bool
 | [], [], [] => some true
 | k :: ks, x :: xs, y :: ys => match cellEq k x y with
   | some a => match cellsEq ks xs ys with
     | some b => some (a && b)
     | none => none
   | none => none
 | _, _, _ => none
def eqPtr : AVal → AVal → Option Bool
 | .nilp, .nilp => some true
 | .nilp, .ptr .. | .nilp, .iptr .. | .ptr .., .nilp | .iptr .., .nilp => some false
 | _, _ => none
def eqIface : AVal → AVal → Option Bool
 | .nili, .nili => some true
 | .imm _ (_ :: _), .zsl => some false
 | .sl _ _ (_ + 1) _, .zsl => some false
 | _, _ => none
def cellsOf : AVal → List AVal
 | .agg cs => cs
 | v => [v]
def putAt (cs : List AVal) (off : Nat) (vs : List AVal) : List AVal := cs.take off ++ vs ++ cs.drop (off + vs.length)
def fillP (ρ : Opd → AVal) (cs : List AVal) : List (Nat × Nat × Opd) → Option (List AVal)
 | [] => some cs
 | (off, n, x) :: rest =>
   if (cellsOf (ρ x)).length = n ∧ off + n ≤ cs.length ∧ (cellsOf (ρ x)).all AVal.cellB = true then fillP ρ (putAt cs off (cellsOf (ρ x))) rest else none
def fillS (ρ : Opd → AVal) (e : Nat) (xs : List (List AVal)) : List (Nat × Opd) → Option (List (List AVal))
 | [] => some xs
 | (i, x) :: rest =>
   if (cellsOf (ρ x)).length = e ∧ i < xs.length ∧ (cellsOf (ρ x)).all AVal.cellB = true then fillS ρ e (xs.set i (cellsOf (ρ x))) rest else none
def partOf (agg : Bool) (cs : List AVal) (off n : Nat) : Option AVal :=
 if off + n ≤ cs.length then
   if agg then some (.agg ((cs.drop off).take n)) else (if n = 1 then cs[off]? else none)
 else none
def idxNat : AVal → Option Nat
 | .int _ n => if 0 ≤ n then some n.toNat else none
 | _ => none
def bound (ρ : Opd → AVal) (o : Option Opd) (dflt : Nat) : Option Nat :=
 match o with
 | none => some dflt
 | some x => idxNat (ρ x)
def optIdx (ρ : Opd → AVal) (o : Option Opd) : Option (Option Nat) :=
 match o with
 | none => some none
 | some x => match idxNat (ρ x) with | some n => some (some n) | none => none
def sliceVal (el : Nat) (x : AVal) (lo : Nat) (hi mx : Option Nat) : Option AVal :=
 match x with
 | .imm e xs =>
   let h := hi.getD xs.length
   if lo ≤ h ∧ h ≤ xs.length ∧ e = el then
     match mx with
     | none => some (.imm e ((xs.take h).drop lo))
     | some m => if h ≤ m ∧ m ≤ xs.length then (if m = lo then some .zsl else some (.imm e ((xs.take h).drop lo))) else none
   else none
 | .zsl => if lo = 0 ∧ hi.getD 0 = 0 ∧ mx.getD 0 = 0 then some .zsl else none
 | .sl b off len e =>
   let h := hi.getD len
   if lo ≤ h ∧ h ≤ len ∧ e = el then
     match mx with
     | none => if lo = 0 ∨ lo < len then some (.sl b (off + lo) (h - lo) e) else some (.imm e [])
     | some m => if h ≤ m ∧ m ≤ len ∧ m = lo then some .zsl else none
   else none
 | _ => none
def lenVal : AVal → Option Nat
 | .imm _ xs => some xs.length
 | .zsl => some 0
 | .sl _ _ len _ => some len
 | _ => none
def pureOp (op : AOp) (ρ : Opd → AVal) : Option AVal :=
 match op with
 | .move x => some (ρ x)
 | .pick c a b => match ρ c with | .bool t => some (if t then ρ a else ρ b) | _ => none
 | .build zero parts => (fillP ρ zero parts).map .agg
 | .nilCheck x => match ρ x with | .ptr b i f => some (.ptr b i f) | .iptr cs o => some (.iptr cs o) | .fn f c => some (.fn f c) | _ => none
 | .bin op x y => binop op (ρ x) (ρ y)
 | .eqB neg x y => match ρ x, ρ y with | .bool a, .bool b => some (.bool (if neg then !(a == b) else a == b)) | _, _ => none
 | .eqP neg x y => (eqPtr (ρ x) (ρ y)).map fun r => .bool (if neg then !r else r)
 | .eqI neg x y => (eqIface (ρ x) (ρ y)).map fun r => .bool (if neg then !r else r)
 | .eqAgg neg x y => match ρ x, ρ y with
   | .agg a, .agg b => (cellsEq neg.2 a b).map fun r => .bool (if neg.1 then !r else r)
   | _, _ => none
 | .un op x => unop op (ρ x)
 | .conv k x => match ρ x with | .int _ n => some (.int k (k.wrap n)) | _ => none
 | .slice el x lo hi mx =>
   match bound ρ lo 0 with
   | none => none
   | some l =>
     match optIdx ρ hi, optIdx ρ mx with
     | some h, some m => sliceVal el (ρ x) l h m
     | _, _ => none
 | .sliceStr x lo hi => match ρ x with
   | .str s => match bound ρ lo 0, bound ρ hi s.length with
     | some l, some h => if l ≤ h ∧ h ≤ s.length then some (.str ((s.take h).drop l)) else none
     | _, _ => none
   | _ => none
 | .fieldAddr off x => match ρ x with | .ptr b i f => some (.ptr b i (f + off)) | .iptr cs o => some (.iptr cs (o + off)) | _ => none
 | .field agg off n x => match ρ x with | .agg cs => partOf agg cs off n | _ => none
 | .indexSl e x i => match ρ x, idxNat (ρ i) with
   | .imm e' xs, some k => if e' = e then (xs[k]?).map fun c => .iptr c 0 else none
   | .sl b off len e', some k => if k < len ∧ e' = e then some (.ptr b (off + k) 0) else none
   | _, _ => none
 | .indexArr len e x i => match ρ x, idxNat (ρ i) with
   | .ptr b j f, some k => if k < len then some (.ptr b j (f + k * e)) else none
   | .iptr cs o, some k => if k < len then some (.iptr cs (o + k * e)) else none
   | _, _ => none
 | .indexVal agg len e x i => match ρ x, idxNat (ρ i) with
   | .agg cs, some k => if k < len then partOf agg cs (k * e) e else none
   | _, _ => none
 | .indexStr x i => match ρ x, idxNat (ρ i) with
   | .str s, some k => match s[k]? with | some c => some (.int .u8 (c.toNat : Int)) | none => none
   | _, _ => none
 | .extract x i => match ρ x with | .tup vs => vs[i]? | _ => none
 | .makeFunc f cap => if (cap.map ρ).all AVal.cellB = true then some (.fn f (cap.map ρ)) else none
 | .len x => match lenVal (ρ x) with | some n => some (.int .i64 (n : Int)) | none => none
 | .lenStr x => match ρ x with | .str s => some (.int .i64 s.length) | _ => none
 | .minmax isMax x y => match ρ x, ρ y with
   | .int k a, .int k' b => if k = k' then some (.int k (if isMax then (if b > a then b else a) else (if b < a then b else a))) else none
   | _, _ => none
 | .flt op x y => fop op (ρ x) (ρ y)
 | _ => none
def isPure : AOp → Bool
 | .box .. | .alloc .. | .buildSlice .. | .load .. | .store .. | .makeSlice .. | .call .. | .append .. | .sliceArr .. => false
 | _ => true
def newOp (op : AOp) (ρ : Opd → AVal) (id : Nat) : Option (AVal × Blk) :=
 match op with
 | .box n x => if (cellsOf (ρ x)).length = n ∧ (cellsOf (ρ x)).all AVal.cellB = true then some (.ptr id 0 0, ⟨n, false, [cellsOf (ρ x)]⟩) else none
 | .alloc zero => some (.ptr id 0 0, ⟨zero.length, false, [zero]⟩)
 | .buildSlice e len flat zero parts => match fillS ρ e (List.replicate len zero) parts with
   | some xs => some (.sl id 0 len e, ⟨e, flat && xs.all (·.all AVal.immC), xs⟩)
   | none => none
 | .makeSlice e bytes flat zero len cap => match idxNat (ρ len), idxNat (ρ cap) with
   | some l, some c => if l ≤ c ∧ c * bytes ≤ 1099511627776 ∧ c ≤ 4294967296 then some (.sl id 0 l e, ⟨e, flat, List.replicate l zero⟩) else none
   | _, _ => none
 | _ => none
def isNew : AOp → Bool
 | .box .. | .alloc .. | .buildSlice .. | .makeSlice .. => true
 | _ => false
def loadCells (hp : Heap) (n : Nat) : AVal → Option (List AVal)
 | .ptr b i f => match hp.get b with
   | some k => match k.elems[i]? with
     | some x => if f + n ≤ x.length then some ((x.drop f).take n) else none
     | none => none
   | none => none
 | .iptr cs off => if off + n ≤ cs.length then some ((cs.drop off).take n) else none
 | _ => none
def byteRow (x : List AVal) : Option UInt8 :=
 match x with
 | [.int .u8 n] => if 0 ≤ n ∧ n < 256 then some (UInt8.ofNat n.toNat) else none
 | _ => none
def strVal (hp : Heap) (a : AVal) : Option AVal :=
 match a with
 | .zsl => some (.str [])
 | .imm e xs => if e = 1 then match allOf byteRow xs with | some s => some (.str s) | none => none else none
 | .sl b off len e => match hp.get b with
   | some k => if e = 1 ∧ off + len ≤ k.elems.length then match allOf byteRow ((k.elems.drop off).take len) with | some s => some (.str s) | none => none else none
   | none => none
 | _ => none
def loadVal (hp : Heap) (agg : Bool) (n : Nat) (a : AVal) : Option AVal :=
 if agg = false ∧ n = 0 then strVal hp a
 else match loadCells hp n a with
 | some cs => if agg then some (.agg cs) else match cs with | [c] => some c | _ => none
 | none => none
def kill (hp : Heap) : List Nat → Heap
 | [] => hp
 | b :: bs => kill (hp.set b .dead) bs
def settle (hp : Heap) (flat : Bool) (vs : List AVal) : Option (List AVal × Heap) :=
 if flat then
   match allOn (viewP hp DEEP) vs with
   | some (us, l) => some (us, kill hp l)
   | none => none
 else some (vs, hp)
def storeVal (hp : Heap) (n : Nat) (a x : AVal) : Option Heap :=
 match a with
 | .ptr b i f => match hp.get b with
   | some k =>
     if (cellsOf x).length = n ∧ (cellsOf x).all AVal.cellB = true then
       match settle hp k.flat (cellsOf x) with
       | some (us, hp1) => match hp1.get b with
         | some k1 => match k1.elems[i]? with
           | some y => if f + n ≤ y.length then some (hp1.set b (.live ⟨k1.e, k1.flat, k1.elems.set i (putAt y f us)⟩)) else none
           | none => none
         | none => none
       | none => none
     else none
   | none => none
 | _ => none
def appended (hp : Heap) (e : Nat) : AVal → Option (List (List AVal))
 | .imm e' xs => if e' = e then some xs else none
 | .zsl => some []
 | .sl b off len _ => match hp.get b with
   | some k => if k.e = e ∧ off + len ≤ k.elems.length then some ((k.elems.drop off).take len) else none
   | none => none
 | .str s => if e = 1 then some (s.map fun c => [.int .u8 c.toNat]) else none
 | _ => none
def rowsFlat (hp : Heap) : AVal → Bool
 | .sl b _ _ _ => match hp.get b with | some k => k.flat | none => false
 | _ => true
def settleRows (hp : Heap) (flat : Bool) (x : AVal) (ys : List (List AVal)) : Option (List (List AVal) × Heap) :=
 if rowsFlat hp x || !flat then some (ys, hp)
 else match allOn (allOn (viewP hp DEEP)) ys with
   | some (zs, l) => some (zs, kill hp l)
   | none => none
def smallB (n bytes : Nat) : Bool := n * bytes ≤ 1099511627776 && n ≤ 4294967296
def notIn (b : Nat) : AVal → Bool
 | .sl b' _ _ _ => b' != b
 | _ => true
def appendVal (hp : Heap) (id e bytes : Nat) (flat : Bool) (s x : AVal) : Option (AVal × Heap) :=
 match appended hp e x with
 | none => none
 | some ys => match settleRows hp flat x ys with
   | none => none
   | some (zs, hp1) => if hp1.isFree id = false then none else match s with
     | .zsl => if smallB zs.length bytes then some (.sl id 0 zs.length e, hp1.set id (.live ⟨e, flat, zs⟩)) else none
     | .sl b off len _ => match hp1.get b with
       | some k =>
         if off = 0 ∧ k.e = e ∧ k.flat = flat ∧ len ≤ k.elems.length ∧ notIn b x = true ∧ smallB (len + zs.length) bytes = true ∧ id ≠ b then
           some (.sl id 0 (len + zs.length) e, (kill hp1 [b]).set id (.live ⟨e, flat, k.elems.take len ++ zs⟩))
         else none
       | none => none
     | _ => none
def chunks (e : Nat) : Nat → List AVal → List (List AVal)
 | 0, _ => []
 | n + 1, cs => cs.take e :: chunks e n (cs.drop e)
def sliceArrVal (hp : Heap) (len e : Nat) (x : AVal) : Option (AVal × Heap) :=
 match viewP hp DEEP x with
 | some (.iptr cs off, l) => if off + len * e ≤ cs.length then some (.imm e (chunks e len (cs.drop off)), kill hp l) else none
 | _ => none
def packHeap (hp : Heap) (ids : List Nat) : Heap := ids.map fun b => match hp.get b with | some k => .live (k.ren (index ids)) | none => .dead
def norm (keep : List Nat) (st : St) : Option St :=
 let ts := st.tmps.zipIdx.map fun (v, t) => if keep.contains t then v else .undef
 let ids := reach st.heap (List.range st.k) (ts.flatMap AVal.ownT)
 if nodupB ids = true ∧ ids.take st.k = List.range st.k then
   some ⟨ts.map (AVal.renT (index ids)), packHeap st.heap ids, st.k⟩
 else none
def backTo (ids : List Nat) (at_ : Nat) (j : Nat) : Option Nat := match ids[j]? with | some b => some b | none => some (at_ + (j - ids.length))
def Slot.ren (r : Nat → Option Nat) : Slot → Slot
 | .live k => .live (k.ren r)
 | _ => .dead
def layBack (r : Nat → Option Nat) (hp : Heap) (j : Nat) : Heap → Heap
 | [] => hp
 | s :: rest => layBack r (match r j with | some b => hp.set b (s.ren r) | none => hp) (j + 1) rest
def argView (hp : Heap) (a : Bool × AVal) : Option (AVal × List Nat) := if a.1 then some (a.2, []) else viewV hp DEEP a.2
def visible (base : Nat) (sees : Sees) (b : Nat) : Bool := match sees with
 | none => true
 | some (l, none) => b < base || l.contains (b - base)
 | some (l, some old) => if b < base then old.contains b else l.contains (b - base)
def callVal (K : Oracle) (hp : Heap) (base : Nat) (sees : Sees) (id room : Nat) (quiet : Bool) (fv : AVal) (args : List (Bool × AVal)) : Option (AVal × Heap) :=
 match fv with
 | .fn f cap =>
   match allOn (argView hp) args with
   | none => none
   | some (vs, lent) =>
     let all := vs ++ cap
     let ids := reach hp [] (all.flatMap AVal.ownV)
     if nodupB ids = true ∧ lent.all (visible base sees) = true ∧ lent.all (fun b => !ids.contains b) = true ∧ ids.all (fun b => (hp.get b).isSome) = true ∧ (quiet = false ∨ (all.flatMap AVal.ownV).isEmpty = true) then
       match K f (all.map (AVal.renV (index ids))) (packHeap hp ids) with
       | some (r, back) =>
         if r.bareT = true ∧ ids = [] then some (r, hp)
         else if quiet = true ∧ lent ≠ [] then none
         else if ids.length ≤ back.length ∧ back.length ≤ ids.length + room ∧ (List.range (back.length - ids.length)).all (fun j => hp.isFree (id + j)) = true then
           some (r.renT (backTo ids id), layBack (backTo ids id) (kill hp lent) 0 back)
         else none
       | none => none
     else none
 | _ => none
def seesB (base : Nat) (sees : Sees) (v : AVal) : Bool := v.ownV.all (visible base sees)
def AOp.cls (op : AOp) : Nat :=
 if isPure op then 0 else if isNew op then 1 else match op with
   | .load .. => 1
   | .call _ _ true _ => 1
   | _ => 2
def eff0 (K : Oracle) (base : Nat) (o : AOper) (ρ : Opd → AVal) (hp : Heap) : Option (AVal × Heap) :=
 if isPure o.op then (pureOp o.op ρ).map fun v => (v, hp)
 else if isNew o.op then (if hp.isFree (base + o.at_) then (newOp o.op ρ (base + o.at_)).map fun (v, k) => (v, hp.set (base + o.at_) (.live k)) else none)
 else match o.op with
   | .load agg n a => if seesB base o.sees (ρ a) then (loadVal hp agg n (ρ a)).map fun v => (v, hp) else none
   | .store n a x => if seesB base o.sees (ρ a) ∧ seesB base o.sees (ρ x) then (storeVal hp n (ρ a) (ρ x)).map fun h => (.undef, h) else none
   | .append e bytes flat s x => if seesB base o.sees (ρ s) ∧ seesB base o.sees (ρ x) then appendVal hp (base + o.at_) e bytes flat (ρ s) (ρ x) else none
   | .sliceArr len e x => if seesB base o.sees (ρ x) then sliceArrVal hp len e (ρ x) else none
   | .call f args quiet room =>
     if seesB base o.sees (ρ f) ∧ args.all (fun (_, x) => seesB base o.sees (ρ x)) = true then
       callVal K hp base o.sees (base + o.at_) room quiet (ρ f) (args.map fun (m, x) => (m, ρ x))
     else none
   | _ => none
def storeL (hp : Heap) (a x : AVal) : List Nat := match a with
 | .ptr b _ _ => match hp.get b with
   | some k => if k.flat then match allOn (viewP hp DEEP) (cellsOf x) with
       | some (_, l) => l
       | none => []
     else []
   | none => []
 | _ => []
def ownsAt (hp : Heap) (b : Nat) : List Nat := match hp.get b with | some k => k.owns | none => []
def callL (hp : Heap) (fv : AVal) (args : List (Bool × AVal)) : List Nat := match fv with
 | .fn _ cap => match allOn (argView hp) args with
   | some (vs, _) => (vs ++ cap).flatMap AVal.ownV ++ reach hp [] ((vs ++ cap).flatMap AVal.ownV) ++ (reach hp [] ((vs ++ cap).flatMap AVal.ownV)).flatMap (ownsAt hp)
   | none => []
 | _ => []
def touchL (hp : Heap) (op : AOp) (ρ : Opd → AVal) : List Nat := match op with
 | .store _ a x => storeL hp (ρ a) (ρ x)
 | .sliceArr _ _ x => match viewP hp DEEP (ρ x) with
   | some (_, l) => l
   | none => []
 | .call f args _ _ => callL hp (ρ f) (args.map fun (m, x) => (m, ρ x))
 | _ => []
def tightB (sees : Sees) : Bool := match sees with
 | some (_, some _) => true
 | _ => false
def tightOk (base : Nat) (o : AOper) (ρ : Opd → AVal) (hp : Heap) : Bool := !(o.op.cls == 2) || (!tightB o.sees || (touchL hp o.op ρ).all (visible base o.sees))
def effOp (K : Oracle) (base : Nat) (o : AOper) (ρ : Opd → AVal) (hp : Heap) : Option (AVal × Heap) := if tightOk base o ρ hp = true then eff0 K base o ρ hp else none
def setTmp (tmps : List AVal) (d : Option Nat) (v : AVal) : List AVal :=
 match d with
 | some t => tmps.set t v
 | none => tmps
def runOp (K : Oracle) (base : Nat) (o : AOper) (st : St) : Option St :=
 match o.guard with
 | none => (effOp K base o (look st.tmps) st.heap).map fun (v, h) => ⟨setTmp st.tmps o.dst v, h, st.k⟩
 | some (t, want) => match st.tmps.getD t .undef with
   | .bool b => if b = want then (effOp K base o (look st.tmps) st.heap).map fun (v, h) => ⟨setTmp st.tmps o.dst v, h, st.k⟩
     else some ⟨setTmp st.tmps o.dst (.tup []), st.heap, st.k⟩
   | .tup [] => some ⟨setTmp st.tmps o.dst (.tup []), st.heap, st.k⟩
   | _ => none
def runOps (K : Oracle) (base : Nat) : List AOper → St → Option St
 | [], st => some st
 | o :: os, st => (runOp K base o st).bind (runOps K base os)
inductive AExit where
 | normal
 | exit (id : Nat)
 | ret
 | goto (l : Nat)
 deriving DecidableEq
def iter (keep : List Nat) (f : St → Option (AExit × St)) : Nat → St → Option (AExit × St)
 | 0, _ => none
 | n + 1, st => match norm keep st with
   | some s => match f s with
     | some (.normal, s') => iter keep f n s'
     | r => r
   | none => none
def jump (l : Nat) (keep : List Nat) (f : St → Option (AExit × St)) : Nat → St → Option (AExit × St)
 | 0, _ => none
 | n + 1, st => match norm keep st with
   | some s => match f s with
     | some (.goto l', s') => if l' = l then jump l keep f n s' else none
     | r => r
   | none => none
def exec (K : Oracle) (N : Nat) : ACode → St → Option (AExit × St)
 | .skip, st => some (.normal, st)
 | .region ids ops, st => (runOps K st.heap.length ops ⟨st.tmps, st.heap ++ List.replicate ids .free, st.k⟩).map fun s => (.normal, s)
 | .seq a b, st => match exec K N a st with
   | some (.normal, s) => exec K N b s
   | r => r
 | .cond c a b, st => match look st.tmps c with
   | .bool t => if t then exec K N a st else exec K N b st
   | _ => none
 | .block id c, st => match exec K N c st with
   | some (.exit i, s) => if i = id then some (.normal, s) else some (.exit i, s)
   | r => r
 | .loop keep c, st => iter keep (exec K N c) N st
 | .exit id, st => some (.exit id, st)
 | .ret, st => some (.ret, st)
 | .label, st => some (.normal, st)
 | .goto l, st => some (.goto l, st)
 | .scope l keep rest body, st => match exec K N body st with
   | some (.goto l', s) => if l' = l then jump l keep (exec K N rest) N s else none
   | r => r
def resOf (hp : Heap) (tmps : List AVal) : RVar → Option AVal
 | .tmp t => some (tmps.getD t .undef)
 | .cell agg n t => loadVal hp agg n (tmps.getD t .undef)
def resultsOf (hp : Heap) (tmps : List AVal) (rs : List RVar) : Option AVal :=
 match rs with
 | [r] => resOf hp tmps r
 | _ => (allOf (resOf hp tmps) rs).map .tup
def leave (f : AFunc) (st : St) : Option (AVal × Heap) :=
 match resultsOf st.heap st.tmps f.results with
 | none => none
 | some r0 =>
   match (if f.freeze then viewT st.heap DEEP r0 else some (r0, [])) with
   | none => none
   | some (r, shown) =>
     let ids := reach st.heap (List.range st.k) r.ownT
     if nodupB ids = true ∧ ids.take st.k = List.range st.k ∧ shown.all (fun b => !ids.contains b) = true then
       some (r.renT (index ids), packHeap st.heap ids)
     else none
def LOOPS : Nat := 18446744073709551616
def runBody (K : Oracle) (f : AFunc) (args : List AVal) (hp : Heap) : Option (AVal × Heap) :=
 match exec K LOOPS f.code ⟨args ++ List.replicate (f.ntmps - args.length) .undef, hp, hp.length⟩ with
 | some (.normal, st) | some (.ret, st) => leave f st
 | _ => none
end AM
end Go.Proofs.YtjngkfdclcgfhaaGreatDoor
end
section
namespace Go.Proofs.YtjngkfdclcgfhaaGreatDoor
open Ieee
namespace Fl
theorem log_add (q d : Nat) (hq : 0 < q) : (q * 2 ^ d).log2 = q.log2 + d := by
 have h1 : 2 ^ q.log2 ≤ q := Nat.log2_self_le (by omega)
 have h2 : q < 2 ^ (q.log2 + 1) := Nat.lt_log2_self
 have hp : 0 < 2 ^ d := Nat.pow_pos (by omega)
 refine (Nat.log2_eq_iff (Nat.ne_of_gt (Nat.mul_pos hq hp))).2 ⟨?_, ?_⟩
 · rw [Nat.pow_add]; exact Nat.mul_le_mul_right _ h1
 · rw [show q.log2 + d + 1 = q.log2 + 1 + d by omega, Nat.pow_add]
   exact Nat.mul_lt_mul_of_pos_right h2 hp
theorem cut_exact (way : Toward) (neg : Bool) (a drop : Nat) (ha : 0 < a) : way.cut neg (a * 2 ^ drop) drop = a := by
 have hl : drop ≤ (a * 2 ^ drop).log2 + 2 := by rw [log_add a drop ha]; omega
 have hp : 0 < 2 ^ drop := Nat.pow_pos (by omega)
 unfold Toward.cut
 simp only [Nat.min_eq_left hl, Nat.shiftLeft_eq, Nat.one_mul, Nat.mul_div_cancel _ hp, Nat.mul_mod_left]
 have h0 : ¬ (2 ^ drop < 2 * 0) := by omega
 have h1 : (2 ^ drop == 2 * 0) = false := by rw [beq_eq_false_iff_ne]; omega
 cases way <;> simp [h0, h1, hp]
def rung (q : Nat) : Nat := (q.log2 + 1022) * 4503599627370496 + q * 2 ^ (52 - q.log2)
theorem nearest_exact (neg : Bool) (q d : Nat) (hq : 0 < q) (hl : q.log2 ≤ 52) : Format.nearest double neg (q * 2 ^ d) (-(d : Int)) = double.word neg (rung q) := by
 have hp : 0 < 2 ^ d := Nat.pow_pos (by omega)
 have hm : q * 2 ^ d ≠ 0 := Nat.ne_of_gt (Nat.mul_pos hq hp)
 unfold Format.nearest
 rw [if_neg hm, log_add q d hq]
 have hlp : double.leastPlace = -1074 := by decide
 have hfb : (double.fractionBits : Int) = 52 := rfl
 rw [hlp, hfb]
 have hmax : max (-(d : Int) + ((q.log2 + d : Nat) : Int) - 52) (-1074) = (q.log2 : Int) - 52 := by omega
 simp only [hmax]
 have hinf : rung q ≤ double.infRung := by
   have h2 : q < 2 ^ (q.log2 + 1) := Nat.lt_log2_self
   have h3 : q * 2 ^ (52 - q.log2) < 9007199254740992 := by
     have : 2 ^ (q.log2 + 1) * 2 ^ (52 - q.log2) = 9007199254740992 := by rw [← Nat.pow_add, show q.log2 + 1 + (52 - q.log2) = 53 by omega]
     rw [← this]; exact Nat.mul_lt_mul_of_pos_right h2 (Nat.pow_pos (by omega))
   have h4 : double.infRung = 2047 * 4503599627370496 := by decide
   rw [h4]
   unfold rung
   have h5 : (q.log2 + 1022) * 4503599627370496 ≤ 1074 * 4503599627370496 := Nat.mul_le_mul_right _ (by omega)
   exact Nat.le_trans (Nat.add_le_add h5 (Nat.le_of_lt h3)) (by decide)
 have hk : Toward.even.cut neg ((q * 2 ^ d) <<< (-(d : Int) - ((q.log2 : Int) - 52)).toNat) (((q.log2 : Int) - 52) - -(d : Int)).toNat = q * 2 ^ (52 - q.log2) := by
   rw [Nat.shiftLeft_eq]
   rcases Nat.lt_or_ge (52 - q.log2) d with h | h
   · rw [show (-(d : Int) - ((q.log2 : Int) - 52)).toNat = 0 by omega, show (((q.log2 : Int) - 52) - -(d : Int)).toNat = d - (52 - q.log2) by omega, Nat.pow_zero, Nat.mul_one]
     have : q * 2 ^ d = q * 2 ^ (52 - q.log2) * 2 ^ (d - (52 - q.log2)) := by
       rw [Nat.mul_assoc, ← Nat.pow_add]; congr 2; omega
     rw [this]
     exact cut_exact _ _ _ _ (Nat.mul_pos hq (Nat.pow_pos (by omega)))
   · rw [show (-(d : Int) - ((q.log2 : Int) - 52)).toNat = 52 - q.log2 - d by omega, show (((q.log2 : Int) - 52) - -(d : Int)).toNat = 0 by omega, Nat.mul_assoc, ← Nat.pow_add, show d + (52 - q.log2 - d) = 52 - q.log2 by omega]
     have := cut_exact .even neg (q * 2 ^ (52 - q.log2)) 0 (Nat.mul_pos hq (Nat.pow_pos (by omega)))
     rw [Nat.pow_zero, Nat.mul_one] at this
     exact this
 rw [hk]
 have hb : double.binade = 4503599627370496 := by decide
 rw [hb, show (((q.log2 : Int) - 52) - (-1074)).toNat = q.log2 + 1022 by omega]
 rw [show (q.log2 + 1022) * 4503599627370496 + q * 2 ^ (52 - q.log2) = rung q from rfl, Nat.min_eq_left hinf]
def bits (n : Int) : Nat := FloatKind.f64.nearest n
theorem bits_word (n : Int) (h0 : n ≠ 0) (h : n.natAbs.log2 ≤ 52) : bits n = double.word (decide (n < 0)) (rung n.natAbs) := by
 have := nearest_exact (decide (n < 0)) n.natAbs 0 (by omega) h
 rw [Nat.pow_zero, Nat.mul_one] at this
 exact this
theorem log_small {q : Nat} (h : q < 9007199254740992) : q.log2 ≤ 52 := by
 rcases Nat.eq_zero_or_pos q with rfl | h0
 · decide
 · have h' : q < 2 ^ 53 := Nat.lt_of_lt_of_le h (by decide)
   have := (Nat.log2_lt (by omega)).2 h'
   omega
theorem rung_lt (q : Nat) (hq : 0 < q) (hl : q.log2 ≤ 52) : rung q = (q.log2 + 1023) * 4503599627370496 + (q * 2 ^ (52 - q.log2) - 4503599627370496) ∧ 4503599627370496 ≤ q * 2 ^ (52 - q.log2) ∧ q * 2 ^ (52 - q.log2) < 9007199254740992 := by
 have h1 : 2 ^ q.log2 ≤ q := Nat.log2_self_le (by omega)
 have h2 : q < 2 ^ (q.log2 + 1) := Nat.lt_log2_self
 have h3 : q * 2 ^ (52 - q.log2) < 9007199254740992 := by
   have : 2 ^ (q.log2 + 1) * 2 ^ (52 - q.log2) = 9007199254740992 := by rw [← Nat.pow_add, show q.log2 + 1 + (52 - q.log2) = 53 by omega]
   rw [← this]; exact Nat.mul_lt_mul_of_pos_right h2 (Nat.pow_pos (by omega))
 have h4 : 4503599627370496 ≤ q * 2 ^ (52 - q.log2) := by
   have : 2 ^ q.log2 * 2 ^ (52 - q.log2) = 4503599627370496 := by rw [← Nat.pow_add, show q.log2 + (52 - q.log2) = 52 by omega]
   rw [← this]; exact Nat.mul_le_mul_right _ h1
 refine ⟨?_, h4, h3⟩
 unfold rung
 generalize q * 2 ^ (52 - q.log2) = X at *
 omega
theorem read_word (neg : Bool) (q : Nat) (hq : 0 < q) (hl : q.log2 ≤ 52) : double.read (double.word neg (rung q)) = .number neg (q * 2 ^ (52 - q.log2)) ((q.log2 : Int) - 52) := by
 obtain ⟨h1, h2, h3⟩ := rung_lt q hq hl
 generalize hX : q * 2 ^ (52 - q.log2) = X at *
 have hsw : double.signWeight = 9223372036854775808 := by decide
 have hr : rung q < 9223372036854775808 := by
   rw [h1]
   have : (q.log2 + 1023) * 4503599627370496 ≤ 1075 * 4503599627370496 := Nat.mul_le_mul_right _ (by omega)
   omega
 have hb : double.binade = 4503599627370496 := by decide
 have hi : double.infRung = 2047 * 4503599627370496 := by decide
 have hw1 : (double.word neg (rung q) / 9223372036854775808 % 2 == 1) = neg := by
   unfold Format.word
   rw [hsw]
   cases neg with
   | true => rw [if_pos rfl, show (9223372036854775808 + rung q) / 9223372036854775808 = 1 by omega]; rfl
   | false =>
     rw [if_neg (by simp), show rung q / 9223372036854775808 = 0 by omega]; rfl
 have hw2 : double.word neg (rung q) % 9223372036854775808 = rung q := by
   unfold Format.word
   rw [hsw]
   cases neg with
   | true => rw [if_pos rfl]; omega
   | false => rw [if_neg (by simp)]; omega
 unfold Format.read
 rw [hsw, hw1, hw2, hb, hi]
 have hge : ¬ (rung q < 4503599627370496) := by
   rw [h1]
   have : 1023 * 4503599627370496 ≤ (q.log2 + 1023) * 4503599627370496 := Nat.mul_le_mul_right _ (by omega)
   omega
 have hlt : rung q < 2047 * 4503599627370496 := by
   rw [h1]
   have : (q.log2 + 1023) * 4503599627370496 ≤ 1075 * 4503599627370496 := Nat.mul_le_mul_right _ (by omega)
   omega
 simp only [hge, hlt, if_false, if_true]
 have hdiv : rung q / 4503599627370496 = q.log2 + 1023 := by
   rw [h1, Nat.mul_comm, Nat.mul_add_div (by decide), Nat.div_eq_of_lt (by omega), Nat.add_zero]
 have hmod : rung q % 4503599627370496 = X - 4503599627370496 := by
   rw [h1, Nat.mul_comm, Nat.mul_add_mod, Nat.mod_eq_of_lt (by omega)]
 rw [hdiv, hmod]
 have hlp : double.leastPlace = -1074 := by decide
 rw [hlp]
 have e1 : 4503599627370496 + (X - 4503599627370496) = X := Nat.add_sub_cancel' h2
 have e2 : (-1074 : Int) + ((q.log2 + 1023 - 1 : Nat) : Int) = (q.log2 : Int) - 52 := by
   clear h1 h2 h3 hr hb hi hw1 hw2 hge hlt hdiv hmod e1
   omega
 rw [e1, e2]
theorem read_bits (n : Int) (h0 : n ≠ 0) (h : n.natAbs.log2 ≤ 52) : FloatKind.f64.decode (bits n) = .number (decide (n < 0)) (n.natAbs * 2 ^ (52 - n.natAbs.log2)) ((n.natAbs.log2 : Int) - 52) := by
 rw [bits_word n h0 h]
 exact read_word _ _ (by omega) h
theorem to_int (n : Int) (h : n.natAbs.log2 ≤ 52) : (FloatKind.f64.decode (bits n)).toInt .zero = some n := by
 by_cases h0 : n = 0
 · subst h0; decide
 · rw [read_bits n h0 h]
   unfold Datum.toInt Datum.integral
   simp only
   rw [show (((n.natAbs.log2 : Int) - 52)).toNat = 0 by omega, show (-((n.natAbs.log2 : Int) - 52)).toNat = 52 - n.natAbs.log2 by omega, Nat.shiftLeft_eq, Nat.pow_zero, Nat.mul_one, cut_exact _ _ _ _ (by omega)]
   unfold signed
   by_cases hn : n < 0
   · simp [hn]; omega
   · simp [hn]; omega
structure Is (d : Datum) (n : Nat) where
 mag : Nat
 e : Nat
 d_eq : d = .number false mag (-(e : Int))
 val : mag = n * 2 ^ e
theorem is_bits (n : Nat) (h : n.log2 ≤ 52) : ∃ mag e, FloatKind.f64.decode (bits n) = .number false mag (-((e : Nat) : Int)) ∧ mag = n * 2 ^ e := by
 by_cases h0 : n = 0
 · subst h0
   obtain ⟨e, he⟩ : ∃ e : Nat, (-1074 : Int) = -(e : Int) := ⟨1074, rfl⟩
   exact ⟨0, e, by rw [← he]; decide, (Nat.zero_mul _).symm⟩
 · refine ⟨n * 2 ^ (52 - n.log2), 52 - n.log2, ?_, rfl⟩
   have := read_bits (n : Int) (by omega) (by simpa using h)
   rw [this]
   have hlt : ¬ ((n : Int) < 0) := by omega
   simp only [hlt, decide_false, Int.natAbs_natCast]
   congr 1
   have := h
   omega
theorem write_exact (q d : Nat) (neg : Bool) (hl : q.log2 ≤ 52) (hz : q = 0 → neg = false) : FloatKind.f64.encode (.number neg (q * 2 ^ d) (-(d : Int))) = bits (if neg = true then -(q : Int) else q) := by
 show Format.nearest double neg (q * 2 ^ d) (-(d : Int)) = _
 by_cases h0 : q = 0
 · subst h0
   rw [hz rfl]
   rw [Nat.zero_mul]
   unfold Format.nearest
   rw [if_pos rfl]
   decide
 · rw [nearest_exact neg q d (by omega) hl]
   cases neg with
   | true =>
     have := bits_word (-(q : Int)) (by omega) (by simpa using hl)
     simp only [if_true]
     rw [this]
     have : (-(q : Int)) < 0 := by omega
     rw [decide_eq_true this, Int.natAbs_neg, Int.natAbs_natCast]
   | false =>
     have := bits_word (q : Int) (by omega) (by simpa using hl)
     simp only [Bool.false_eq_true, if_false]
     rw [this]
     have : ¬ ((q : Int) < 0) := by omega
     simp [this]
theorem sum_parts (a b ea eb base : Nat) (ha : ea ≤ base) (hb : eb ≤ base) : ∀ s t : Bool, signed s (a * 2 ^ ea) (-(ea : Int) - -(base : Int)).toNat + signed t (b * 2 ^ eb) (-(eb : Int) - -(base : Int)).toNat = ((if s = true then -(a : Int) else a) + (if t = true then -(b : Int) else b)) * ((2 ^ base : Nat) : Int) := by
 intro s t
 rw [show (-(ea : Int) - -(base : Int)).toNat = base - ea by omega, show (-(eb : Int) - -(base : Int)).toNat = base - eb by omega]
 unfold signed
 rw [Nat.shiftLeft_eq, Nat.shiftLeft_eq, Nat.mul_assoc, Nat.mul_assoc, ← Nat.pow_add, ← Nat.pow_add, show ea + (base - ea) = base by omega, show eb + (base - eb) = base by omega]
 cases s <;> cases t <;> simp [Int.add_mul, Int.neg_mul]
theorem total_exact (z : Int) (base : Nat) (h : z.natAbs.log2 ≤ 52) (st : Bool) (hst : st = false) : FloatKind.f64.encode (.number (if z * ((2 ^ base : Nat) : Int) = 0 then st else decide (z * ((2 ^ base : Nat) : Int) < 0)) (z * ((2 ^ base : Nat) : Int)).natAbs (-(base : Int))) = bits z := by
 have hp : (0 : Int) < ((2 ^ base : Nat) : Int) := by
   have : 0 < 2 ^ base := Nat.pow_pos (by omega)
   omega
 have hab : (z * ((2 ^ base : Nat) : Int)).natAbs = z.natAbs * 2 ^ base := by rw [Int.natAbs_mul, Int.natAbs_natCast]
 have hneg : (if z * ((2 ^ base : Nat) : Int) = 0 then st else decide (z * ((2 ^ base : Nat) : Int) < 0)) = decide (z < 0) := by
   by_cases h0 : z = 0
   · subst h0; simp [hst]
   · rw [if_neg (by intro he; rcases Int.mul_eq_zero.1 he with h1 | h1; exact h0 h1; omega)]
     by_cases hz : z < 0
     · have := Int.mul_neg_of_neg_of_pos hz hp
       rw [decide_eq_true hz, decide_eq_true this]
     · have := Int.mul_nonneg (show 0 ≤ z by omega) (Int.le_of_lt hp)
       rw [decide_eq_false hz, decide_eq_false (show ¬ (z * ((2 ^ base : Nat) : Int) < 0) by omega)]
 rw [hneg, hab, write_exact z.natAbs base _ h (by intro he; have : z = 0 := by omega
                                                  subst this; rfl)]
 congr 1
 by_cases hz : z < 0
 · simp [hz]; omega
 · simp [hz]; omega
theorem add_bits (a b : Nat) (ha : a.log2 ≤ 52) (hb : b.log2 ≤ 52) (hs : (a + b).log2 ≤ 52) : double.add (bits a) (bits b) = some (bits ((a : Int) + b)) := by
 obtain ⟨ma, ea, h1, rfl⟩ := is_bits a ha
 obtain ⟨mb, eb, h2, rfl⟩ := is_bits b hb
 unfold Format.add
 rw [show double.read (bits a) = _ from h1, show double.read (bits b) = _ from h2]
 simp only [Datum.sum, Option.map_some]
 have hmin : min (-(ea : Int)) (-(eb : Int)) = -((max ea eb : Nat) : Int) := by omega
 rw [hmin, sum_parts a b ea eb (max ea eb) (by omega) (by omega) false false]
 simp only [Bool.false_eq_true, if_false]
 exact congrArg some (total_exact ((a : Int) + b) (max ea eb) (by rw [show ((a : Int) + b).natAbs = a + b by omega]; exact hs) _ rfl)
theorem sub_bits (a b : Nat) (ha : a.log2 ≤ 52) (hb : b.log2 ≤ 52) (hs : ((a : Int) - b).natAbs.log2 ≤ 52) : double.sub (bits a) (bits b) = some (bits ((a : Int) - b)) := by
 obtain ⟨ma, ea, h1, rfl⟩ := is_bits a ha
 obtain ⟨mb, eb, h2, rfl⟩ := is_bits b hb
 unfold Format.sub
 rw [show double.read (bits a) = _ from h1, show double.read (bits b) = _ from h2]
 simp only [Datum.sum, Datum.opposite, Option.map_some]
 have hmin : min (-(ea : Int)) (-(eb : Int)) = -((max ea eb : Nat) : Int) := by omega
 rw [hmin, sum_parts a b ea eb (max ea eb) (by omega) (by omega) false (!false)]
 simp only [Bool.false_eq_true, if_false, Bool.not_false, if_true, Bool.false_and]
 exact congrArg some (total_exact ((a : Int) - b) (max ea eb) hs _ rfl)
theorem mul_bits (a b : Nat) (ha : a.log2 ≤ 52) (hb : b.log2 ≤ 52) (hs : (a * b).log2 ≤ 52) : double.mul (bits a) (bits b) = some (bits ((a : Int) * b)) := by
 obtain ⟨ma, ea, h1, rfl⟩ := is_bits a ha
 obtain ⟨mb, eb, h2, rfl⟩ := is_bits b hb
 unfold Format.mul
 rw [show double.read (bits a) = _ from h1, show double.read (bits b) = _ from h2]
 simp only [Datum.product, Option.map_some]
 have e1 : a * 2 ^ ea * (b * 2 ^ eb) = a * b * 2 ^ (ea + eb) := by
   rw [Nat.pow_add, Nat.mul_assoc, Nat.mul_assoc]
   congr 1
   rw [← Nat.mul_assoc, Nat.mul_comm (2 ^ ea) b, Nat.mul_assoc]
 have e2 : -(ea : Int) + -(eb : Int) = -((ea + eb : Nat) : Int) := by omega
 rw [e1, e2]
 have := write_exact (a * b) (ea + eb) false hs (fun _ => rfl)
 simp only [Bool.false_eq_true, if_false] at this
 rw [Int.natCast_mul] at this
 exact congrArg some this
end Fl
end Go.Proofs.YtjngkfdclcgfhaaGreatDoor
end
