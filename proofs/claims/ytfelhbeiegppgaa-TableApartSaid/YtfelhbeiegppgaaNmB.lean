/-
  The machine of plain data: shapes of states, calls, code. Definitions alone.
-/
import Derived.Test.YtfelhbeiegppgaaNmA
set_option linter.unusedVariables false
namespace Go.Proofs.Ytfelhbeiegppgaa
namespace NM
open AM

/-- what a value looks like: data of a type, or something fixed; nil and cons: lists of shapes -/
inductive Sh where
  | v (t : Ty)
  | undef
  | nilp
  | zsl
  | nilfn
  | nili
  | ptr (b i f : Nat)
  | slw (b e : Nat)
  | fn (f : Nat) (caps : Sh)
  | agg (l : Sh)
  | tup (l : Sh)
  | iptr (l : Sh) (off : Nat)
  | rows (e : Nat) (l : Sh)
  | nil
  | cons (a l : Sh)

def Sh.isUndef : Sh → Bool
  | .undef => true
  | _ => false
@[reducible] def Sh.den : Sh → Type
  | .v t => NM.den t
  | .fn _ l | .agg l | .tup l | .iptr l _ | .rows _ l => l.den
  | .cons a l => a.den × l.den
  | _ => Unit

/-- the value of data of a type -/
def putV (t : Ty) (x : NM.den t) : NVal := match t.isAgg with
  | true => .agg ((ops t).cells x)
  | false => match (ops t).cells x with
    | [c] => c
    | _ => .undef
def getV (t : Ty) (v : NVal) : Option (NM.den t) := match t.isAgg with
  | true => match v with
    | .agg cs => (ops t).un cs
    | _ => none
  | false => (ops t).un [v]

mutual
def put : (s : Sh) → s.den → NVal
  | .v t, x => putV t x
  | .undef, _ => .undef
  | .nilp, _ => .nilp
  | .zsl, _ => .zsl
  | .nilfn, _ => .nilfn
  | .nili, _ => .nili
  | .ptr b i f, _ => .ptr b i f
  | .slw b e, _ => .slw b e
  | .fn f l, x => .fn f (puts l x)
  | .agg l, x => .agg (puts l x)
  | .tup l, x => .tup (puts l x)
  | .iptr l off, x => .iptr (puts l x) off
  | .rows e l, x => .rows e (putsR l x)
  | .nil, _ => .undef
  | .cons _ _, _ => .undef
def puts : (s : Sh) → s.den → List NVal
  | .cons a l, x => put a x.1 :: puts l x.2
  | .v _, _ | .undef, _ | .nilp, _ | .zsl, _ | .nilfn, _ | .nili, _ | .ptr _ _ _, _ | .slw _ _, _ | .fn _ _, _ | .agg _, _ | .tup _, _ | .iptr _ _, _ | .rows _ _, _ | .nil, _ => []
def putsR : (s : Sh) → s.den → List (List NVal)
  | .cons a l, x => puts a x.1 :: putsR l x.2
  | .v _, _ | .undef, _ | .nilp, _ | .zsl, _ | .nilfn, _ | .nili, _ | .ptr _ _ _, _ | .slw _ _, _ | .fn _ _, _ | .agg _, _ | .tup _, _ | .iptr _ _, _ | .rows _ _, _ | .nil, _ => []
end

mutual
def get : (s : Sh) → NVal → Option s.den
  | .v t, v => getV t v
  | .undef, _ => some ()
  | .nilp, v => match v with | .nilp => some () | _ => none
  | .zsl, v => match v with | .zsl => some () | _ => none
  | .nilfn, v => match v with | .nilfn => some () | _ => none
  | .nili, v => match v with | .nili => some () | _ => none
  | .ptr b i f, v => match v with | .ptr b' i' f' => if b' = b ∧ i' = i ∧ f' = f then some () else none | _ => none
  | .slw b e, v => match v with | .slw b' e' => if b' = b ∧ e' = e then some () else none | _ => none
  | .fn f l, v => match v with | .fn f' cap => if f' = f then gets l cap else none | _ => none
  | .agg l, v => match v with | .agg cs => gets l cs | _ => none
  | .tup l, v => match v with | .tup cs => gets l cs | _ => none
  | .iptr l off, v => match v with | .iptr cs off' => if off' = off then gets l cs else none | _ => none
  | .rows e l, v => match v with | .rows e' rs => if e' = e then getsR l rs else none | _ => none
  | .nil, _ => none
  | .cons _ _, _ => none
def gets : (s : Sh) → List NVal → Option s.den
  | .cons a l, vs => match vs with
    | v :: vs => match (if a.isUndef then none else get a v) with
      | some x => match gets l vs with
        | some y => some (x, y)
        | none => none
      | none => none
    | [] => none
  | .nil, vs => match vs with
    | [] => some ()
    | _ => none
  | .v _, _ | .undef, _ | .nilp, _ | .zsl, _ | .nilfn, _ | .nili, _ | .ptr _ _ _, _ | .slw _ _, _ | .fn _ _, _ | .agg _, _ | .tup _, _ | .iptr _ _, _ | .rows _ _, _ => none
def getsR : (s : Sh) → List (List NVal) → Option s.den
  | .cons a l, vs => match vs with
    | v :: vs => match gets a v with
      | some x => match getsR l vs with
        | some y => some (x, y)
        | none => none
      | none => none
    | [] => none
  | .nil, vs => match vs with
    | [] => some ()
    | _ => none
  | .v _, _ | .undef, _ | .nilp, _ | .zsl, _ | .nilfn, _ | .nili, _ | .ptr _ _ _, _ | .slw _ _, _ | .fn _ _, _ | .agg _, _ | .tup _, _ | .iptr _ _, _ | .rows _ _, _ => none
end

/-- shapes of blocks -/
inductive HS where
  | dead
  | typed (t : Ty)
  | cell (flat : Bool) (row : Sh)
  | one (flat : Bool) (t : Ty)
  | many (e : Nat) (rows : Sh)
@[reducible] def HS.den : HS → Type
  | .dead => Unit
  | .typed t => List (NM.den t)
  | .cell _ r => r.den
  | .one _ t => NM.den t
  | .many _ r => r.den
@[reducible] def denH : List HS → Type
  | [] => Unit
  | h :: l => h.den × denH l
def putS : (h : HS) → h.den → NSlot
  | .dead, _ => .dead
  | .typed t, xs => .live (.typed t xs)
  | .cell flat r, x => .live (.cells (puts r x).length flat [puts r x])
  | .one flat t, x => .live (.cells ((ops t).cells x).length flat [(ops t).cells x])
  | .many e r, x => .live (.cells e false (putsR r x))
def getS : (h : HS) → NSlot → Option h.den
  | .dead, s => match s with | .dead => some () | _ => none
  | .typed t, s => match s with
    | .live (.typed t' xs) => if h : t' = t then some (h ▸ xs) else none
    | .live (.cells e true rows) => if e = (ops t).size then allOf (ops t).un rows else none
    | _ => none
  | .cell flat r, s => match s with
    | .live (.cells e flat' [row]) => if flat' = flat ∧ e = row.length then gets r row else none
    | _ => none
  | .one flat t, s => match s with
    | .live (.cells e flat' [row]) => if flat' = flat ∧ e = row.length then (ops t).un row else none
    | _ => none
  | .many e r, s => match s with
    | .live (.cells e' false rows) => if e' = e then getsR r rows else none
    | _ => none
def putH : (l : List HS) → denH l → NHeap
  | [], _ => []
  | h :: l, x => putS h x.1 :: putH l x.2
def getH : (l : List HS) → NHeap → Option (denH l)
  | [], hp => match hp with | [] => some () | _ => none
  | h :: l, hp => match hp with
    | s :: hp => match getS h s with
      | some x => match getH l hp with
        | some y => some (x, y)
        | none => none
      | none => none
    | [] => none

/-- what a call gives: its result, and the blocks, if there are any -/
@[reducible] def denO (r : Sh) : List HS → Type
  | [] => r.den
  | h :: l => r.den × denH (h :: l)
def outV (r : Sh) : (l : List HS) → denO r l → NVal
  | [], y => put r y
  | _ :: _, y => put r y.1
def outH (r : Sh) : (l : List HS) → denO r l → NHeap
  | [], _ => []
  | h :: l, y => putH (h :: l) y.2
def getO (r : Sh) : (l : List HS) → NVal → NHeap → Option (denO r l)
  | [], v, hp => match hp with | [] => get r v | _ => none
  | h :: l, v, hp => match get r v with
    | some x => match getH (h :: l) hp with
      | some y => some (x, y)
      | none => none
    | none => none

/-- what a call may give: one form, or one of several -/
abbrev OSh := Sh × List HS
@[reducible] def denY (o : OSh) : List OSh → Type
  | [] => denO o.1 o.2
  | p :: l => denO o.1 o.2 ⊕ denY p l
def yV : (o : OSh) → (l : List OSh) → denY o l → NVal
  | o, [], y => outV o.1 o.2 y
  | o, p :: l, y => match y with
    | .inl y => outV o.1 o.2 y
    | .inr y => yV p l y
def yH : (o : OSh) → (l : List OSh) → denY o l → NHeap
  | o, [], y => outH o.1 o.2 y
  | o, p :: l, y => match y with
    | .inl y => outH o.1 o.2 y
    | .inr y => yH p l y
def getY : (o : OSh) → (l : List OSh) → NVal → NHeap → Option (denY o l)
  | o, [], v, hp => getO o.1 o.2 v hp
  | o, p :: l, v, hp => match getO o.1 o.2 v hp with
    | some y => some (.inl y)
    | none => match getY p l v hp with
      | some y => some (.inr y)
      | none => none
def yK {ω : Type} : (o : OSh) → (l : List OSh) → (NVal → NHeap → Option ω) → denY o l → Option ω
  | o, [], k => fun y => k (outV o.1 o.2 y) (outH o.1 o.2 y)
  | o, p :: l, k => Sum.elim (fun y => k (outV o.1 o.2 y) (outH o.1 o.2 y)) (yK p l k)

structure Sig where
  args : Sh
  heap : List HS
  res : OSh
  more : List OSh
@[reducible] def Sig.den (sig : Sig) : Type := denY sig.res sig.more
/-- a function's plain form -/
structure Ent where
  f : Nat
  sig : Sig
  F : sig.args.den → denH sig.heap → Option sig.den

section
variable {ω : Type}
def ncallT (T : List Ent) (f : Nat) (vs : List NVal) (hp : NHeap) (k : NVal → NHeap → Option ω) : Option ω :=
  match T with
  | [] => none
  | e :: T => if e.f = f then match gets e.sig.args vs with
      | some x => match getH e.sig.heap hp with
        | some h => (e.F x h).bind (yK e.sig.res e.sig.more k)
        | none => ncallT T f vs hp k
      | none => ncallT T f vs hp k
    else ncallT T f vs hp k

def nisV : NVal → Bool
  | .undef | .tup _ => false
  | _ => true
def nargView (hp : NHeap) (a : Bool × NVal) : Option (NVal × List Nat) := if a.1 then (if nisV a.2 then some (a.2, []) else none) else nviewV hp DEEP a.2
def npack (hp : NHeap) (ids : List Nat) : NHeap := ids.map fun b => match nget hp b with | some k => .live (k.ren (index ids)) | none => .dead
def NSlot.ren (r : Nat → Option Nat) : NSlot → NSlot
  | .live k => .live (k.ren r)
  | _ => .dead
def nlayBack (r : Nat → Option Nat) (hp : NHeap) (j : Nat) : NHeap → NHeap
  | [] => hp
  | s :: rest => nlayBack r (match r j with | some b => hp.set b (s.ren r) | none => hp) (j + 1) rest

/-- the caller's blocks keep their lengths -/
def lensOk (hp : NHeap) : List Nat → NHeap → Bool
  | b :: ids, s :: back => (match nget hp b, s with
    | some kb, .live kb' => decide (kb'.len = kb.len)
    | none, _ => false
    | _, .free => false
    | _, _ => true) && lensOk hp ids back
  | _, _ => true
def ncall (T : List Ent) (hp : NHeap) (base : Nat) (sees : Sees) (id room : Nat) (quiet : Bool) (fv : NVal) (args : List (Bool × NVal)) (k : NVal → NHeap → Option ω) : Option ω :=
  match fv with
  | .fn f cap => match allOn (nargView hp) args with
    | none => none
    | some (vs, lent) =>
      let all := vs ++ cap
      let ids := reach (skH hp) [] (all.flatMap fun v => (skV v).ownV)
      if nodupB ids = true ∧ lent.all (visible base sees) = true ∧ lent.all (fun b => !ids.contains b) = true ∧ ids.all (fun b => (nget hp b).isSome) = true ∧ (quiet = false ∨ (all.flatMap fun v => (skV v).ownV).isEmpty = true) ∧ ((all.flatMap fun v => (skV v).ownV).isEmpty = true ∨ noneGone hp (List.range hp.length) = true) then
        ncallT T f (all.map (nrenV (index ids))) (npack hp ids) fun r back =>
          if nbareT r = true ∧ ids.isEmpty = true then k r hp
          else if quiet = true ∧ lent.isEmpty = false then none
          else if ids.length ≤ back.length ∧ back.length ≤ ids.length + room ∧ (List.range (back.length - ids.length)).all (fun j => nfree hp (id + j)) = true ∧ (back.isEmpty = true ∨ ids.isEmpty = false ∨ (skT r).ownT.isEmpty = false) then
            cond (lensOk hp ids back) (k (nrenT (backTo ids id) r) (nlayBack (backTo ids id) (nkill .gone hp lent) 0 back)) none
          else none
      else none
  | _ => none

def nseesB (base : Nat) (sees : Sees) (v : NVal) : Bool := (skV v).ownV.all (visible base sees)

/-- the old blocks that an operation gives up or hands on -/
def nstoreL (hp : NHeap) (a x : NVal) : List Nat := match a with
  | .ptr b _ _ => match nget hp b with
    | some kb => if kb.flat then match allOn (nviewP hp DEEP) (ncellsOf x) with
        | some (_, l) => l
        | none => []
      else []
    | none => []
  | _ => []
def ncallL (hp : NHeap) (fv : NVal) (args : List (Bool × NVal)) : List Nat := match fv with
  | .fn _ cap => match allOn (nargView hp) args with
    | some (vs, _) => ((vs ++ cap).flatMap fun v => (skV v).ownV) ++ reach (skH hp) [] ((vs ++ cap).flatMap fun v => (skV v).ownV) ++ (reach (skH hp) [] ((vs ++ cap).flatMap fun v => (skV v).ownV)).flatMap (ownsAt (skH hp))
    | none => []
  | _ => []
def ntouchL (hp : NHeap) (op : AOp) (ρ : Opd → NVal) : List Nat := match op with
  | .store _ a x => nstoreL hp (ρ a) (ρ x)
  | .sliceArr _ _ x => match nviewP hp DEEP (ρ x) with
    | some (_, l) => l
    | none => []
  | .call f args _ _ => ncallL hp (ρ f) (args.map fun (m, x) => (m, ρ x))
  | _ => []
def ntightOk (base : Nat) (o : AOper) (ρ : Opd → NVal) (hp : NHeap) : Bool := !(o.op.cls == 2) || (!tightB o.sees || (ntouchL hp o.op ρ).all (visible base o.sees))

/-- one operation; hint: the type of a new slice's elements -/
def neff0 (T : List Ent) (base : Nat) (o : AOper) (hint : Option Ty) (ρ : Opd → NVal) (hp : NHeap) (k : NVal → NHeap → Option ω) : Option ω :=
  if isPure o.op then npure hp o.op ρ fun v => k v hp
  else match o.op with
    | .box n x => if nfree hp (base + o.at_) = true ∧ (ncellsOf (ρ x)).length = n ∧ (ncellsOf (ρ x)).all ncellB = true then k (.ptr (base + o.at_) 0 0) (hp.set (base + o.at_) (.live (.cells n false [ncellsOf (ρ x)]))) else none
    | .alloc zero => if nfree hp (base + o.at_) = true then match nzero zero with
        | some zs => k (.ptr (base + o.at_) 0 0) (hp.set (base + o.at_) (.live (.cells zs.length false [zs])))
        | none => none
      else none
    | .buildSlice e len flat zero parts => if nfree hp (base + o.at_) = true then match (nzero zero).bind fun zs => nfillS ρ e (List.replicate len zs) parts with
        | some xs => k (.slw (base + o.at_) e) (hp.set (base + o.at_) (.live (.cells e (flat && xs.all (·.all nimmC)) xs)))
        | none => none
      else none
    | .makeSlice e bytes flat zero len cap => match hint with
      | some t => if nfree hp (base + o.at_) = true ∧ flat = true ∧ e = (ops t).size then match (nzero zero).bind (ops t).un with
          | some z => nidx (ρ len) fun l => nidx (ρ cap) fun c => cond (decide (l ≤ c) && (decide (c * bytes ≤ 1099511627776) && decide (c ≤ 4294967296))) (k (.slw (base + o.at_) e) (hp.set (base + o.at_) (.live (.typed t (List.replicate l z))))) none
          | none => none
        else none
      | none => if nfree hp (base + o.at_) = true then match nzero zero with
          | some zs => nidx (ρ len) fun l => nidx (ρ cap) fun c => cond (decide (l ≤ c) && (decide (c * bytes ≤ 1099511627776) && decide (c ≤ 4294967296))) (k (.slw (base + o.at_) e) (hp.set (base + o.at_) (.live (.cells e flat (List.replicate l zs))))) none
          | none => none
        else none
    | .load agg n a => if nseesB base o.sees (ρ a) then nloadV hp agg n (ρ a) fun v => k v hp else none
    | .store n a x => if nseesB base o.sees (ρ a) ∧ nseesB base o.sees (ρ x) then nstore hp n (ρ a) (ρ x) fun h => k .undef h else none
    | .append e bytes flat s x => if nseesB base o.sees (ρ s) ∧ nseesB base o.sees (ρ x) then nappend hp (base + o.at_) e bytes flat (ρ s) (ρ x) k else none
    | .sliceArr len e x => if nseesB base o.sees (ρ x) then match nviewP hp DEEP (ρ x) with
        | some (.iptr cs off, l) => if off + len * e ≤ cs.length then k (.rows e (nchunks e len (cs.drop off))) (nkill .dead hp l) else none
        | _ => none
      else none
    | .call f args quiet room =>
      if nseesB base o.sees (ρ f) ∧ args.all (fun (_, x) => nseesB base o.sees (ρ x)) = true then
        ncall T hp base o.sees (base + o.at_) room quiet (ρ f) (args.map fun (m, x) => (m, ρ x)) k
      else none
    | _ => none
where
  nchunks (e : Nat) : Nat → List NVal → List (List NVal)
  | 0, _ => []
  | n + 1, cs => cs.take e :: nchunks e n (cs.drop e)

def neff (T : List Ent) (base : Nat) (o : AOper) (hint : Option Ty) (ρ : Opd → NVal) (hp : NHeap) (k : NVal → NHeap → Option ω) : Option ω := cond (ntightOk base o ρ hp) (neff0 T base o hint ρ hp k) none

def nset (tmps : List NVal) (d : Option Nat) (v : NVal) : List NVal :=
  match d with
  | some t => tmps.set t v
  | none => tmps
/-- for the operation with this destination: the type of a new slice's elements; which temporary is one of so many numbers -/
structure Hint where
  dst : Nat
  ty : Option Ty
  split : Option (Nat × Nat)
def hintOf (hints : List Hint) (d : Option Nat) : Option Ty := match d with
  | some t => match hints.find? (fun p => p.dst == t) with
    | some h => h.ty
    | none => none
  | none => none
def splitOf (hints : List Hint) (d : Option Nat) : Option (Nat × Nat) := match d with
  | some t => match hints.find? (fun p => p.dst == t) with
    | some h => h.split
    | none => none
  | none => none
/-- one of so many -/
def oneOf (i : Int) (k : Nat → Option ω) : Nat → Option ω
  | 0 => none
  | n + 1 => cond (decide (i = (n : Int))) (k n) (oneOf i k n)
def nsplit (tmps : List NVal) (s : Option (Nat × Nat)) (k : List NVal → Option ω) : Option ω := match s with
  | none => k tmps
  | some (t, n) => match tmps.getD t .undef with
    | .int kd i => oneOf i (fun j => k (tmps.set t (.int kd (j : Int)))) n
    | _ => none

def nop (T : List Ent) (base : Nat) (hints : List Hint) (o : AOper) (st : NSt) (k : NSt → Option ω) : Option ω :=
  match o.guard with
  | none => nsplit st.tmps (splitOf hints o.dst) fun tmps => neff T base o (hintOf hints o.dst) (nlook tmps) st.heap fun v h => k ⟨nset tmps o.dst v, h, st.k⟩
  | some (t, want) => match st.tmps.getD t .undef with
    | .bool b => cond b
      (cond want (nsplit (st.tmps.set t (.bool true)) (splitOf hints o.dst) fun tmps => neff T base o (hintOf hints o.dst) (nlook tmps) st.heap fun v h => k ⟨nset tmps o.dst v, h, st.k⟩) (k ⟨nset (st.tmps.set t (.bool true)) o.dst (.tup []), st.heap, st.k⟩))
      (cond want (k ⟨nset (st.tmps.set t (.bool false)) o.dst (.tup []), st.heap, st.k⟩) (nsplit (st.tmps.set t (.bool false)) (splitOf hints o.dst) fun tmps => neff T base o (hintOf hints o.dst) (nlook tmps) st.heap fun v h => k ⟨nset tmps o.dst v, h, st.k⟩))
    | .tup [] => k ⟨nset st.tmps o.dst (.tup []), st.heap, st.k⟩
    | _ => none
def nops (T : List Ent) (base : Nat) (hints : List Hint) : List AOper → NSt → (NSt → Option ω) → Option ω
  | [], st, k => k st
  | o :: os, st, k => nop T base hints o st fun s => nops T base hints os s k

/-- the state at a head: only what is kept, the blocks numbered anew -/
def nmask (keep : List Nat) (tmps : List NVal) : List NVal := tmps.zipIdx.map fun (v, t) => if keep.contains t then v else .undef
def nnorm (keep : List Nat) (st : NSt) : Option NSt :=
  let ts := nmask keep st.tmps
  let ids := reach (skH st.heap) (List.range st.k) (ts.flatMap fun v => (skT v).ownT)
  if nodupB ids = true ∧ ids.take st.k = List.range st.k then
    some ⟨ts.map (nrenT (index ids)), npack st.heap ids, st.k⟩
  else none
end

/-- what changes at a head: temporaries with their shapes; which stay as they were; the blocks -/
structure LSh where
  tmps : List (Nat × Sh)
  same : List Nat
  heap : List HS
@[reducible] def denT : List (Nat × Sh) → Type
  | [] => Unit
  | p :: l => p.2.den × denT l
def getT : (l : List (Nat × Sh)) → List NVal → Option (denT l)
  | [], _ => some ()
  | p :: l, ts => match get p.2 (ts.getD p.1 .undef) with
    | some x => match getT l ts with
      | some y => some (x, y)
      | none => none
    | none => none
def putT : (l : List (Nat × Sh)) → denT l → List NVal → List NVal
  | [], _, ts => ts
  | p :: l, x, ts => putT l x.2 (ts.set p.1 (put p.2 x.1))
@[reducible] def LSh.den (s : LSh) : Type := denT s.tmps × denH s.heap
def getL (s : LSh) (st : NSt) : Option s.den := match getT s.tmps st.tmps with
  | some x => match getH s.heap st.heap with
    | some y => some (x, y)
    | none => none
  | none => none
/-- a value that leads to no block of its own -/
def nplain : NVal → Bool
  | .agg cs => cs.all nimmC
  | .tup _ => false
  | v => nimmC v
def samesB (s : LSh) (st : NSt) : Bool := s.same.all fun t => nplain (st.tmps.getD t .undef)
def getL0 (s : LSh) (st : NSt) : Option s.den := if samesB s st = true then getL s st else none
/-- the state at a head, of plain data; st: the state when the head was first reached -/
def putL (s : LSh) (st : NSt) (x : s.den) : NSt := ⟨putT s.tmps x.1 (nmask s.same st.tmps), putH s.heap x.2, st.k⟩

/-- what is changed in a state between two pieces of code: an empty slice gets a block of its own (in a temporary, in a cell of a block that a temporary points at); what is told is only read from now on -/
inductive Adj where
  | mat (t e : Nat) (flat : Bool)
  | matC (t f e : Nat) (flat : Bool)
  | frz (t : Nat)
  | frzC (t f : Nat)
  | matP (t : Nat) (p : List (Nat × Nat)) (e : Nat) (flat : Bool)
  | mvP (t : Nat) (p : List (Nat × Nat))

inductive NCode where
  | skip
  | region (ids : Nat) (ops : List AOper) (hints : List Hint)
  | seq (a b : NCode)
  | cond (c : Opd) (thn els : NCode)
  | block (id : Nat) (body : NCode)
  | loop (keep : List Nat) (sh : LSh) (body : NCode)
  | loopU (keep : List Nat) (n : Nat) (body : NCode)
  | exit (id : Nat)
  | ret
  | label
  | goto (l : Nat)
  | scope (l : Nat) (keep : List Nat) (sh : LSh) (rest body : NCode)
  | pre (keep : List Nat) (own : List Adj) (c : NCode)
  | join (keep : List Nat) (own : List Adj) (sh : LSh) (c : NCode)
  | meet (keep : List Nat) (own : List Adj) (sh : LSh) (c : NCode)
  | post (keep : List Nat) (own : List Adj) (c : NCode)
  | split (t f n : Nat) (c : NCode)

/-- rounds of plain data -/
def loopN {σ ω : Type} (f : σ → (σ → Option ω) → Option ω) : Nat → σ → Option ω
  | 0, _ => none
  | n + 1, s => f s (loopN f n)

/-- how rounds are made -/
abbrev Lp := {σ ω : Type} → (σ → (σ → Option ω) → Option ω) → σ → Option ω

section
variable {ω : Type}
/-- what is gone is dead -/
def nshut (hp : NHeap) : NHeap := hp.map fun s => match s with
  | .gone => .dead
  | s => s
/-- where a cell lies that a temporary leads to: by rows and cells -/
def ncellAt (hp : NHeap) : Nat → List (Nat × Nat) → Option (Nat × Nat × Nat)
  | _, [] => none
  | b, [x] => some (b, x.1, x.2)
  | b, x :: p => match nget hp b with
    | some (.cells _ _ rows) => match ((rows[x.1]?).getD []).getD x.2 .undef with
      | .slw c _ => ncellAt hp c p
      | .ptr c _ _ => ncellAt hp c p
      | _ => none
    | _ => none
structure NPlace where
  b : Nat
  i : Nat
  f : Nat
  e : Nat
  rows : List (List NVal)
  row : List NVal
def nplace (st : NSt) (t : Nat) (p : List (Nat × Nat)) : Option NPlace := match st.tmps.getD t .undef with
  | .ptr b0 _ _ => match ncellAt st.heap b0 p with
    | some q => match nget st.heap q.1 with
      | some (.cells e false rows) => match rows[q.2.1]? with
        | some row => some ⟨q.1, q.2.1, q.2.2, e, rows, row⟩
        | none => none
      | _ => none
    | none => none
  | _ => none
/-- the heap with one cell replaced -/
def nsetC (hp : NHeap) (q : NPlace) (v : NVal) : NHeap := hp.set q.b (.live (.cells q.e false (q.rows.set q.i (q.row.set q.f v))))
def nadj1 (st : NSt) : Adj → NSt
  | .mat t e flat => match st.tmps.getD t .undef with
    | .zsl => ⟨st.tmps.set t (.slw st.heap.length e), st.heap ++ [.live (.cells e flat [])], st.k⟩
    | _ => st
  | .matC t f e flat => match st.tmps.getD t .undef with
    | .ptr b _ _ => match nget st.heap b with
      | some (.cells e' false [row]) => match row.getD f .undef with
        | .zsl => ⟨st.tmps, st.heap.set b (.live (.cells e' false [row.set f (.slw st.heap.length e)])) ++ [.live (.cells e flat [])], st.k⟩
        | _ => st
      | _ => st
    | _ => st
  | .frz t => match nviewV st.heap DEEP (st.tmps.getD t .undef) with
    | some (u, l) => ⟨st.tmps.set t u, nkill .dead st.heap l, st.k⟩
    | none => st
  | .frzC t f => match st.tmps.getD t .undef with
    | .ptr b _ _ => match nget st.heap b with
      | some (.cells e' false [row]) => match nviewP st.heap DEEP (row.getD f .undef) with
        | some (u, l) => if l.contains b then st else ⟨st.tmps, (nkill .dead st.heap l).set b (.live (.cells e' false [row.set f u])), st.k⟩
        | none => st
      | _ => st
    | _ => st
  | .matP t p e flat => match nplace st t p with
    | some q => match q.row.getD q.f .undef with
      | .zsl => ⟨st.tmps, nsetC st.heap q (.slw st.heap.length e) ++ [.live (.cells e flat [])], st.k⟩
      | _ => st
    | none => st
  | .mvP t p => match nplace st t p with
    | some q => match q.row.getD q.f .undef with
      | .slw c e => match nget st.heap c with
        | some kb => if c = q.b then st else ⟨st.tmps, nsetC (st.heap.set c .dead) q (.slw st.heap.length e) ++ [.live kb], st.k⟩
        | none => st
      | _ => st
    | none => st
def nadj : List Adj → NSt → NSt
  | [], st => st
  | a :: l, st => nadj l (nadj1 st a)
/-- does a change touch the temporary? -/
def Adj.on (t : Nat) : Adj → Bool
  | .mat u _ _ => u == t
  | .frz u => u == t
  | _ => false

def unroll (keep : List Nat) (f : NSt → (AExit → NSt → Option ω) → Option ω) : Nat → NSt → (AExit → NSt → Option ω) → Option ω
  | 0, _, _ => none
  | n + 1, st, k => match nnorm keep st with
    | some s => f s fun e s' => match e with
      | .normal => unroll keep f n s' k
      | e => k e s'
    | none => none

def headK (keep : List Nat) (sh : LSh) (next : sh.den → Option ω) (k : AExit → NSt → Option ω) (e : AExit) (s : NSt) : Option ω := match e with
  | .normal => match nnorm keep s with
    | some s' => (getL sh s').bind next
    | none => none
  | e => k e s
def goK (l : Nat) (keep : List Nat) (sh : LSh) (next : sh.den → Option ω) (k : AExit → NSt → Option ω) (e : AExit) (s : NSt) : Option ω := match e with
  | .goto l' => if l' = l then match nnorm keep s with
      | some s' => (getL sh s').bind next
      | none => none
    else none
  | e => k e s
def scopeK (L : Lp) (l : Nat) (keep : List Nat) (sh : LSh) (R : NSt → (AExit → NSt → Option ω) → Option ω) (k : AExit → NSt → Option ω) (e : AExit) (s : NSt) : Option ω := match e with
  | .goto l' => if l' = l then match nnorm keep s with
      | some s0 => match getL0 sh s0 with
        | some x => L (fun x next => R (putL sh s0 x) (goK l keep sh next k)) x
        | none => none
      | none => none
    else none
  | e => k e s

def nlit (tmps : List NVal) (c : Opd) (b : Bool) : List NVal := match c with
  | .tmp t => tmps.set t (.bool b)
  | _ => tmps
end

/-- code, with what comes behind -/
def nexec (T : List Ent) (L : Lp) : {ω : Type} → NCode → NSt → (AExit → NSt → Option ω) → Option ω
  | _, .skip, st, k => k .normal st
  | _, .region ids ops hints, st, k => nops T st.heap.length hints ops ⟨st.tmps, st.heap ++ List.replicate ids .free, st.k⟩ fun s => k .normal ⟨s.tmps, nshut s.heap, s.k⟩
  | _, .seq a b, st, k => nexec T L a st fun e s => match e with
    | .normal => nexec T L b s k
    | e => k e s
  | _, .cond c a b, st, k => match nlook st.tmps c with
    | .bool t => _root_.cond t (nexec T L a ⟨nlit st.tmps c true, st.heap, st.k⟩ k) (nexec T L b ⟨nlit st.tmps c false, st.heap, st.k⟩ k)
    | _ => none
  | _, .block id c, st, k => nexec T L c st fun e s => match e with
    | .exit i => if i = id then k .normal s else k (.exit i) s
    | e => k e s
  | _, .loop keep sh c, st, k => match nnorm keep st with
    | some s0 => match getL0 sh s0 with
      | some x => L (fun x next => nexec T L c (putL sh s0 x) (headK keep sh next k)) x
      | none => none
    | none => none
  | _, .loopU keep n c, st, k => unroll keep (nexec T L c) n st k
  | _, .exit id, st, k => k (.exit id) st
  | _, .ret, st, k => k .ret st
  | _, .label, st, k => k .normal st
  | _, .goto l, st, k => k (.goto l) st
  | _, .scope l keep sh rest body, st, k => nexec T L body st (scopeK L l keep sh (nexec T L rest) k)
  | _, .pre keep own c, st, k => match nnorm keep (nadj own st) with
    | some s => nexec T L c s k
    | none => none
  | _, .post keep own c, st, k => nexec T L c st fun e s => match e with
    | .normal => match nnorm keep (nadj own s) with
      | some s' => k .normal s'
      | none => none
    | e => k e s
  | _, .split t f n c, st, k => match st.tmps.getD t .undef with
    | .ptr b _ _ => match nget st.heap b with
      | some (.cells e false [row]) => match row[f]? with
        | some (.int kd i) => oneOf i (fun j => nexec T L c ⟨st.tmps, st.heap.set b (.live (.cells e false [row.set f (.int kd (j : Int))])), st.k⟩ k) n
        | _ => none
      | _ => none
    | _ => none
  | ω, .join keep own sh c, st, k => if samesB sh st = true then (nexec T L c (ω := sh.den ⊕ ω) st fun e s => match e with
      | .normal => match nnorm keep (nadj own s) with
        | some s' => (getL sh s').bind fun x => some (.inl x)
        | none => none
      | e => (k e s).map .inr).bind (Sum.elim (fun x => k .normal (putL sh st x)) some)
    else none
  | _, .meet keep own sh c, st, k => if samesB sh st = true then (nexec T L c (ω := sh.den) st fun e s => match e with
      | .normal => match nnorm keep (nadj own s) with
        | some s' => getL sh s'
        | none => none
      | _ => none).bind fun x => k .normal (putL sh st x)
    else none

structure NFunc where
  ntmps : Nat
  code : NCode
  results : List RVar
  freeze : Bool

section
variable {ω : Type}
def nres (hp : NHeap) (tmps : List NVal) (r : RVar) (k : NVal → Option ω) : Option ω := match r with
  | .tmp t => k (tmps.getD t .undef)
  | .cell agg n t => nloadV hp agg n (tmps.getD t .undef) k
def nress (hp : NHeap) (tmps : List NVal) : List RVar → (List NVal → Option ω) → Option ω
  | [], k => k []
  | r :: rs, k => nres hp tmps r fun v => nress hp tmps rs fun vs => k (v :: vs)
def nresults (hp : NHeap) (tmps : List NVal) (rs : List RVar) (k : NVal → Option ω) : Option ω :=
  match rs with
  | [r] => nres hp tmps r k
  | _ => nress hp tmps rs fun vs => k (.tup vs)
/-- a whole result -/
def nokR : NVal → Bool
  | .undef => false
  | .tup vs => vs.all nisV
  | _ => true
def nleave (f : NFunc) (st : NSt) (k : NVal → NHeap → Option ω) : Option ω :=
  nresults st.heap st.tmps f.results fun r0 => if nokR r0 = true then match (if f.freeze then nviewT st.heap DEEP r0 else some (r0, [])) with
    | none => none
    | some (r, shown) =>
      let ids := reach (skH st.heap) (List.range st.k) (skT r).ownT
      if nokR r = true ∧ nodupB ids = true ∧ ids.take st.k = List.range st.k ∧ shown.all (fun b => !ids.contains b) = true then
        k (nrenT (index ids) r) (npack st.heap ids)
      else none
    else none
end

/-- a body, run on plain data -/
def nrun (T : List Ent) (L : Lp) (f : NFunc) (sig : Sig) (x : sig.args.den) (h : denH sig.heap) : Option sig.den :=
  nexec T L f.code ⟨puts sig.args x ++ List.replicate (f.ntmps - (puts sig.args x).length) .undef, putH sig.heap h, (putH sig.heap h).length⟩ fun e st => match e with
    | .normal | .ret => nleave f st fun r back => getY sig.res sig.more r back
    | _ => none

end NM
end Go.Proofs.Ytfelhbeiegppgaa
