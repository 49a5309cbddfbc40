/-
  What the proof of SpecTexts leans on, part 12. (Many texts laid together by program.)
-/
import Derived.Test.YtjngkfdclcgfhaaGreatDoorPkTk
set_option linter.unnecessarySimpa false
set_option linter.unusedSimpArgs false
set_option linter.unusedVariables false
section
namespace Go.Proofs.YtjngkfdclcgfhaaGreatDoor
namespace NM
open AM
inductive Sh where
 | v (t : Ty)
 | undef
 | nilp
 | zsl
 | nilfn
 | nili
 | ptr (b i f : Nat)
 | slw (b e : Nat)
 | fn (f : Nat) (caps : Sh)
 | agg (l : Sh)
 | tup (l : Sh)
 | iptr (l : Sh) (off : Nat)
 | rows (e : Nat) (l : Sh)
 | nil
 | cons (a l : Sh)
def Sh.isUndef : Sh → Bool
 | .undef => true
 | _ => false
@[reducible] def Sh.den : Sh → Type
 | .v t => NM.den t
 | .fn _ l | .agg l | .tup l | .iptr l _ | .rows _ l => l.den
 | .cons a l => a.den × l.den
 | _ => Unit
def putV (t : Ty) (x : NM.den t) : NVal := match t.isAgg with
 | true => .agg ((ops t).cells x)
 | false => match (ops t).cells x with
   | [c] => c
   | _ => .undef
def getV (t : Ty) (v : NVal) : Option (NM.den t) := match t.isAgg with
 | true => match v with
   | .agg cs => (ops t).un cs
   | _ => none
 | false => (ops t).un [v]
mutual
def put : (s : Sh) → s.den → NVal
 | .v t, x => putV t x
 | .undef, _ => .undef
 | .nilp, _ => .nilp
 | .zsl, _ => .zsl
 | .nilfn, _ => .nilfn
 | .nili, _ => .nili
 | .ptr b i f, _ => .ptr b i f
 | .slw b e, _ => .slw b e
 | .fn f l, x => .fn f (puts l x)
 | .agg l, x => .agg (puts l x)
 | .tup l, x => .tup (puts l x)
 | .iptr l off, x => .iptr (puts l x) off
 | .rows e l, x => .rows e (putsR l x)
 | .nil, _ => .undef
 | .cons _ _, _ => .undef
def puts : (s : Sh) → s.den → List NVal
 | .cons a l, x => put a x.1 :: puts l x.2
 | .v _, _ | .undef, _ | .nilp, _ | .zsl, _ | .nilfn, _ | .nili, _ | .ptr _ _ _, _ | .slw _ _, _ | .fn _ _, _ | .agg _, _ | .tup _, _ | .iptr _ _, _ | .rows _ _, _ | .nil, _ => []
def putsR : (s : Sh) → s.den → List (List NVal)
 | .cons a l, x => puts a x.1 :: putsR l x.2
 | .v _, _ | .undef, _ | .nilp, _ | .zsl, _ | .nilfn, _ | .nili, _ | .ptr _ _ _, _ | .slw _ _, _ | .fn _ _, _ | .agg _, _ | .tup _, _ | .iptr _ _, _ | .rows _ _, _ | .nil, _ => []
end
mutual
def get : (s : Sh) → NVal → Option s.den
 | .v t, v => getV t v
 | .undef, _ => some ()
 | .nilp, v => match v with | .nilp => some () | _ => none
 | .zsl, v => match v with | .zsl => some () | _ => none
 | .nilfn, v => match v with | .nilfn => some () | _ => none
 | .nili, v => match v with | .nili => some () | _ => none
 | .ptr b i f, v => match v with | .ptr b' i' f' => if b' = b ∧ i' = i ∧ f' = f then some () else none | _ => none
 | .slw b e, v => match v with | .slw b' e' => if b' = b ∧ e' = e then some () else none | _ => none
 | .fn f l, v => match v with | .fn f' cap => if f' = f then gets l cap else none | _ => none
 | .agg l, v => match v with | .agg cs => gets l cs | _ => none
 | .tup l, v => match v with | .tup cs => gets l cs | _ => none
 | .iptr l off, v => match v with | .iptr cs off' => if off' = off then gets l cs else none | _ => none
 | .rows e l, v => match v with | .rows e' rs => if e' = e then getsR l rs else none | _ => none
 | .nil, _ => none
 | .cons _ _, _ => none
def gets : (s : Sh) → List NVal → Option s.den
 | .cons a l, vs => match vs with
   | v :: vs => match (if a.isUndef then none else get a v) with
     | some x => match gets l vs with
       | some y => some (x, y)
       | none => none
     | none => none
   | [] => none
 | .nil, vs => match vs with
   | [] => some ()
   | _ => none
 | .v _, _ | .undef, _ | .nilp, _ | .zsl, _ | .nilfn, _ | .nili, _ | .ptr _ _ _, _ | .slw _ _, _ | .fn _ _, _ | .agg _, _ | .tup _, _ | .iptr _ _, _ | .rows _ _, _ => none
def getsR : (s : Sh) → List (List NVal) → Option s.den
 | .cons a l, vs => match vs with
   | v :: vs => match gets a v with
     | some x => match getsR l vs with
       | some y => some (x, y)
       | none => none
     | none => none
   | [] => none
 | .nil, vs => match vs with
   | [] => some ()
   | _ => none
 | .v _, _ | .undef, _ | .nilp, _ | .zsl, _ | .nilfn, _ | .nili, _ | .ptr _ _ _, _ | .slw _ _, _ | .fn _ _, _ | .agg _, _ | .tup _, _ | .iptr _ _, _ | .rows _ _, _ => none
end
inductive HS where
 | dead
 | typed (t : Ty)
 | cell (flat : Bool) (row : Sh)
 | one (flat : Bool) (t : Ty)
 | many (e : Nat) (rows : Sh)
@[reducible] def HS.den : HS → Type
 | .dead => Unit
 | .typed t => List (NM.den t)
 | .cell _ r => r.den
 | .one _ t => NM.den t
 | .many _ r => r.den
@[reducible] def denH : List HS → Type
 | [] => Unit
 | h :: l => h.den × denH l
def putS : (h : HS) → h.den → NSlot
 | .dead, _ => .dead
 | .typed t, xs => .live (.typed t xs)
 | .cell flat r, x => .live (.cells (puts r x).length flat [puts r x])
 | .one flat t, x => .live (.cells ((ops t).cells x).length flat [(ops t).cells x])
 | .many e r, x => .live (.cells e false (putsR r x))
def getS : (h : HS) → NSlot → Option h.den
 | .dead, s => match s with | .dead => some () | _ => none
 | .typed t, s => match s with
   | .live (.typed t' xs) => if h : t' = t then some (h ▸ xs) else none
   | .live (.cells e true rows) => if e = (ops t).size then allOf (ops t).un rows else none
   | _ => none
 | .cell flat r, s => match s with
   | .live (.cells e flat' [row]) => if flat' = flat ∧ e = row.length then gets r row else none
   | _ => none
 | .one flat t, s => match s with
   | .live (.cells e flat' [row]) => if flat' = flat ∧ e = row.length then (ops t).un row else none
   | _ => none
 | .many e r, s => match s with
   | .live (.cells e' false rows) => if e' = e then getsR r rows else none
   | _ => none
def putH : (l : List HS) → denH l → NHeap
 | [], _ => []
 | h :: l, x => putS h x.1 :: putH l x.2
def getH : (l : List HS) → NHeap → Option (denH l)
 | [], hp => match hp with | [] => some () | _ => none
 | h :: l, hp => match hp with
   | s :: hp => match getS h s with
     | some x => match getH l hp with
       | some y => some (x, y)
       | none => none
     | none => none
   | [] => none
@[reducible] def denO (r : Sh) : List HS → Type
 | [] => r.den
 | h :: l => r.den × denH (h :: l)
def outV (r : Sh) : (l : List HS) → denO r l → NVal
 | [], y => put r y
 | _ :: _, y => put r y.1
def outH (r : Sh) : (l : List HS) → denO r l → NHeap
 | [], _ => []
 | h :: l, y => putH (h :: l) y.2
def getO (r : Sh) : (l : List HS) → NVal → NHeap → Option (denO r l)
 | [], v, hp => match hp with | [] => get r v | _ => none
 | h :: l, v, hp => match get r v with
   | some x => match getH (h :: l) hp with
     | some y => some (x, y)
     | none => none
   | none => none
abbrev OSh := Sh × List HS
@[reducible] def denY (o : OSh) : List OSh → Type
 | [] => denO o.1 o.2
 | p :: l => denO o.1 o.2 ⊕ denY p l
def yV : (o : OSh) → (l : List OSh) → denY o l → NVal
 | o, [], y => outV o.1 o.2 y
 | o, p :: l, y => match y with
   | .inl y => outV o.1 o.2 y
   | .inr y => yV p l y
def yH : (o : OSh) → (l : List OSh) → denY o l → NHeap
 | o, [], y => outH o.1 o.2 y
 | o, p :: l, y => match y with
   | .inl y => outH o.1 o.2 y
   | .inr y => yH p l y
def getY : (o : OSh) → (l : List OSh) → NVal → NHeap → Option (denY o l)
 | o, [], v, hp => getO o.1 o.2 v hp
 | o, p :: l, v, hp => match getO o.1 o.2 v hp with
   | some y => some (.inl y)
   | none => match getY p l v hp with
     | some y => some (.inr y)
     | none => none
def yK {ω : Type} : (o : OSh) → (l : List OSh) → (NVal → NHeap → Option ω) → denY o l → Option ω
 | o, [], k => fun y => k (outV o.1 o.2 y) (outH o.1 o.2 y)
 | o, p :: l, k => Sum.elim (fun y => k (outV o.1 o.2 y) (outH o.1 o.2 y)) (yK p l k)
structure Sig where
 args : Sh
 heap : List HS
 res : OSh
 more : List OSh
@[reducible] def Sig.den (sig : Sig) : Type := denY sig.res sig.more
structure Ent where
 f : Nat
 sig : Sig
 F : sig.args.den → denH sig.heap → Option sig.den
section
variable {ω : Type}
def ncallT (T : List Ent) (f : Nat) (vs : List NVal) (hp : NHeap) (k : NVal → NHeap → Option ω) : Option ω :=
 match T with
 | [] => none
 | e :: T => if e.f = f then match gets e.sig.args vs with
     | some x => match getH e.sig.heap hp with
       | some h => (e.F x h).bind (yK e.sig.res e.sig.more k)
       | none => ncallT T f vs hp k
     | none => ncallT T f vs hp k
   else ncallT T f vs hp k
def nisV : NVal → Bool
 | .undef | .tup _ => false
 | _ => true
def nargView (hp : NHeap) (a : Bool × NVal) : Option (NVal × List Nat) := if a.1 then (if nisV a.2 then some (a.2, []) else none) else nviewV hp DEEP a.2
def npack (hp : NHeap) (ids : List Nat) : NHeap := ids.map fun b => match nget hp b with | some k => .live (k.ren (index ids)) | none => .dead
def NSlot.ren (r : Nat → Option Nat) : NSlot → NSlot
 | .live k => .live (k.ren r)
 | _ => .dead
def nlayBack (r : Nat → Option Nat) (hp : NHeap) (j : Nat) : NHeap → NHeap
 | [] => hp
 | s :: rest => nlayBack r (match r j with | some b => hp.set b (s.ren r) | none => hp) (j + 1) rest
def lensOk (hp : NHeap) : List Nat → NHeap → Bool
 | b :: ids, s :: back => (match nget hp b, s with
   | some kb, .live kb' => decide (kb'.len = kb.len)
   | none, _ => false
   | _, .free => false
   | _, _ => true) && lensOk hp ids back
 | _, _ => true
def ncall (T : List Ent) (hp : NHeap) (base : Nat) (sees : Sees) (id room : Nat) (quiet : Bool) (fv : NVal) (args : List (Bool × NVal)) (k : NVal → NHeap → Option ω) : Option ω :=
 match fv with
 | .fn f cap => match allOn (nargView hp) args with
   | none => none
   | some (vs, lent) =>
     let all := vs ++ cap
     let ids := reach (skH hp) [] (all.flatMap fun v => (skV v).ownV)
     if nodupB ids = true ∧ lent.all (visible base sees) = true ∧ lent.all (fun b => !ids.contains b) = true ∧ ids.all (fun b => (nget hp b).isSome) = true ∧ (quiet = false ∨ (all.flatMap fun v => (skV v).ownV).isEmpty = true) ∧ ((all.flatMap fun v => (skV v).ownV).isEmpty = true ∨ noneGone hp ((all.flatMap fun v => (skV v).ownV) ++ ids.flatMap (ownsAt (skH hp))) = true) then
       ncallT T f (all.map (nrenV (index ids))) (npack hp ids) fun r back =>
         if nbareT r = true ∧ ids.isEmpty = true then k r hp
         else if quiet = true ∧ lent.isEmpty = false then none
         else if ids.length ≤ back.length ∧ back.length ≤ ids.length + room ∧ (List.range (back.length - ids.length)).all (fun j => nfree hp (id + j)) = true ∧ (back.isEmpty = true ∨ ids.isEmpty = false ∨ (skT r).ownT.isEmpty = false) then
           cond (lensOk hp ids back) (k (nrenT (backTo ids id) r) (nlayBack (backTo ids id) (nkill .gone hp lent) 0 back)) none
         else none
     else none
 | _ => none
def nseesB (base : Nat) (sees : Sees) (v : NVal) : Bool := (skV v).ownV.all (visible base sees)
def nstoreL (hp : NHeap) (a x : NVal) : List Nat := match a with
 | .ptr b _ _ => match nget hp b with
   | some kb => if kb.flat then match allOn (nviewP hp DEEP) (ncellsOf x) with
       | some (_, l) => l
       | none => []
     else []
   | none => []
 | _ => []
def ncallL (hp : NHeap) (fv : NVal) (args : List (Bool × NVal)) : List Nat := match fv with
 | .fn _ cap => match allOn (nargView hp) args with
   | some (vs, _) => ((vs ++ cap).flatMap fun v => (skV v).ownV) ++ reach (skH hp) [] ((vs ++ cap).flatMap fun v => (skV v).ownV) ++ (reach (skH hp) [] ((vs ++ cap).flatMap fun v => (skV v).ownV)).flatMap (ownsAt (skH hp))
   | none => []
 | _ => []
def ntouchL (hp : NHeap) (op : AOp) (ρ : Opd → NVal) : List Nat := match op with
 | .store _ a x => nstoreL hp (ρ a) (ρ x)
 | .sliceArr _ _ x => match nviewP hp DEEP (ρ x) with
   | some (_, l) => l
   | none => []
 | .call f args _ _ => ncallL hp (ρ f) (args.map fun (m, x) => (m, ρ x))
 | _ => []
def ntightOk (base : Nat) (o : AOper) (ρ : Opd → NVal) (hp : NHeap) : Bool := !(o.op.cls == 2) || (!tightB o.sees || (ntouchL hp o.op ρ).all (visible base o.sees))
def neff0 (T : List Ent) (base : Nat) (o : AOper) (hint : Option Ty) (ρ : Opd → NVal) (hp : NHeap) (k : NVal → NHeap → Option ω) : Option ω :=
 if isPure o.op then npure hp o.op ρ fun v => k v hp
 else match o.op with
   | .box n x => if nfree hp (base + o.at_) = true ∧ (ncellsOf (ρ x)).length = n ∧ (ncellsOf (ρ x)).all ncellB = true then k (.ptr (base + o.at_) 0 0) (hp.set (base + o.at_) (.live (.cells n false [ncellsOf (ρ x)]))) else none
   | .alloc zero => if nfree hp (base + o.at_) = true then match nzero zero with
       | some zs => k (.ptr (base + o.at_) 0 0) (hp.set (base + o.at_) (.live (.cells zs.length false [zs])))
       | none => none
     else none
   | .buildSlice e len flat zero parts => if nfree hp (base + o.at_) = true then match (nzero zero).bind fun zs => nfillS ρ e (List.replicate len zs) parts with
       | some xs => k (.slw (base + o.at_) e) (hp.set (base + o.at_) (.live (.cells e (flat && xs.all (·.all nimmC)) xs)))
       | none => none
     else none
   | .makeSlice e bytes flat zero len cap => match hint with
     | some t => if nfree hp (base + o.at_) = true ∧ flat = true ∧ e = (ops t).size then match (nzero zero).bind (ops t).un with
         | some z => nidx (ρ len) fun l => nidx (ρ cap) fun c => cond (decide (l ≤ c) && (decide (c * bytes ≤ 1099511627776) && decide (c ≤ 4294967296))) (k (.slw (base + o.at_) e) (hp.set (base + o.at_) (.live (.typed t (List.replicate l z))))) none
         | none => none
       else none
     | none => if nfree hp (base + o.at_) = true then match nzero zero with
         | some zs => nidx (ρ len) fun l => nidx (ρ cap) fun c => cond (decide (l ≤ c) && (decide (c * bytes ≤ 1099511627776) && decide (c ≤ 4294967296))) (k (.slw (base + o.at_) e) (hp.set (base + o.at_) (.live (.cells e flat (List.replicate l zs))))) none
         | none => none
       else none
   | .load agg n a => if nseesB base o.sees (ρ a) then nloadV hp agg n (ρ a) fun v => k v hp else none
   | .store n a x => if nseesB base o.sees (ρ a) ∧ nseesB base o.sees (ρ x) then nstore hp n (ρ a) (ρ x) fun h => k .undef h else none
   | .append e bytes flat s x => if nseesB base o.sees (ρ s) ∧ nseesB base o.sees (ρ x) then nappend hp (base + o.at_) e bytes flat (ρ s) (ρ x) k else none
   | .sliceArr len e x => if nseesB base o.sees (ρ x) then match nviewP hp DEEP (ρ x) with
       | some (.iptr cs off, l) => if off + len * e ≤ cs.length then k (.rows e (nchunks e len (cs.drop off))) (nkill .dead hp l) else none
       | _ => none
     else none
   | .call f args quiet room =>
     if nseesB base o.sees (ρ f) ∧ args.all (fun (_, x) => nseesB base o.sees (ρ x)) = true then
       ncall T hp base o.sees (base + o.at_) room quiet (ρ f) (args.map fun (m, x) => (m, ρ x)) k
     else none
   | _ => none
where
 nchunks (e : Nat) : Nat → List NVal → List (List NVal)
 | 0, _ => []
 | n + 1, cs => cs.take e :: nchunks e n (cs.drop e)
def neff (T : List Ent) (base : Nat) (o : AOper) (hint : Option Ty) (ρ : Opd → NVal) (hp : NHeap) (k : NVal → NHeap → Option ω) : Option ω := cond (ntightOk base o ρ hp) (neff0 T base o hint ρ hp k) none
def nset (tmps : List NVal) (d : Option Nat) (v : NVal) : List NVal :=
 match d with
 | some t => tmps.set t v
 | none => tmps
structure Hint where
 dst : Nat
 ty : Option Ty
 split : Option (Nat × Nat)
def hintOf (hints : List Hint) (d : Option Nat) : Option Ty := match d with
 | some t => match hints.find? (fun p => p.dst == t) with
   | some h => h.ty
   | none => none
 | none => none
def splitOf (hints : List Hint) (d : Option Nat) : Option (Nat × Nat) := match d with
 | some t => match hints.find? (fun p => p.dst == t) with
   | some h => h.split
   | none => none
 | none => none
def oneOf (i : Int) (k : Nat → Option ω) : Nat → Option ω
 | 0 => none
 | n + 1 => cond (decide (i = (n : Int))) (k n) (oneOf i k n)
def nsplit (tmps : List NVal) (s : Option (Nat × Nat)) (k : List NVal → Option ω) : Option ω := match s with
 | none => k tmps
 | some (t, n) => match tmps.getD t .undef with
   | .int kd i => oneOf i (fun j => k (tmps.set t (.int kd (j : Int)))) n
   | _ => none
def nop (T : List Ent) (base : Nat) (hints : List Hint) (o : AOper) (st : NSt) (k : NSt → Option ω) : Option ω :=
 match o.guard with
 | none => nsplit st.tmps (splitOf hints o.dst) fun tmps => neff T base o (hintOf hints o.dst) (nlook tmps) st.heap fun v h => k ⟨nset tmps o.dst v, h, st.k⟩
 | some (t, want) => match st.tmps.getD t .undef with
   | .bool b => cond b
     (cond want (nsplit (st.tmps.set t (.bool true)) (splitOf hints o.dst) fun tmps => neff T base o (hintOf hints o.dst) (nlook tmps) st.heap fun v h => k ⟨nset tmps o.dst v, h, st.k⟩) (k ⟨nset (st.tmps.set t (.bool true)) o.dst (.tup []), st.heap, st.k⟩))
     (cond want (k ⟨nset (st.tmps.set t (.bool false)) o.dst (.tup []), st.heap, st.k⟩) (nsplit (st.tmps.set t (.bool false)) (splitOf hints o.dst) fun tmps => neff T base o (hintOf hints o.dst) (nlook tmps) st.heap fun v h => k ⟨nset tmps o.dst v, h, st.k⟩))
   | .tup [] => k ⟨nset st.tmps o.dst (.tup []), st.heap, st.k⟩
   | _ => none
def nops (T : List Ent) (base : Nat) (hints : List Hint) : List AOper → NSt → (NSt → Option ω) → Option ω
 | [], st, k => k st
 | o :: os, st, k => nop T base hints o st fun s => nops T base hints os s k
def nmask (keep : List Nat) (tmps : List NVal) : List NVal := tmps.zipIdx.map fun (v, t) => if keep.contains t then v else .undef
def nnorm (keep : List Nat) (st : NSt) : Option NSt :=
 let ts := nmask keep st.tmps
 let ids := reach (skH st.heap) (List.range st.k) (ts.flatMap fun v => (skT v).ownT)
 if nodupB ids = true ∧ ids.take st.k = List.range st.k then
   some ⟨ts.map (nrenT (index ids)), npack st.heap ids, st.k⟩
 else none
end
structure LSh where
 tmps : List (Nat × Sh)
 same : List Nat
 heap : List HS
@[reducible] def denT : List (Nat × Sh) → Type
 | [] => Unit
 | p :: l => p.2.den × denT l
def getT : (l : List (Nat × Sh)) → List NVal → Option (denT l)
 | [], _ => some ()
 | p :: l, ts => match get p.2 (ts.getD p.1 .undef) with
   | some x => match getT l ts with
     | some y => some (x, y)
     | none => none
   | none => none
def putT : (l : List (Nat × Sh)) → denT l → List NVal → List NVal
 | [], _, ts => ts
 | p :: l, x, ts => putT l x.2 (ts.set p.1 (put p.2 x.1))
@[reducible] def LSh.den (s : LSh) : Type := denT s.tmps × denH s.heap
def getL (s : LSh) (st : NSt) : Option s.den := match getT s.tmps st.tmps with
 | some x => match getH s.heap st.heap with
   | some y => some (x, y)
   | none => none
 | none => none
def nplain : NVal → Bool
 | .agg cs => cs.all nimmC
 | .tup _ => false
 | v => nimmC v
def samesB (s : LSh) (st : NSt) : Bool := s.same.all fun t => nplain (st.tmps.getD t .undef)
def getL0 (s : LSh) (st : NSt) : Option s.den := if samesB s st = true then getL s st else none
def putL (s : LSh) (st : NSt) (x : s.den) : NSt := ⟨putT s.tmps x.1 (nmask s.same st.tmps), putH s.heap x.2, st.k⟩
inductive Adj where
 | mat (t e : Nat) (flat : Bool)
 | matC (t f e : Nat) (flat : Bool)
 | frz (t : Nat)
 | frzC (t f : Nat)
 | matP (t : Nat) (p : List (Nat × Nat)) (e : Nat) (flat : Bool)
 | mvP (t : Nat) (p : List (Nat × Nat))
inductive NCode where
 | skip
 | region (ids : Nat) (ops : List AOper) (hints : List Hint)
 | seq (a b : NCode)
 | cond (c : Opd) (thn els : NCode)
 | block (id : Nat) (body : NCode)
 | loop (keep : List Nat) (sh : LSh) (body : NCode)
 | loopU (keep : List Nat) (n : Nat) (body : NCode)
 | exit (id : Nat)
 | ret
 | label
 | goto (l : Nat)
 | scope (l : Nat) (keep : List Nat) (sh : LSh) (rest body : NCode)
 | pre (keep : List Nat) (own : List Adj) (c : NCode)
 | join (keep : List Nat) (own : List Adj) (sh : LSh) (c : NCode)
 | meet (keep : List Nat) (own : List Adj) (sh : LSh) (c : NCode)
 | post (keep : List Nat) (own : List Adj) (c : NCode)
 | split (t f n : Nat) (c : NCode)
def loopN {σ ω : Type} (f : σ → (σ → Option ω) → Option ω) : Nat → σ → Option ω
 | 0, _ => none
 | n + 1, s => f s (loopN f n)
abbrev Lp := {σ ω : Type} → (σ → (σ → Option ω) → Option ω) → σ → Option ω
section
variable {ω : Type}
def nshut (hp : NHeap) : NHeap := hp.map fun s => match s with
 | .gone => .dead
 | s => s
def ncellAt (hp : NHeap) : Nat → List (Nat × Nat) → Option (Nat × Nat × Nat)
 | _, [] => none
 | b, [x] => some (b, x.1, x.2)
 | b, x :: p => match nget hp b with
   | some (.cells _ _ rows) => match ((rows[x.1]?).getD []).getD x.2 .undef with
     | .slw c _ => ncellAt hp c p
     | .ptr c _ _ => ncellAt hp c p
     | _ => none
   | _ => none
structure NPlace where
 b : Nat
 i : Nat
 f : Nat
 e : Nat
 rows : List (List NVal)
 row : List NVal
def nplace (st : NSt) (t : Nat) (p : List (Nat × Nat)) : Option NPlace := match st.tmps.getD t .undef with
 | .ptr b0 _ _ => match ncellAt st.heap b0 p with
   | some q => match nget st.heap q.1 with
     | some (.cells e false rows) => match rows[q.2.1]? with
       | some row => some ⟨q.1, q.2.1, q.2.2, e, rows, row⟩
       | none => none
     | _ => none
   | none => none
 | _ => none
def nsetC (hp : NHeap) (q : NPlace) (v : NVal) : NHeap := hp.set q.b (.live (.cells q.e false (q.rows.set q.i (q.row.set q.f v))))
def nadj1 (st : NSt) : Adj → NSt
 | .mat t e flat => match st.tmps.getD t .undef with
   | .zsl => ⟨st.tmps.set t (.slw st.heap.length e), st.heap ++ [.live (.cells e flat [])], st.k⟩
   | _ => st
 | .matC t f e flat => match st.tmps.getD t .undef with
   | .ptr b _ _ => match nget st.heap b with
     | some (.cells e' false [row]) => match row.getD f .undef with
       | .zsl => ⟨st.tmps, st.heap.set b (.live (.cells e' false [row.set f (.slw st.heap.length e)])) ++ [.live (.cells e flat [])], st.k⟩
       | _ => st
     | _ => st
   | _ => st
 | .frz t => match nviewV st.heap DEEP (st.tmps.getD t .undef) with
   | some (u, l) => ⟨st.tmps.set t u, nkill .dead st.heap l, st.k⟩
   | none => st
 | .frzC t f => match st.tmps.getD t .undef with
   | .ptr b _ _ => match nget st.heap b with
     | some (.cells e' false [row]) => match nviewP st.heap DEEP (row.getD f .undef) with
       | some (u, l) => if l.contains b then st else ⟨st.tmps, (nkill .dead st.heap l).set b (.live (.cells e' false [row.set f u])), st.k⟩
       | none => st
     | _ => st
   | _ => st
 | .matP t p e flat => match nplace st t p with
   | some q => match q.row.getD q.f .undef with
     | .zsl => ⟨st.tmps, nsetC st.heap q (.slw st.heap.length e) ++ [.live (.cells e flat [])], st.k⟩
     | _ => st
   | none => st
 | .mvP t p => match nplace st t p with
   | some q => match q.row.getD q.f .undef with
     | .slw c e => match nget st.heap c with
       | some kb => if c = q.b then st else ⟨st.tmps, nsetC (st.heap.set c .dead) q (.slw st.heap.length e) ++ [.live kb], st.k⟩
       | none => st
     | _ => st
   | none => st
def nadj : List Adj → NSt → NSt
 | [], st => st
 | a :: l, st => nadj l (nadj1 st a)
def Adj.on (t : Nat) : Adj → Bool
 | .mat u _ _ => u == t
 | .frz u => u == t
 | _ => false
def unroll (keep : List Nat) (f : NSt → (AExit → NSt → Option ω) → Option ω) : Nat → NSt → (AExit → NSt → Option ω) → Option ω
 | 0, _, _ => none
 | n + 1, st, k => match nnorm keep st with
   | some s => f s fun e s' => match e with
     | .normal => unroll keep f n s' k
     | e => k e s'
   | none => none
def headK (keep : List Nat) (sh : LSh) (next : sh.den → Option ω) (k : AExit → NSt → Option ω) (e : AExit) (s : NSt) : Option ω := match e with
 | .normal => match nnorm keep s with
   | some s' => (getL sh s').bind next
   | none => none
 | e => k e s
def goK (l : Nat) (keep : List Nat) (sh : LSh) (next : sh.den → Option ω) (k : AExit → NSt → Option ω) (e : AExit) (s : NSt) : Option ω := match e with
 | .goto l' => if l' = l then match nnorm keep s with
     | some s' => (getL sh s').bind next
     | none => none
   else none
 | e => k e s
def scopeK (L : Lp) (l : Nat) (keep : List Nat) (sh : LSh) (R : NSt → (AExit → NSt → Option ω) → Option ω) (k : AExit → NSt → Option ω) (e : AExit) (s : NSt) : Option ω := match e with
 | .goto l' => if l' = l then match nnorm keep s with
     | some s0 => match getL0 sh s0 with
       | some x => L (fun x next => R (putL sh s0 x) (goK l keep sh next k)) x
       | none => none
     | none => none
   else none
 | e => k e s
def nlit (tmps : List NVal) (c : Opd) (b : Bool) : List NVal := match c with
 | .tmp t => tmps.set t (.bool b)
 | _ => tmps
end
def nexec (T : List Ent) (L : Lp) : {ω : Type} → NCode → NSt → (AExit → NSt → Option ω) → Option ω
 | _, .skip, st, k => k .normal st
 | _, .region ids ops hints, st, k => nops T st.heap.length hints ops ⟨st.tmps, st.heap ++ List.replicate ids .free, st.k⟩ fun s => k .normal ⟨s.tmps, nshut s.heap, s.k⟩
 | _, .seq a b, st, k => nexec T L a st fun e s => match e with
   | .normal => nexec T L b s k
   | e => k e s
 | _, .cond c a b, st, k => match nlook st.tmps c with
   | .bool t => _root_.cond t (nexec T L a ⟨nlit st.tmps c true, st.heap, st.k⟩ k) (nexec T L b ⟨nlit st.tmps c false, st.heap, st.k⟩ k)
   | _ => none
 | _, .block id c, st, k => nexec T L c st fun e s => match e with
   | .exit i => if i = id then k .normal s else k (.exit i) s
   | e => k e s
 | _, .loop keep sh c, st, k => match nnorm keep st with
   | some s0 => match getL0 sh s0 with
     | some x => L (fun x next => nexec T L c (putL sh s0 x) (headK keep sh next k)) x
     | none => none
   | none => none
 | _, .loopU keep n c, st, k => unroll keep (nexec T L c) n st k
 | _, .exit id, st, k => k (.exit id) st
 | _, .ret, st, k => k .ret st
 | _, .label, st, k => k .normal st
 | _, .goto l, st, k => k (.goto l) st
 | _, .scope l keep sh rest body, st, k => nexec T L body st (scopeK L l keep sh (nexec T L rest) k)
 | _, .pre keep own c, st, k => match nnorm keep (nadj own st) with
   | some s => nexec T L c s k
   | none => none
 | _, .post keep own c, st, k => nexec T L c st fun e s => match e with
   | .normal => match nnorm keep (nadj own s) with
     | some s' => k .normal s'
     | none => none
   | e => k e s
 | _, .split t f n c, st, k => match st.tmps.getD t .undef with
   | .ptr b _ _ => match nget st.heap b with
     | some (.cells e false [row]) => match row[f]? with
       | some (.int kd i) => oneOf i (fun j => nexec T L c ⟨st.tmps, st.heap.set b (.live (.cells e false [row.set f (.int kd (j : Int))])), st.k⟩ k) n
       | _ => none
     | _ => none
   | _ => none
 | ω, .join keep own sh c, st, k => if samesB sh st = true then (nexec T L c (ω := sh.den ⊕ ω) st fun e s => match e with
     | .normal => match nnorm keep (nadj own s) with
       | some s' => (getL sh s').bind fun x => some (.inl x)
       | none => none
     | e => (k e s).map .inr).bind (Sum.elim (fun x => k .normal (putL sh st x)) some)
   else none
 | _, .meet keep own sh c, st, k => if samesB sh st = true then (nexec T L c (ω := sh.den) st fun e s => match e with
     | .normal => match nnorm keep (nadj own s) with
       | some s' => getL sh s'
       | none => none
     | _ => none).bind fun x => k .normal (putL sh st x)
   else none
structure NFunc where
 ntmps : Nat
 code : NCode
 results : List RVar
 freeze : Bool
section
variable {ω : Type}
def nres (hp : NHeap) (tmps : List NVal) (r : RVar) (k : NVal → Option ω) : Option ω := match r with
 | .tmp t => k (tmps.getD t .undef)
 | .cell agg n t => nloadV hp agg n (tmps.getD t .undef) k
def nress (hp : NHeap) (tmps : List NVal) : List RVar → (List NVal → Option ω) → Option ω
 | [], k => k []
 | r :: rs, k => nres hp tmps r fun v => nress hp tmps rs fun vs => k (v :: vs)
def nresults (hp : NHeap) (tmps : List NVal) (rs : List RVar) (k : NVal → Option ω) : Option ω :=
 match rs with
 | [r] => nres hp tmps r k
 | _ => nress hp tmps rs fun vs => k (.tup vs)
def nokR : NVal → Bool
 | .undef => false
 | .tup vs => vs.all nisV
 | _ => true
def nleave (f : NFunc) (st : NSt) (k : NVal → NHeap → Option ω) : Option ω :=
 nresults st.heap st.tmps f.results fun r0 => if nokR r0 = true then match (if f.freeze then nviewT st.heap DEEP r0 else some (r0, [])) with
   | none => none
   | some (r, shown) =>
     let ids := reach (skH st.heap) (List.range st.k) (skT r).ownT
     if nokR r = true ∧ nodupB ids = true ∧ ids.take st.k = List.range st.k ∧ shown.all (fun b => !ids.contains b) = true then
       k (nrenT (index ids) r) (npack st.heap ids)
     else none
   else none
end
def nrun (T : List Ent) (L : Lp) (f : NFunc) (sig : Sig) (x : sig.args.den) (h : denH sig.heap) : Option sig.den :=
 nexec T L f.code ⟨puts sig.args x ++ List.replicate (f.ntmps - (puts sig.args x).length) .undef, putH sig.heap h, (putH sig.heap h).length⟩ fun e st => match e with
   | .normal | .ret => nleave f st fun r back => getY sig.res sig.more r back
   | _ => none
end NM
end Go.Proofs.YtjngkfdclcgfhaaGreatDoor
end
section
namespace Go.Proofs.YtjngkfdclcgfhaaGreatDoor
namespace NM
open AM
def A2 {α β : Type} (R : α → β → Prop) (xs : List α) (ys : List β) : Prop := xs.length = ys.length ∧ ∀ (j : Nat) (x : α) (y : β), xs[j]? = some x → ys[j]? = some y → R x y
namespace A2
variable {α β : Type} {R R' : α → β → Prop} {xs xs' : List α} {ys ys' : List β} {x : α} {y : β}
theorem nil : A2 R [] [] := ⟨rfl, fun j x y h => by simp at h⟩
theorem cons (h : R x y) (hs : A2 R xs ys) : A2 R (x :: xs) (y :: ys) := ⟨by simp [hs.1], fun j a b ha hb => by
 cases j with
 | zero => simp at ha hb; subst ha; subst hb; exact h
 | succ j => simp at ha hb; exact hs.2 j a b ha hb⟩
theorem head (h : A2 R (x :: xs) (y :: ys)) : R x y := h.2 0 x y rfl rfl
theorem tail (h : A2 R (x :: xs) (y :: ys)) : A2 R xs ys := ⟨by have := h.1; simp at this; exact this, fun j a b ha hb => h.2 (j + 1) a b (by simpa using ha) (by simpa using hb)⟩
theorem nil_inv (h : A2 R [] ys) : ys = [] := by have := h.1; simp at this; exact List.eq_nil_of_length_eq_zero this.symm
theorem cons_inv (h : A2 R (x :: xs) ys) : ∃ y ys', ys = y :: ys' ∧ R x y ∧ A2 R xs ys' := by
 cases ys with
 | nil => have := h.1; simp at this
 | cons y ys => exact ⟨y, ys, rfl, h.head, h.tail⟩
theorem get (h : A2 R xs ys) {j : Nat} (hj : xs[j]? = some x) : ∃ y, ys[j]? = some y ∧ R x y := by
 obtain ⟨hl, e⟩ := List.getElem?_eq_some_iff.1 hj
 have hl' : j < ys.length := by rw [← h.1]; exact hl
 exact ⟨ys[j], List.getElem?_eq_getElem hl', h.2 j _ _ hj (List.getElem?_eq_getElem hl')⟩
theorem mono (hR : ∀ x y, R x y → R' x y) (h : A2 R xs ys) : A2 R' xs ys := ⟨h.1, fun j a b ha hb => hR _ _ (h.2 j a b ha hb)⟩
theorem append (h : A2 R xs ys) (h' : A2 R xs' ys') : A2 R (xs ++ xs') (ys ++ ys') := ⟨by simp [h.1, h'.1], fun j a b ha hb => by
 rw [List.getElem?_append] at ha hb
 rw [h.1] at ha
 split at ha
 · rename_i hl; rw [if_pos hl] at hb; exact h.2 j a b ha hb
 · rename_i hl; rw [if_neg hl] at hb; exact h'.2 _ a b ha hb⟩
theorem take (n : Nat) (h : A2 R xs ys) : A2 R (xs.take n) (ys.take n) := ⟨by simp [h.1], fun j a b ha hb => by
 rw [List.getElem?_take] at ha hb
 split at ha
 · rename_i hl; rw [if_pos hl] at hb; exact h.2 j a b ha hb
 · cases ha⟩
theorem drop (n : Nat) (h : A2 R xs ys) : A2 R (xs.drop n) (ys.drop n) := ⟨by simp [h.1], fun j a b ha hb => by
 rw [List.getElem?_drop] at ha hb
 exact h.2 _ a b ha hb⟩
theorem set (h : A2 R xs ys) (n : Nat) (hx : R x y) : A2 R (xs.set n x) (ys.set n y) := ⟨by simp [h.1], fun j a b ha hb => by
 rw [List.getElem?_set] at ha hb
 rw [h.1] at ha
 split at ha
 · rename_i hj
   rw [if_pos hj] at hb
   split at ha
   · rename_i hl; rw [if_pos hl] at hb; cases ha; cases hb; exact hx
   · cases ha
 · rename_i hj; rw [if_neg hj] at hb; exact h.2 j a b ha hb⟩
theorem map {α' β' : Type} {R' : α' → β' → Prop} {f : α → α'} {g : β → β'} (hR : ∀ x y, R x y → R' (f x) (g y)) (h : A2 R xs ys) : A2 R' (xs.map f) (ys.map g) := ⟨by simp [h.1], fun j a b ha hb => by
 simp only [List.getElem?_map, Option.map_eq_some_iff] at ha hb
 obtain ⟨a', ha, rfl⟩ := ha
 obtain ⟨b', hb, rfl⟩ := hb
 exact hR _ _ (h.2 j a' b' ha hb)⟩
theorem replicate (n : Nat) (h : R x y) : A2 R (List.replicate n x) (List.replicate n y) := ⟨by simp, fun j a b ha hb => by
 simp only [List.getElem?_replicate] at ha hb
 split at ha
 · rename_i hl; rw [if_pos hl] at hb; cases ha; cases hb; exact h
 · cases ha⟩
theorem getD (h : A2 R xs ys) {d : α} {d' : β} (hd : R d d') (j : Nat) : R (xs.getD j d) (ys.getD j d') := by
 rw [List.getD_eq_getElem?_getD, List.getD_eq_getElem?_getD]
 cases hx : xs[j]? with
 | none =>
   have : ys[j]? = none := by
     rw [List.getElem?_eq_none_iff] at hx ⊢
     rw [← h.1]; exact hx
   rw [this]; exact hd
 | some x => obtain ⟨y, hy, hr⟩ := h.get hx; rw [hy]; exact hr
theorem single (h : R x y) : A2 R [x] [y] := cons h nil
theorem flatMap_eq {γ : Type} {f : α → List γ} {g : β → List γ} (hR : ∀ x y, R x y → f x = g y) : ∀ {xs : List α} {ys : List β}, A2 R xs ys → xs.flatMap f = ys.flatMap g
 | [], [], _ => rfl
 | [], _ :: _, h => by have := h.1; simp at this
 | _ :: _, [], h => by have := h.1; simp at this
 | x :: xs, y :: ys, h => by simp only [List.flatMap_cons, hR x y h.head, flatMap_eq hR h.tail]
theorem all_of {p : α → Bool} {q : β → Bool} (hR : ∀ x y, R x y → p x = true → q y = true) (h : A2 R xs ys) (hp : xs.all p = true) : ys.all q = true := by
 rw [List.all_eq_true] at hp ⊢
 intro y hy
 obtain ⟨j, hj, rfl⟩ := List.getElem_of_mem hy
 have hl : j < xs.length := by rw [h.1]; exact hj
 exact hR _ _ (h.2 j _ _ (List.getElem?_eq_getElem hl) (List.getElem?_eq_getElem hj)) (hp _ (List.getElem_mem hl))
end A2
inductive RI : NVal → AVal → Prop
 | bool (b : Bool) : RI (.bool b) (.bool b)
 | int (k : IntKind) (n : Int) : RI (.int k n) (.int k n)
 | str (s : List UInt8) : RI (.str s) (.str s)
 | nilp : RI .nilp .nilp
 | zsl : RI .zsl .zsl
 | nilfn : RI .nilfn .nilfn
 | nili : RI .nili .nili
 | iptr (cs : List NVal) (ds : List AVal) (off : Nat) : cs.length = ds.length → (∀ (j : Nat) (c : NVal) (d : AVal), cs[j]? = some c → ds[j]? = some d → RI c d) → RI (.iptr cs off) (.iptr ds off)
 | lst (t : Ty) (xs : List (den t)) (e : Nat) (ys : List (List AVal)) : e = (ops t).size → xs.length = ys.length → (∀ (i : Nat) (x : den t) (y : List AVal), xs[i]? = some x → ys[i]? = some y → ((ops t).cells x).length = y.length) →
     (∀ (i : Nat) (x : den t) (y : List AVal) (j : Nat) (c : NVal) (d : AVal), xs[i]? = some x → ys[i]? = some y → ((ops t).cells x)[j]? = some c → y[j]? = some d → RI c d) → RI (.lst t xs) (.imm e ys)
 | lst0 (t : Ty) : RI (.lst t []) .zsl
 | rows (e : Nat) (xs : List (List NVal)) (ys : List (List AVal)) : xs.length = ys.length → (∀ (i : Nat) (x : List NVal) (y : List AVal), xs[i]? = some x → ys[i]? = some y → x.length = y.length) →
     (∀ (i : Nat) (x : List NVal) (y : List AVal) (j : Nat) (c : NVal) (d : AVal), xs[i]? = some x → ys[i]? = some y → x[j]? = some c → y[j]? = some d → RI c d) → RI (.rows e xs) (.imm e ys)
 | rows0 (e : Nat) : RI (.rows e []) .zsl
 | fn (f : Nat) (cap : List NVal) (cap' : List AVal) : cap.length = cap'.length → (∀ (j : Nat) (c : NVal) (d : AVal), cap[j]? = some c → cap'[j]? = some d → RI c d) → RI (.fn f cap) (.fn f cap')
def RX (t : Ty) (x : den t) (y : List AVal) : Prop := A2 RI ((ops t).cells x) y
theorem RI.mk_lst {t : Ty} {xs : List (den t)} {ys : List (List AVal)} (h : A2 (RX t) xs ys) : RI (.lst t xs) (.imm (ops t).size ys) :=
 .lst t xs _ ys rfl h.1 (fun i x y hx hy => (h.2 i x y hx hy).1) (fun i x y j c d hx hy hc hd => (h.2 i x y hx hy).2 j c d hc hd)
theorem RI.mk_rows {e : Nat} {xs : List (List NVal)} {ys : List (List AVal)} (h : A2 (A2 RI) xs ys) : RI (.rows e xs) (.imm e ys) :=
 .rows e xs ys h.1 (fun i x y hx hy => (h.2 i x y hx hy).1) (fun i x y j c d hx hy hc hd => (h.2 i x y hx hy).2 j c d hc hd)
theorem RI.lst_inv {t : Ty} {xs : List (den t)} {a : AVal} (h : RI (.lst t xs) a) : (∃ ys, a = .imm (ops t).size ys ∧ A2 (RX t) xs ys) ∨ (a = .zsl ∧ xs = []) := by
 cases h with
 | lst _ _ e ys he hl h1 h2 => subst he; exact .inl ⟨ys, rfl, hl, fun i x y hx hy => ⟨h1 i x y hx hy, fun j c d hc hd => h2 i x y j c d hx hy hc hd⟩⟩
 | lst0 => exact .inr ⟨rfl, rfl⟩
theorem RI.rows_inv {e : Nat} {xs : List (List NVal)} {a : AVal} (h : RI (.rows e xs) a) : (∃ ys, a = .imm e ys ∧ A2 (A2 RI) xs ys) ∨ (a = .zsl ∧ xs = []) := by
 cases h with
 | rows _ _ ys hl h1 h2 => exact .inl ⟨ys, rfl, hl, fun i x y hx hy => ⟨h1 i x y hx hy, fun j c d hc hd => h2 i x y j c d hx hy hc hd⟩⟩
 | rows0 => exact .inr ⟨rfl, rfl⟩
def Good {α : Type} (o : Ops α) : Prop := (∀ x, (o.cells x).length = o.size) ∧ (∀ cs x ds, o.un cs = some x → A2 RI cs ds → A2 RI (o.cells x) ds) ∧ (∀ x c, c ∈ o.cells x → nimmP c = true) ∧ (∀ cs x c, o.un cs = some x → c ∈ cs → nimmP c = true)
theorem good_int (k : IntKind) : Good (intO k) := by
 refine ⟨fun x => rfl, fun cs x ds h hr => ?_, fun x c hc => by simp [intO] at hc; subst hc; rfl, fun cs x c h hc => ?_⟩
 · simp only [intO] at h ⊢
   split at h
   · split at h
     · rename_i hk; cases h; subst hk; exact hr
     · cases h
   · cases h
 · simp only [intO] at h
   split at h
   · simp at hc; subst hc; rfl
   · cases h
theorem good_bool : Good boolO := by
 refine ⟨fun x => rfl, fun cs x ds h hr => ?_, fun x c hc => by simp [boolO] at hc; subst hc; rfl, fun cs x c h hc => ?_⟩
 · simp only [boolO] at h ⊢
   split at h
   · cases h; exact hr
   · cases h
 · simp only [boolO] at h
   split at h
   · simp at hc; subst hc; rfl
   · cases h
theorem good_str : Good strO := by
 refine ⟨fun x => rfl, fun cs x ds h hr => ?_, fun x c hc => by simp [strO] at hc; subst hc; rfl, fun cs x c h hc => ?_⟩
 · simp only [strO] at h ⊢
   split at h
   · cases h; exact hr
   · cases h
 · simp only [strO] at h
   split at h
   · simp at hc; subst hc; rfl
   · cases h
theorem good_unit : Good unitO := by
 refine ⟨fun x => rfl, fun cs x ds h hr => ?_, fun x c hc => by simp [unitO] at hc, fun cs x c h hc => ?_⟩
 · simp only [unitO] at h ⊢
   split at h
   · exact hr
   · cases h
 · simp only [unitO] at h
   split at h
   · cases hc
   · cases h
theorem good_pair {α β : Type} {a : Ops α} {b : Ops β} (ha : Good a) (hb : Good b) : Good (pairO a b) := by
 refine ⟨fun x => by simp [pairO, ha.1, hb.1], fun cs x ds h hr => ?_, fun x c hc => ?_, fun cs x c h hc => ?_⟩
 · simp only [pairO, Option.bind_eq_some_iff] at h
   obtain ⟨u, hu, v, hv, he⟩ := h
   cases he
   have h1 := ha.2.1 _ _ _ hu (hr.take a.size)
   have h2 := hb.2.1 _ _ _ hv (hr.drop a.size)
   have := h1.append h2
   rwa [List.take_append_drop] at this
 · simp only [pairO, List.mem_append] at hc
   rcases hc with hc | hc
   · exact ha.2.2.1 _ _ hc
   · exact hb.2.2.1 _ _ hc
 · simp only [pairO, Option.bind_eq_some_iff] at h
   obtain ⟨u, hu, v, hv, he⟩ := h
   rw [← List.take_append_drop a.size cs, List.mem_append] at hc
   rcases hc with hc | hc
   · exact ha.2.2.2 _ _ _ hu hc
   · exact hb.2.2.2 _ _ _ hv hc
theorem good_iso {α β : Type} {o : Ops β} {f : α → β} {g : β → α} (ho : Good o) (hfg : ∀ y, f (g y) = y) : Good (isoO o f g) := by
 refine ⟨fun x => by simp [isoO, ho.1], fun cs x ds h hr => ?_, fun x c hc => ho.2.2.1 (f x) c hc, fun cs x c h hc => ?_⟩
 · simp only [isoO, Option.bind_eq_some_iff] at h
   obtain ⟨u, hu, he⟩ := h
   cases he
   have := ho.2.1 _ _ _ hu hr
   simpa only [isoO, hfg] using this
 · simp only [isoO, Option.bind_eq_some_iff] at h
   obtain ⟨u, hu, he⟩ := h
   exact ho.2.2.2 _ _ _ hu hc
theorem allOf_A2 {t : Ty} (ho : Good (ops t)) : ∀ {rs : List (List NVal)} {xs : List (den t)} {ys : List (List AVal)}, allOf (ops t).un rs = some xs → A2 (A2 RI) rs ys → A2 (RX t) xs ys
 | [], xs, ys, h, hr => by simp [allOf] at h; subst h; rw [hr.nil_inv]; exact .nil
 | r :: rs, xs, ys, h, hr => by
   simp only [allOf] at h
   split at h
   · rename_i y hy
     split at h
     · rename_i zs hz
       cases h
       obtain ⟨b, bs, rfl, h1, h2⟩ := hr.cons_inv
       exact .cons (ho.2.1 _ _ _ hy h1) (allOf_A2 ho hz h2)
     · cases h
   · cases h
theorem gList_ok {t : Ty} (ho : Good (ops t)) {v : NVal} {xs : List (den t)} {a : AVal} (h : gList t (ops t) v = some xs) (hr : RI v a) : RI (.lst t xs) a := by
 unfold gList at h
 split at h
 · split at h
   · rename_i he; subst he; cases h; exact hr
   · cases h
 · rename_i e rs
   split at h
   · rename_i he
     rcases hr.rows_inv with ⟨ys, rfl, hy⟩ | ⟨rfl, rfl⟩
     · subst he; exact .mk_lst (allOf_A2 ho h hy)
     · simp [allOf] at h; subst h; exact .lst0 t
   · cases h
 · cases h; cases hr; exact .lst0 t
 · cases h
theorem good_list {t : Ty} (ho : Good (ops t)) : Good (listO t (ops t)) := by
 refine ⟨fun x => rfl, fun cs x ds h hr => ?_, fun x c hc => by simp [listO] at hc; subst hc; rfl, fun cs x c h hc => ?_⟩
 · simp only [listO] at h ⊢
   split at h
   · rename_i c
     obtain ⟨d, ds', rfl, h1, h2⟩ := hr.cons_inv
     rw [h2.nil_inv]
     exact .single (gList_ok ho h h1)
   · cases h
 · simp only [listO] at h
   split at h
   · simp at hc
     subst hc
     unfold gList at h
     split at h <;> first | rfl | cases h
   · cases h
theorem good_i64 : Good i64O := good_int _
theorem good_res : Good resO := good_iso (good_pair good_i64 (good_pair good_i64 (good_pair good_i64 good_i64))) (fun _ => rfl)
theorem good_dep : Good depO := good_iso (good_pair good_i64 good_bool) (fun _ => rfl)
theorem good_ints : Good intsO := good_list (t := .int .i64) (good_int _)
theorem good_deps : Good depsO := good_list (t := .dep) good_dep
theorem good_queue : Good queueO := good_iso (good_pair good_i64 (good_pair good_ints (good_pair good_i64 (good_pair good_i64 (good_pair good_i64 good_i64))))) (fun _ => rfl)
theorem good_weights : Good weightsO := good_iso (good_pair good_i64 (good_pair good_i64 (good_pair good_i64 good_i64))) (fun _ => rfl)
theorem good_spec : Good specO := good_iso (good_pair (good_list (t := .res) good_res) (good_pair (good_list (t := .list (.int .i64)) good_ints) (good_pair (good_list (t := .queue) good_queue) (good_pair good_i64 (good_pair good_weights (good_pair good_i64 (good_pair good_i64 (good_pair good_i64 (good_pair good_i64 (good_pair good_i64 (good_pair good_i64 (good_pair good_i64 (good_pair good_i64 (good_pair good_i64 good_i64)))))))))))))) (fun _ => rfl)
theorem good_job : Good jobO := good_iso (good_pair good_i64 (good_pair good_i64 (good_pair good_i64 (good_pair good_i64 (good_pair good_res (good_pair good_i64 (good_pair good_deps (good_pair good_i64 (good_pair good_bool (good_pair good_bool (good_pair good_i64 (good_pair good_i64 (good_pair good_i64 (good_pair good_i64 good_i64)))))))))))))) (fun _ => rfl)
theorem good_share : Good shareO := good_iso (good_pair good_i64 good_i64) (fun _ => rfl)
theorem good_shares : Good (listO .share shareO) := good_list (t := .share) good_share
theorem good_alloc : Good allocO := good_iso (good_pair good_i64 (good_pair good_res good_shares)) (fun _ => rfl)
theorem good_run : Good runO := good_iso (good_pair good_res (good_pair good_shares good_i64)) (fun _ => rfl)
theorem good_booking : Good bookingO := good_iso (good_pair good_i64 (good_pair good_i64 (good_pair good_i64 good_i64))) (fun _ => rfl)
theorem good_step : Good stepO := good_iso (good_pair good_i64 good_res) (fun _ => rfl)
theorem good_request : Good requestO := good_iso (good_pair good_i64 (good_pair good_i64 (good_pair good_i64 (good_pair good_i64 (good_pair good_i64 (good_pair good_i64 (good_pair good_res (good_pair good_i64 (good_pair good_i64 (good_pair good_deps (good_pair good_i64 (good_pair good_i64 (good_pair good_i64 good_i64))))))))))))) (fun _ => rfl)
theorem good_reply : Good replyO := good_iso (good_pair good_i64 (good_pair good_i64 (good_pair good_i64 (good_pair good_i64 good_ints)))) (fun _ => rfl)
theorem good_call : Good callO := good_iso (good_pair good_i64 good_request) (fun _ => rfl)
theorem good_entry : Good entryO := good_iso (good_pair good_i64 (good_pair good_i64 (good_pair good_request (good_pair good_reply (good_pair good_i64 good_bool))))) (fun _ => rfl)
theorem good (t : Ty) : Good (ops t) := by
 induction t with
 | int k => exact good_int k
 | bool => exact good_bool
 | str => exact good_str
 | list t ih => exact good_list ih
 | unit => exact good_unit
 | pair a b iha ihb => exact good_pair iha ihb
 | res => exact good_res
 | dep => exact good_dep
 | queue => exact good_queue
 | weights => exact good_weights
 | spec => exact good_spec
 | job => exact good_job
 | share => exact good_share
 | alloc => exact good_alloc
 | run => exact good_run
 | booking => exact good_booking
 | step => exact good_step
 | request => exact good_request
 | reply => exact good_reply
 | call => exact good_call
 | entry => exact good_entry
end NM
end Go.Proofs.YtjngkfdclcgfhaaGreatDoor
end
section
namespace Go.Proofs.YtjngkfdclcgfhaaGreatDoor
namespace NM
open AM
def lenAt (hp : NHeap) (b n : Nat) : Prop := match hp[b]? with
 | some (.live k) => k.len = n
 | some .dead => True
 | some .gone => True
 | _ => False
def Evo (hp hp' : NHeap) : Prop := ∀ b n, lenAt hp b n → lenAt hp' b n
theorem Evo.refl (hp : NHeap) : Evo hp hp := fun _ _ h => h
theorem Evo.trans {a b c : NHeap} (h : Evo a b) (g : Evo b c) : Evo a c := fun x n hx => g x n (h x n hx)
inductive RP (hp : NHeap) : NVal → AVal → Prop
 | ro {v : NVal} {a : AVal} : RI v a → RP hp v a
 | undef : RP hp .undef .undef
 | ptr (b i f : Nat) : RP hp (.ptr b i f) (.ptr b i f)
 | sl (b o l e : Nat) : RP hp (.sl b o l e) (.sl b o l e)
 | slw (b e n : Nat) : lenAt hp b n → RP hp (.slw b e) (.sl b 0 n e)
inductive RC (hp : NHeap) : NVal → AVal → Prop
 | p {v : NVal} {a : AVal} : RP hp v a → RC hp v a
 | fn (f : Nat) (cap : List NVal) (cap' : List AVal) : A2 (RP hp) cap cap' → RC hp (.fn f cap) (.fn f cap')
inductive RV (hp : NHeap) : NVal → AVal → Prop
 | c {v : NVal} {a : AVal} : RC hp v a → RV hp v a
 | agg (cs : List NVal) (ds : List AVal) : A2 (RC hp) cs ds → RV hp (.agg cs) (.agg ds)
inductive RT (hp : NHeap) : NVal → AVal → Prop
 | undef (a : AVal) : RT hp .undef a
 | v {v : NVal} {a : AVal} : RV hp v a → RT hp v a
 | tup (cs : List NVal) (ds : List AVal) : A2 (RV hp) cs ds → RT hp (.tup cs) (.tup ds)
theorem RP.mono {hp hp' : NHeap} (e : Evo hp hp') {v : NVal} {a : AVal} (h : RP hp v a) : RP hp' v a := by
 cases h with
 | ro h => exact .ro h
 | undef => exact .undef
 | ptr b i f => exact .ptr b i f
 | sl b o l k => exact .sl b o l k
 | slw b k n h => exact .slw b k n (e _ _ h)
theorem RC.mono {hp hp' : NHeap} (e : Evo hp hp') {v : NVal} {a : AVal} (h : RC hp v a) : RC hp' v a := by
 cases h with
 | p h => exact .p (h.mono e)
 | fn f c d h => exact .fn f c d (h.mono fun _ _ k => k.mono e)
theorem RV.mono {hp hp' : NHeap} (e : Evo hp hp') {v : NVal} {a : AVal} (h : RV hp v a) : RV hp' v a := by
 cases h with
 | c h => exact .c (h.mono e)
 | agg c d h => exact .agg c d (h.mono fun _ _ k => k.mono e)
theorem RT.mono {hp hp' : NHeap} (e : Evo hp hp') {v : NVal} {a : AVal} (h : RT hp v a) : RT hp' v a := by
 cases h with
 | undef a => exact .undef a
 | v h => exact .v (h.mono e)
 | tup c d h => exact .tup c d (h.mono fun _ _ k => k.mono e)
section
variable {hp : NHeap} {a : AVal}
theorem RI.c {v : NVal} (h : RI v a) : RC hp v a := .p (.ro h)
theorem RI.rv {v : NVal} (h : RI v a) : RV hp v a := .c (.p (.ro h))
theorem RI.rt {v : NVal} (h : RI v a) : RT hp v a := .v (.c (.p (.ro h)))
theorem RP.rt {v : NVal} (h : RP hp v a) : RT hp v a := .v (.c (.p h))
theorem RC.rt {v : NVal} (h : RC hp v a) : RT hp v a := .v (.c h)
theorem RT.bool_inv {b : Bool} (h : RT hp (.bool b) a) : a = .bool b := by
 cases h with | v h => cases h with | c h => cases h with | p h => cases h with | ro h => cases h; rfl
theorem RT.int_inv {k : IntKind} {n : Int} (h : RT hp (.int k n) a) : a = .int k n := by
 cases h with | v h => cases h with | c h => cases h with | p h => cases h with | ro h => cases h; rfl
theorem RT.str_inv {s : List UInt8} (h : RT hp (.str s) a) : a = .str s := by
 cases h with | v h => cases h with | c h => cases h with | p h => cases h with | ro h => cases h; rfl
theorem RT.nilp_inv (h : RT hp .nilp a) : a = .nilp := by
 cases h with | v h => cases h with | c h => cases h with | p h => cases h with | ro h => cases h; rfl
theorem RT.zsl_inv (h : RT hp .zsl a) : a = .zsl := by
 cases h with | v h => cases h with | c h => cases h with | p h => cases h with | ro h => cases h; rfl
theorem RT.nili_inv (h : RT hp .nili a) : a = .nili := by
 cases h with | v h => cases h with | c h => cases h with | p h => cases h with | ro h => cases h; rfl
theorem RT.ptr_inv {b i f : Nat} (h : RT hp (.ptr b i f) a) : a = .ptr b i f := by
 cases h with | v h => cases h with | c h => cases h with | p h => cases h with
   | ro h => cases h
   | ptr => rfl
theorem RT.sl_inv {b o l e : Nat} (h : RT hp (.sl b o l e) a) : a = .sl b o l e := by
 cases h with | v h => cases h with | c h => cases h with | p h => cases h with
   | ro h => cases h
   | sl => rfl
theorem RT.slw_inv {b e : Nat} (h : RT hp (.slw b e) a) : ∃ n, a = .sl b 0 n e ∧ lenAt hp b n := by
 cases h with | v h => cases h with | c h => cases h with | p h => cases h with
   | ro h => cases h
   | slw b e n h => exact ⟨n, rfl, h⟩
theorem RI.iptr_inv {cs : List NVal} {off : Nat} (h : RI (.iptr cs off) a) : ∃ ds, a = .iptr ds off ∧ A2 RI cs ds := by
 cases h with | iptr _ ds _ hl h => exact ⟨ds, rfl, hl, h⟩
theorem RT.iptr_inv {cs : List NVal} {off : Nat} (h : RT hp (.iptr cs off) a) : ∃ ds, a = .iptr ds off ∧ A2 RI cs ds := by
 cases h with | v h => cases h with | c h => cases h with | p h => cases h with | ro h => exact h.iptr_inv
theorem RT.lst_inv {t : Ty} {xs : List (den t)} (h : RT hp (.lst t xs) a) : RI (.lst t xs) a := by
 cases h with | v h => cases h with | c h => cases h with | p h => cases h with | ro h => exact h
theorem RT.rows_inv {e : Nat} {xs : List (List NVal)} (h : RT hp (.rows e xs) a) : RI (.rows e xs) a := by
 cases h with | v h => cases h with | c h => cases h with | p h => cases h with | ro h => exact h
theorem RC.fn_inv {f : Nat} {cap : List NVal} (h : RC hp (.fn f cap) a) : ∃ cap', a = .fn f cap' ∧ A2 (RP hp) cap cap' := by
 cases h with
 | p h => cases h with | ro h => cases h with | fn _ _ cap' hl h => exact ⟨cap', rfl, hl, fun j c d hc hd => .ro (h j c d hc hd)⟩
 | fn _ _ cap' h => exact ⟨cap', rfl, h⟩
theorem RT.fn_inv {f : Nat} {cap : List NVal} (h : RT hp (.fn f cap) a) : ∃ cap', a = .fn f cap' ∧ A2 (RP hp) cap cap' := by
 cases h with | v h => cases h with | c h => exact h.fn_inv
theorem RT.agg_inv {cs : List NVal} (h : RT hp (.agg cs) a) : ∃ ds, a = .agg ds ∧ A2 (RC hp) cs ds := by
 cases h with | v h => cases h with
   | c h => cases h with | p h => cases h with | ro h => cases h
   | agg _ ds h => exact ⟨ds, rfl, h⟩
theorem RT.tup_inv {cs : List NVal} (h : RT hp (.tup cs) a) : ∃ ds, a = .tup ds ∧ A2 (RV hp) cs ds := by
 cases h with
 | v h => cases h with | c h => cases h with | p h => cases h with | ro h => cases h
 | tup _ ds h => exact ⟨ds, rfl, h⟩
theorem RT.cell {v : NVal} (h : RT hp v a) (hv : ncellB v = true) : RC hp v a := by
 cases h with
 | undef a => simp [ncellB] at hv
 | tup c d h => simp [ncellB] at hv
 | v h => cases h with
   | c h => exact h
   | agg c d h => simp [ncellB] at hv
theorem RC.cellB {v : NVal} (h : RC hp v a) (hv : ncellB v = true) : a.cellB = true := by
 cases h with
 | fn f c d h => rfl
 | p h => cases h with
   | ro h => cases h <;> rfl
   | undef => simp [ncellB] at hv
   | ptr => rfl
   | sl => rfl
   | slw => rfl
theorem RT.cells {v : NVal} (h : RT hp v a) (hv : (ncellsOf v).all ncellB = true) : A2 (RC hp) (ncellsOf v) (cellsOf a) ∧ (cellsOf a).all AVal.cellB = true := by
 have key : ∀ {cs : List NVal} {ds : List AVal}, A2 (RC hp) cs ds → cs.all ncellB = true → ds.all AVal.cellB = true := fun hh hc => hh.all_of (fun x y hxy hx => hxy.cellB hx) hc
 by_cases hva : ∃ cs, v = .agg cs
 · obtain ⟨cs, rfl⟩ := hva
   obtain ⟨ds, rfl, hd⟩ := h.agg_inv
   exact ⟨hd, key hd hv⟩
 · have e1 : ncellsOf v = [v] := by
     cases v <;> first | rfl | exact absurd ⟨_, rfl⟩ hva
   rw [e1] at hv ⊢
   have hv1 : ncellB v = true := by simpa using hv
   have hc := h.cell hv1
   have ha := hc.cellB hv1
   have e2 : cellsOf a = [a] := by
     cases a <;> first | rfl | simp [AVal.cellB] at ha
   rw [e2]
   exact ⟨.single hc, by simpa using ha⟩
theorem RI.imm {v : NVal} (h : RI v a) (hv : nimmP v = true) : a.immP = true := by
 cases h <;> first | rfl | simp [nimmP] at hv
theorem RP.imm {v : NVal} (h : RP hp v a) (hv : nimmP v = true) : RI v a ∧ a.immP = true := by
 cases h with
 | ro h => exact ⟨h, h.imm hv⟩
 | undef => simp [nimmP] at hv
 | ptr => simp [nimmP] at hv
 | sl => simp [nimmP] at hv
 | slw => simp [nimmP] at hv
theorem RC.imm {v : NVal} (h : RC hp v a) (hv : nimmP v = true) : RI v a ∧ a.immP = true := by
 cases h with
 | p h => exact h.imm hv
 | fn => simp [nimmP] at hv
theorem ofC_rel (c : AVal) : ofC c = .undef ∨ RI (ofC c) c := by
 cases c <;> first | exact .inl rfl | exact .inr (.bool _) | exact .inr (.int _ _) | exact .inr (.str _) | exact .inr .nilp | exact .inr .zsl | exact .inr .nilfn | exact .inr .nili
theorem ofC_const {c : AVal} (h : constC c = true) : RI (ofC c) c := by
 cases c <;> first | (simp [constC] at h; done) | exact .bool _ | exact .int _ _ | exact .str _ | exact .nilp | exact .zsl | exact .nilfn | exact .nili
end
theorem nzero_rel {hp : NHeap} {zs : List AVal} {cs : List NVal} (h : nzero zs = some cs) : A2 RI cs zs := by
 unfold nzero at h
 split at h
 · rename_i hc
   cases h
   refine ⟨by simp, fun j c d hc' hd => ?_⟩
   simp only [List.getElem?_map, Option.map_eq_some_iff] at hc'
   obtain ⟨c', hc', rfl⟩ := hc'
   rw [hc'] at hd
   cases hd
   rw [List.all_eq_true] at hc
   exact ofC_const (hc _ (List.mem_of_getElem? hc'))
 · cases h
theorem ofC_rt {hp : NHeap} (c : AVal) : RT hp (ofC c) c := by
 rcases ofC_rel c with h | h
 · rw [h]; exact .undef _
 · exact h.rt
theorem nlook_rel {hp : NHeap} {tmps : List NVal} {atmps : List AVal} (h : A2 (RT hp) tmps atmps) (x : Opd) : RT hp (nlook tmps x) (AM.look atmps x) := by
 cases x with
 | tmp t => exact h.getD (.undef _) t
 | func f => exact .v (.c (.fn f [] [] .nil))
 | glob b =>
   simp only [nlook, AM.look]
   cases hb : globOf b globs with
   | none => exact .undef _
   | some cs =>
     simp only
     split
     · rename_i hc
       have hz : nzero cs = some (cs.map ofC) := by unfold nzero; rw [if_pos hc]
       have ha : A2 RI (cs.map ofC) cs := nzero_rel (hp := hp) hz
       exact (RI.iptr _ _ 0 ha.1 ha.2).rt
     · exact .undef _
 | const v =>
   simp only [nlook, AM.look]
   unfold ofV
   split
   · rename_i cs
     split
     · rename_i hc
       have hz : nzero cs = some (cs.map ofC) := by unfold nzero; rw [if_pos hc]
       exact .v (.agg _ _ ((nzero_rel (hp := hp) hz).mono fun _ _ h => h.c))
     · exact .undef _
   · exact ofC_rt _
end NM
end Go.Proofs.YtjngkfdclcgfhaaGreatDoor
end
