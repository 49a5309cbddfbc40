/-
  What the proof of SpecTexts leans on, part 17. (Many texts laid together by program.)
-/
import Derived.Test.YtjngkfdclcgfhaaGreatDoorPkTp
set_option linter.unnecessarySimpa false
set_option linter.unusedSimpArgs false
set_option linter.unusedVariables false
section
namespace Go.Proofs.YtjngkfdclcgfhaaGreatDoor
namespace NM
open AM
def keepsT (t : Nat) : NCode → Bool
 | .skip | .exit _ | .ret | .label | .goto _ => true
 | .region _ ops _ => ops.all fun o => !(o.dst == some t)
 | .seq a b => keepsT t a && keepsT t b
 | .cond _ a b => keepsT t a && keepsT t b
 | .block _ c => keepsT t c
 | .loop keep sh c => keep.contains t && sh.same.contains t && !(sh.tmps.any fun p => p.1 == t) && keepsT t c
 | .loopU keep _ c => keep.contains t && keepsT t c
 | .scope _ keep sh rest body => keep.contains t && sh.same.contains t && !(sh.tmps.any fun p => p.1 == t) && keepsT t rest && keepsT t body
 | .pre keep own c => keep.contains t && !(own.any (Adj.on t)) && keepsT t c
 | .join keep own sh c => sh.same.contains t && !(sh.tmps.any fun p => p.1 == t) && keepsT t c
 | .meet keep own sh c => sh.same.contains t && !(sh.tmps.any fun p => p.1 == t) && keepsT t c
 | .post keep own c => keep.contains t && !(own.any (Adj.on t)) && keepsT t c
 | .split _ _ _ c => keepsT t c
def chkSame (keep : List Nat) (sh : LSh) (c : NCode) : Bool := sh.same.all fun t => keep.contains t && !(sh.tmps.any fun p => p.1 == t) && keepsT t c
def chkN (P : Program) : NCode → Code → Bool
 | .skip, .skip => true
 | .region _ al _, .region _ ops d => if d then chkDraw P ops al else all2 (chkOper P ops) ops.toList al
 | .seq a b, .seq a' b' => chkN P a a' && chkN P b b'
 | .cond c a b, .cond c' a' b' => chkOpd c' c && chkN P a a' && chkN P b b'
 | .block id c, .block id' c' => id == id' && chkN P c c'
 | .loop keep sh c, .loop c' => chkSame keep sh c && chkN P c c'
 | .loopU _ _ c, .loop c' => chkN P c c'
 | .exit id, .exit id' => id == id'
 | .ret, .ret => true
 | .label, .label _ => true
 | .goto l, .goto l' => l == l'
 | .scope l keep sh rest body, .scope c => chkSame keep sh rest && chkN P body c && (match findLabel c l with | some r => chkN P rest r | none => false)
 | .pre _ _ c, c' => chkN P c c'
 | .post _ _ c, c' => chkN P c c'
 | .split _ _ _ c, c' => chkN P c c'
 | .join keep own sh c, c' => chkSame keep sh c && sh.same.all (fun t => !(own.any (Adj.on t))) && chkN P c c'
 | .meet keep own sh c, c' => chkSame keep sh c && sh.same.all (fun t => !(own.any (Adj.on t))) && chkN P c c'
 | _, _ => false
def LN (N : Nat) : Lp := fun f s => loopN f N s
section
variable {P : Program} {K : Oracle} {N : Nat} {T : List Ent}
structure Fr (nc : NCode) (st st' : NSt) : Prop where
 len : st'.tmps.length = st.tmps.length
 same : ∀ t, keepsT t nc = true → nplain (st.tmps.getD t .undef) = true → st'.tmps.getD t .undef = st.tmps.getD t .undef
def NEnds (μ : Nat → AM.Loc) (w : World) (S : Nat → Prop) (k : Nat) (st' : NSt) (Q : Act → World → Prop) : Prop :=
 ∀ a' w' μ1 S1, NRep μ1 w' S1 st' a' → Ext μ S w μ1 S1 w' → KeepsK k μ μ1 → st'.k = k → Q a' w'
def NSound (P : Program) (T : List Ent) (N : Nat) (c : Code) (nc : NCode) : Prop :=
 ∀ (ω : Type) (st : NSt) (k : AExit → NSt → Option ω) (r : ω) (a : Act) (w : World) (μ : Nat → AM.Loc) (S : Nat → Prop) (Q : Exit → Act → World → Prop), NRep μ w S st a → nexec T (LN N) nc st k = some r →
   (∀ e st', k e st' = some r → Fr nc st st' → NEnds μ w S st.k st' (Q (exitOf e))) → c.wp P Q a w
theorem nregion_sound (hK : Valid P K) (hT : ∀ e ∈ T, EntOk K e) (hmix : P.follows .mixedOrders = true) {id ids : Nat} {ops : Array Oper} {al : List AOper} {hints : List Hint} {d : Bool} (hc : (if d then chkDraw P ops al else all2 (chkOper P ops) ops.toList al) = true) : NSound P T N (.region id ops d) (.region ids al hints) := by
 intro ω st k r a w μ S Q rep h hq
 obtain ⟨ast, hs, hg, rep⟩ := rep
 simp only [nexec] at h
 have hev : Evo st.heap (st.heap ++ List.replicate ids .free) := evo_append _
 have hs' : SR ⟨st.tmps, st.heap ++ List.replicate ids .free, st.k⟩ ⟨ast.tmps, ast.heap ++ List.replicate ids .free, ast.k⟩ :=
   ⟨hs.tmps.mono fun _ _ h => h.mono hev, (A2.mono (fun _ _ h => h.mono hev) hs.heap).append (A2.replicate ids .free), hs.k⟩
 obtain ⟨st1, ast1, h1, h2, h3, h4, h5, h6⟩ := nops_sound hT hs' h
 have rep' : Rep μ w S ⟨ast.tmps, ast.heap ++ List.replicate ids .free, ast.k⟩ a := ⟨rep.tmps, rep.heap.more ids⟩
 have fin : ∀ a' w' μ1 S1, Rep μ1 w' S1 ast1 a' → Ext μ S w μ1 S1 w' → Up μ μ1 → ast1.k = ast.k → Q .normal a' w' := fun a' w' μ1 S1 r1 x u hk => by
   obtain ⟨μ2, S2, rep2, x2, u2⟩ := nshut_rep h2 r1
   refine hq .normal ⟨st1.tmps, nshut st1.heap, st1.k⟩ h3 ⟨h6, fun t ht hp => h4 t fun o ho => ?_⟩ a' w' μ2 S2 rep2 (x.trans x2) (.of_up (u.trans u2)) h5
   simp only [keepsT, List.all_eq_true] at ht
   have := ht o ho
   simpa using this
 rw [hs.heap.1] at h1
 cases d with
 | true => exact draw_sound hK hmix hc rep' h1 fin
 | false => exact wp_region_list (runOps_sound hK ops.toList al _ ast1 a w μ S hc rep' h1 fin)
theorem nseq_sound {x y : Code} {x' y' : NCode} (hx : NSound P T N x x') (hy : NSound P T N y y') : NSound P T N (.seq x y) (.seq x' y') := by
 intro ω st k r a w μ S Q rep h hq
 simp only [nexec] at h
 refine wp_seq (hx ω st _ r a w μ S _ rep h fun e st1 hk fr a1 w1 μ1 S1 r1 x1 k1 hk1 => ?_)
 cases e with
 | normal =>
   simp only at hk
   refine hy ω st1 k r a1 w1 μ1 S1 Q r1 hk fun e2 st2 hk2 fr2 a2 w2 μ2 S2 r2 x2 k2 hk3 => ?_
   rw [hk1] at k2 hk3
   refine hq e2 st2 hk2 ⟨fr2.len.trans fr.len, fun t ht hp => ?_⟩ a2 w2 μ2 S2 r2 (x1.trans x2) (k1.trans k2) hk3
   simp only [keepsT, Bool.and_eq_true] at ht
   have e1 := fr.same t ht.1 hp
   exact (fr2.same t ht.2 (by rw [e1]; exact hp)).trans e1
 | exit i => exact hq _ st1 hk ⟨fr.len, fun t ht hp => fr.same t (by simp only [keepsT, Bool.and_eq_true] at ht; exact ht.1) hp⟩ a1 w1 μ1 S1 r1 x1 k1 hk1
 | ret => exact hq _ st1 hk ⟨fr.len, fun t ht hp => fr.same t (by simp only [keepsT, Bool.and_eq_true] at ht; exact ht.1) hp⟩ a1 w1 μ1 S1 r1 x1 k1 hk1
 | goto l => exact hq _ st1 hk ⟨fr.len, fun t ht hp => fr.same t (by simp only [keepsT, Bool.and_eq_true] at ht; exact ht.1) hp⟩ a1 w1 μ1 S1 r1 x1 k1 hk1
theorem nlit_same {tmps : List NVal} {c : Opd} {b : Bool} (h : nlook tmps c = .bool b) : nlit tmps c b = tmps := by
 cases c with
 | tmp t => exact set_same h (by simp)
 | _ => rfl
theorem ncond_sound {c : Operand} {c' : Opd} {x y : Code} {x' y' : NCode} (hc : chkOpd c c' = true) (hx : NSound P T N x x') (hy : NSound P T N y y') : NSound P T N (.cond c x y) (.cond c' x' y') := by
 intro ω st k r a w μ S Q rep h hq
 simp only [nexec] at h
 split at h
 · rename_i t ht
   have hv : VR μ w S (.bool t) (a.eval c) := by
     obtain ⟨ast, hs, hg, rep⟩ := rep
     have h1 := nlook_rel hs.tmps c'
     rw [ht] at h1
     rw [← h1.bool_inv]
     exact rep.tmps.look rep.heap.gl hc
   refine wp_cond (t := t) hv.bool_inv ?_
   cases t with
   | true =>
     simp only [cond_true] at h
     rw [nlit_same ht] at h
     exact hx ω st k r a w μ S Q rep h fun e st1 hk fr => hq e st1 hk ⟨fr.len, fun t ht hp => fr.same t (by simp only [keepsT, Bool.and_eq_true] at ht; exact ht.1) hp⟩
   | false =>
     simp only [cond_false] at h
     rw [nlit_same ht] at h
     exact hy ω st k r a w μ S Q rep h fun e st1 hk fr => hq e st1 hk ⟨fr.len, fun t ht hp => fr.same t (by simp only [keepsT, Bool.and_eq_true] at ht; exact ht.2) hp⟩
 · cases h
theorem nblock_sound {id : Nat} {c : Code} {c' : NCode} (hc : NSound P T N c c') : NSound P T N (.block id c) (.block id c') := by
 intro ω st k r a w μ S Q rep h hq
 simp only [nexec] at h
 refine wp_block (hc ω st _ r a w μ S _ rep h fun e st1 hk fr a1 w1 μ1 S1 r1 x1 k1 hk1 => ?_)
 have fr' : Fr (.block id c') st st1 := ⟨fr.len, fun t ht hp => fr.same t ht hp⟩
 cases e with
 | exit i =>
   simp only at hk
   simp only [exitOf, Exit.inBlock]
   split at hk
   · rename_i hi
     rw [if_pos hi]
     exact hq .normal st1 hk fr' a1 w1 μ1 S1 r1 x1 k1 hk1
   · rename_i hi
     rw [if_neg hi]
     exact hq (.exit i) st1 hk fr' a1 w1 μ1 S1 r1 x1 k1 hk1
 | normal => exact hq .normal st1 hk fr' a1 w1 μ1 S1 r1 x1 k1 hk1
 | ret => exact hq .ret st1 hk fr' a1 w1 μ1 S1 r1 x1 k1 hk1
 | goto l => exact hq (.goto l) st1 hk fr' a1 w1 μ1 S1 r1 x1 k1 hk1
theorem getL0_some {sh : LSh} {st : NSt} {x : sh.den} (h : getL0 sh st = some x) : getL sh st = some x ∧ ∀ t, sh.same.contains t = true → nplain (st.tmps.getD t .undef) = true := by
 unfold getL0 at h
 split at h
 · rename_i hs
   refine ⟨h, fun t ht => ?_⟩
   simp only [samesB, List.all_eq_true] at hs
   exact hs t (by simpa using ht)
 · cases h
theorem chkSame_get {keep : List Nat} {sh : LSh} {c : NCode} (h : chkSame keep sh c = true) {t : Nat} (ht : sh.same.contains t = true) : keep.contains t = true ∧ sh.tmps.any (fun p => p.1 == t) = false ∧ keepsT t c = true := by
 simp only [chkSame, List.all_eq_true] at h
 have := h t (by simpa using ht)
 simp only [Bool.and_eq_true, Bool.not_eq_true'] at this
 exact ⟨this.1.1, this.1.2, this.2⟩
theorem head_again {keep : List Nat} {sh : LSh} {c : NCode} (hch : chkSame keep sh c = true) {s0 s s' : NSt} {x x' : sh.den} {a : Act} {w : World} {μ : Nat → AM.Loc} {S : Nat → Prop} (hp0 : ∀ t, sh.same.contains t = true → nplain (s0.tmps.getD t .undef) = true)
   (fr : Fr c (putL sh s0 x) s) (hk : s.k = s0.k) (rep : NRep μ w S s a) (hn : nnorm keep s = some s') (hg : getL sh s' = some x') :
   ∃ μ1, NRep μ1 w S (putL sh s0 x') a ∧ Ext μ S w μ1 S w ∧ KeepsK s0.k μ μ1 := by
 obtain ⟨μ1, r1, x1, k1, e1, e2, e3⟩ := nnorm_rep rep hn
 rw [hk] at k1 e1
 refine ⟨μ1, putL_rep r1 hg e1 (e2.trans (fr.len.trans putL_length)) fun t ht => ?_, x1, k1⟩
 obtain ⟨c1, c2, c3⟩ := chkSame_get hch ht
 have f0 := putL_frame (st0 := s0) (x := x) ht c2
 have f1 := fr.same t c3 (by rw [f0]; exact hp0 t ht)
 rw [f0] at f1
 rw [e3 t c1 (by rw [f1]; exact hp0 t ht), f1]
theorem nloop_sound {keep : List Nat} {sh : LSh} {c : Code} {c' : NCode} (hch : chkSame keep sh c' = true) (hc : NSound P T N c c') : NSound P T N (.loop c) (.loop keep sh c') := by
 intro ω st k r a w μ S Q rep h hq
 simp only [nexec] at h
 split at h
 · rename_i s0 hn
   split at h
   · rename_i x hx
     obtain ⟨hx, hp0⟩ := getL0_some hx
     obtain ⟨μ0, r0, x0, k0, e1, e2, e3⟩ := nnorm_rep rep hn
     have hk0 : s0.k = st.k := e1
     have r0' : NRep μ0 w S (putL sh s0 x) a := putL_rep r0 hx rfl rfl fun _ _ => rfl
     have h : loopN (fun x next => nexec T (LN N) c' (putL sh s0 x) (headK keep sh next k)) N x = some r := h
     have key : ∀ (n : Nat) (x : sh.den) (a : Act) (w' : World) (μ1 : Nat → AM.Loc) (S1 : Nat → Prop), NRep μ1 w' S1 (putL sh s0 x) a → Ext μ S w μ1 S1 w' → KeepsK st.k μ μ1 →
         loopN (fun x next => nexec T (LN N) c' (putL sh s0 x) (headK keep sh next k)) n x = some r → Code.rounds P c Q n a w' := by
       intro n
       induction n with
       | zero => intro x a w' μ1 S1 _ _ _ h; simp [loopN] at h
       | succ n ih =>
         intro x a w1 μ1 S1 r1 x1 k1 h
         simp only [loopN] at h
         rw [rounds_succ]
         refine hc ω _ _ r a w1 μ1 S1 _ r1 h fun e s hk fr a2 w2 μ2 S2 r2 x2 k2 hk2 => ?_
         have hk2' : s.k = s0.k := hk2
         have k2' : KeepsK st.k μ1 μ2 := by rw [← hk0]; exact k2
         have fr' : Fr (.loop keep sh c') st s := ⟨fr.len.trans (putL_length.trans e2), fun t ht hp => by
           simp only [keepsT, Bool.and_eq_true, Bool.not_eq_true'] at ht
           obtain ⟨⟨⟨c1, c2⟩, c3⟩, c4⟩ := ht
           have f0 := e3 t c1 hp
           have f1 := putL_frame (st0 := s0) (x := x) c2 c3
           rw [f0] at f1
           rw [fr.same t c4 (by rw [f1]; exact hp), f1]⟩
         cases e with
         | normal =>
           simp only [headK] at hk
           split at hk
           · rename_i s' hs'
             rw [Option.bind_eq_some_iff] at hk
             obtain ⟨x', hx', hk⟩ := hk
             obtain ⟨μ3, r3, x3, k3⟩ := head_again hch hp0 fr hk2' r2 hs' hx'
             exact ih x' a2 w2 μ3 S2 r3 ((x1.trans x2).trans x3) ((k1.trans k2').trans (by rw [← hk0]; exact k3)) hk
           · cases hk
         | exit i => exact hq (.exit i) s hk fr' a2 w2 μ2 S2 r2 (x1.trans x2) (k1.trans k2') (hk2'.trans hk0)
         | ret => exact hq .ret s hk fr' a2 w2 μ2 S2 r2 (x1.trans x2) (k1.trans k2') (hk2'.trans hk0)
         | goto l => exact hq (.goto l) s hk fr' a2 w2 μ2 S2 r2 (x1.trans x2) (k1.trans k2') (hk2'.trans hk0)
     exact wp_loop_rounds N (key N x a w μ0 S r0' x0 k0 h)
   · cases h
 · cases h
theorem nloopU_sound {keep : List Nat} {n : Nat} {c : Code} {c' : NCode} (hc : NSound P T N c c') : NSound P T N (.loop c) (.loopU keep n c') := by
 intro ω st k r a w μ S Q rep h hq
 simp only [nexec] at h
 have key : ∀ (n : Nat) (s : NSt) (a : Act) (w' : World) (μ1 : Nat → AM.Loc) (S1 : Nat → Prop), NRep μ1 w' S1 s a → Ext μ S w μ1 S1 w' → KeepsK st.k μ μ1 → s.k = st.k → Fr (.loopU keep 0 c') st s →
     unroll keep (nexec T (LN N) c') n s k = some r → Code.rounds P c Q n a w' := by
   intro n
   induction n with
   | zero => intro s a w' μ1 S1 _ _ _ _ _ h; simp [unroll] at h
   | succ n ih =>
     intro s a w1 μ1 S1 r1 x1 k1 hk1 fr1 h
     simp only [unroll] at h
     split at h
     · rename_i s1 hn
       obtain ⟨μ0, r0, x0, k0, e1, e2, e3⟩ := nnorm_rep r1 hn
       rw [hk1] at k0 e1
       rw [rounds_succ]
       refine hc ω _ _ r a w1 μ0 S1 _ r0 h fun e s2 hk fr a2 w2 μ2 S2 r2 x2 k2 hk2 => ?_
       rw [e1] at k2 hk2
       have fr2 : ∀ nn, Fr (.loopU keep nn c') st s2 := fun nn => ⟨fr.len.trans (e2.trans fr1.len), fun t ht hp => by
         have f1 := fr1.same t ht hp
         simp only [keepsT, Bool.and_eq_true] at ht
         have f2 := e3 t ht.1 (by rw [f1]; exact hp)
         rw [f1] at f2
         rw [fr.same t ht.2 (by rw [f2]; exact hp), f2]⟩
       have x3 := (x1.trans x0).trans x2
       have k3 := (k1.trans k0).trans k2
       cases e with
       | normal => exact ih s2 a2 w2 μ2 S2 r2 x3 k3 hk2 (fr2 0) hk
       | exit i => exact hq (.exit i) s2 hk ⟨(fr2 0).len, (fr2 0).same⟩ a2 w2 μ2 S2 r2 x3 k3 hk2
       | ret => exact hq .ret s2 hk ⟨(fr2 0).len, (fr2 0).same⟩ a2 w2 μ2 S2 r2 x3 k3 hk2
       | goto l => exact hq (.goto l) s2 hk ⟨(fr2 0).len, (fr2 0).same⟩ a2 w2 μ2 S2 r2 x3 k3 hk2
     · cases h
 exact wp_loop_rounds n (key n st a w μ S rep (.refl _ _ _) (.refl _ _) rfl ⟨rfl, fun _ _ _ => rfl⟩ h)
theorem nscope_sound {l : Nat} {keep : List Nat} {sh : LSh} {c r : Code} {rest body : NCode} (hf : findLabel c l = some r) (hch : chkSame keep sh rest = true) (hr : NSound P T N r rest) (hb : NSound P T N c body) : NSound P T N (.scope c) (.scope l keep sh rest body) := by
 intro ω st k res a w μ S Q rep h hq
 simp only [nexec] at h
 refine wp_scope_passes l N hf (hb ω st _ res a w μ S _ rep h fun e s hk fr a1 w1 μ1 S1 r1 x1 k1 hk1 => ?_)
 have fr' : Fr (.scope l keep sh rest body) st s := ⟨fr.len, fun t ht hp => fr.same t (by simp only [keepsT, Bool.and_eq_true] at ht; exact ht.2) hp⟩
 cases e with
 | goto l' =>
   simp only [scopeK] at hk
   split at hk
   · rename_i hl
     refine ⟨hl, ?_⟩
     split at hk
     · rename_i s0 hn
       split at hk
       · rename_i x hx
         obtain ⟨hx, hp0⟩ := getL0_some hx
         obtain ⟨μ0, r0, x0, k0, e1, e2, e3⟩ := nnorm_rep r1 hn
         rw [hk1] at e1 k0
         have r0' : NRep μ0 w1 S1 (putL sh s0 x) a1 := putL_rep r0 hx rfl rfl fun _ _ => rfl
         have hk : loopN (fun x next => nexec T (LN N) rest (putL sh s0 x) (goK l keep sh next k)) N x = some res := hk
         have key : ∀ (n : Nat) (x : sh.den) (a : Act) (w' : World) (μ1 : Nat → AM.Loc) (S1 : Nat → Prop), NRep μ1 w' S1 (putL sh s0 x) a → Ext μ S w μ1 S1 w' → KeepsK st.k μ μ1 →
             loopN (fun x next => nexec T (LN N) rest (putL sh s0 x) (goK l keep sh next k)) n x = some res → passes P l r Q n a w' := by
           intro n
           induction n with
           | zero => intro x a w' μ1 S1 _ _ _ h; simp [loopN] at h
           | succ n ih =>
             intro x a w1 μ1 S1 r1 x1 k1 h
             simp only [loopN] at h
             show r.wp P _ a w1
             refine hr ω _ _ res a w1 μ1 S1 _ r1 h fun e s2 hk fr2 a2 w2 μ2 S2 r2 x2 k2 hk2 => ?_
             have hk2' : s2.k = s0.k := hk2
             have k2' : KeepsK st.k μ1 μ2 := by rw [← e1]; exact k2
             have fr3 : Fr (.scope l keep sh rest body) st s2 := ⟨fr2.len.trans (putL_length.trans (e2.trans fr.len)), fun t ht hp => by
               have g1 := fr'.same t ht hp
               simp only [keepsT, Bool.and_eq_true, Bool.not_eq_true'] at ht
               obtain ⟨⟨⟨⟨c1, c2⟩, c3⟩, c4⟩, c5⟩ := ht
               have f0 := e3 t c1 (by rw [g1]; exact hp)
               rw [g1] at f0
               have f1 := putL_frame (st0 := s0) (x := x) c2 c3
               rw [f0] at f1
               rw [fr2.same t c4 (by rw [f1]; exact hp), f1]⟩
             cases e with
             | goto l2 =>
               simp only [goK] at hk
               split at hk
               · rename_i hl2
                 split at hk
                 · rename_i s' hs'
                   rw [Option.bind_eq_some_iff] at hk
                   obtain ⟨x', hx', hk⟩ := hk
                   obtain ⟨μ3, r3, x3, k3⟩ := head_again hch hp0 fr2 hk2' r2 hs' hx'
                   exact ⟨hl2, ih x' a2 w2 μ3 S2 r3 ((x1.trans x2).trans x3) ((k1.trans k2').trans (by rw [← e1]; exact k3)) hk⟩
                 · cases hk
               · cases hk
             | exit i => exact hq (.exit i) s2 hk fr3 a2 w2 μ2 S2 r2 (x1.trans x2) (k1.trans k2') (hk2'.trans e1)
             | ret => exact hq .ret s2 hk fr3 a2 w2 μ2 S2 r2 (x1.trans x2) (k1.trans k2') (hk2'.trans e1)
             | normal => exact hq .normal s2 hk fr3 a2 w2 μ2 S2 r2 (x1.trans x2) (k1.trans k2') (hk2'.trans e1)
         exact key N x a1 w1 μ0 S1 r0' (x1.trans x0) (k1.trans k0) hk
       · cases hk
     · cases hk
   · cases hk
 | exit i => exact hq (.exit i) s hk fr' a1 w1 μ1 S1 r1 x1 k1 hk1
 | ret => exact hq .ret s hk fr' a1 w1 μ1 S1 r1 x1 k1 hk1
 | normal => exact hq .normal s hk fr' a1 w1 μ1 S1 r1 x1 k1 hk1
theorem tidy {keep : List Nat} {own : List Adj} {st s : NSt} {a : Act} {w : World} {μ : Nat → AM.Loc} {S : Nat → Prop} (rep : NRep μ w S st a) (h : nnorm keep (nadj own st) = some s) :
   ∃ μ1 S1, NRep μ1 w S1 s a ∧ Ext μ S w μ1 S1 w ∧ KeepsK st.k μ μ1 ∧ s.k = st.k ∧ s.tmps.length = st.tmps.length ∧
     ∀ t, keep.contains t = true → own.any (Adj.on t) = false → nplain (st.tmps.getD t .undef) = true → s.tmps.getD t .undef = st.tmps.getD t .undef := by
 obtain ⟨μ1, S1, r1, x1, k1, e1, e2, e3⟩ := nadj_rep (own := own) rep
 obtain ⟨μ2, r2, x2, k2, f1, f2, f3⟩ := nnorm_rep r1 h
 rw [e1] at k2 f1
 refine ⟨μ2, S1, r2, x1.trans x2, k1.trans k2, f1, f2.trans e2, fun t h1 h2 h3 => ?_⟩
 have g := e3 t h2
 rw [f3 t h1 (by rw [g]; exact h3), g]
theorem npre_sound {keep : List Nat} {own : List Adj} {c : Code} {c' : NCode} (hc : NSound P T N c c') : NSound P T N c (.pre keep own c') := by
 intro ω st k r a w μ S Q rep h hq
 simp only [nexec] at h
 split at h
 · rename_i s hs
   obtain ⟨μ1, S0, r1, x1, k1, e1, e2, e3⟩ := tidy rep hs
   refine hc ω s k r a w μ1 S0 Q r1 h fun e st1 hk fr a1 w1 μ2 S1 r2 x2 k2 hk1 => ?_
   rw [e1] at k2 hk1
   refine hq e st1 hk ⟨fr.len.trans e2, fun t ht hp => ?_⟩ a1 w1 μ2 S1 r2 (x1.trans x2) (k1.trans k2) hk1
   simp only [keepsT, Bool.and_eq_true, Bool.not_eq_true'] at ht
   have f := e3 t ht.1.1 ht.1.2 hp
   rw [fr.same t ht.2 (by rw [f]; exact hp), f]
 · cases h
theorem set_self {α : Type} {l : List α} {i : Nat} {x : α} (h : l[i]? = some x) : l.set i x = l := by
 apply List.ext_getElem?
 intro j
 rw [List.getElem?_set]
 split
 · rename_i e
   subst e
   split
   · exact h.symm
   · rename_i hl
     rw [List.getElem?_eq_none (by omega)] at h
     cases h
 · rfl
theorem nsplit_sound' {t f n : Nat} {c : Code} {c' : NCode} (hc : NSound P T N c c') : NSound P T N c (.split t f n c') := by
 intro ω st k r a w μ S Q rep h hq
 simp only [nexec] at h
 split at h
 · split at h
   · rename_i b _ _ _ e row hg
     split at h
     · rename_i kd i hr
       obtain ⟨j, hj, h⟩ := oneOf_inv h
       rw [← hj, set_self hr, set_self (nget_iff.1 hg)] at h
       exact hc ω st k r a w μ S Q rep h fun e st' hk fr => hq e st' hk ⟨fr.len, fr.same⟩
     · cases h
   · cases h
 · cases h
theorem npost_sound {keep : List Nat} {own : List Adj} {c : Code} {c' : NCode} (hc : NSound P T N c c') : NSound P T N c (.post keep own c') := by
 intro ω st k r a w μ S Q rep h hq
 simp only [nexec] at h
 refine hc ω st _ r a w μ S Q rep h fun e st1 hk fr a1 w1 μ1 S1 r1 x1 k1 hk1 => ?_
 have fr' : Fr (.post keep own c') st st1 := ⟨fr.len, fun t ht hp => fr.same t (by simp only [keepsT, Bool.and_eq_true] at ht; exact ht.2) hp⟩
 cases e with
 | normal =>
   simp only at hk
   split at hk
   · rename_i s hs
     obtain ⟨μ2, S2, r2, x2, k2, e1, e2, e3⟩ := tidy r1 hs
     rw [hk1] at k2 e1
     refine hq .normal s hk ⟨e2.trans fr.len, fun t ht hp => ?_⟩ a1 w1 μ2 S2 r2 (x1.trans x2) (k1.trans k2) e1
     have f := fr'.same t ht hp
     simp only [keepsT, Bool.and_eq_true, Bool.not_eq_true'] at ht
     rw [e3 t ht.1.1 ht.1.2 (by rw [f]; exact hp), f]
   · cases hk
 | exit i => exact hq (.exit i) st1 hk fr' a1 w1 μ1 S1 r1 x1 k1 hk1
 | ret => exact hq .ret st1 hk fr' a1 w1 μ1 S1 r1 x1 k1 hk1
 | goto l => exact hq (.goto l) st1 hk fr' a1 w1 μ1 S1 r1 x1 k1 hk1
theorem njoin_sound {keep : List Nat} {own : List Adj} {sh : LSh} {c : Code} {c' : NCode} (hch : chkSame keep sh c' = true) (hown : sh.same.all (fun t => !(own.any (Adj.on t))) = true) (hc : NSound P T N c c') : NSound P T N c (.join keep own sh c') := by
 intro ω st k r a w μ S Q rep h hq
 simp only [nexec] at h
 split at h
 · rename_i hsame
   rw [Option.bind_eq_some_iff] at h
   obtain ⟨r', h, hg⟩ := h
   have hp0 : ∀ t, sh.same.contains t = true → nplain (st.tmps.getD t .undef) = true := fun t ht => by
     simp only [samesB, List.all_eq_true] at hsame
     exact hsame t (by simpa using ht)
   refine hc _ st _ r' a w μ S Q rep h fun e st1 hk fr a1 w1 μ1 S1 r1 x1 k1 hk1 => ?_
   have fr' : Fr (.join keep own sh c') st st1 := ⟨fr.len, fun t ht hp => fr.same t (by simp only [keepsT, Bool.and_eq_true] at ht; exact ht.2) hp⟩
   have other : ∀ e, (k e st1).map Sum.inr = some r' → k e st1 = some r := fun e he => by
     rw [Option.map_eq_some_iff] at he
     obtain ⟨y, hy, rfl⟩ := he
     simp only [Sum.elim_inr, Option.some.injEq] at hg
     rw [hy, hg]
   cases e with
   | normal =>
     simp only at hk
     split at hk
     · rename_i s hs
       rw [Option.bind_eq_some_iff] at hk
       obtain ⟨x, hx, hk⟩ := hk
       cases hk
       simp only [Sum.elim_inl] at hg
       obtain ⟨μ2, S2, r2, x2, k2, e1, e2, e3⟩ := tidy r1 hs
       rw [hk1] at k2 e1
       have r3 : NRep μ2 w1 S2 (putL sh st x) a1 := putL_rep r2 hx e1 (e2.trans fr.len) fun t ht => by
         obtain ⟨c1, c2, c3⟩ := chkSame_get hch ht
         have c4 : own.any (Adj.on t) = false := by
           rw [List.all_eq_true] at hown
           have := hown t (by simpa using ht)
           simpa only [Bool.not_eq_true'] using this
         have f := fr.same t c3 (hp0 t ht)
         rw [e3 t c1 c4 (by rw [f]; exact hp0 t ht), f]
       refine hq .normal _ hg ⟨putL_length, fun t ht hp => ?_⟩ a1 w1 μ2 S2 r3 (x1.trans x2) (k1.trans k2) rfl
       simp only [keepsT, Bool.and_eq_true, Bool.not_eq_true'] at ht
       exact putL_frame ht.1.1 ht.1.2
     · cases hk
   | exit i => exact hq (.exit i) st1 (other _ hk) fr' a1 w1 μ1 S1 r1 x1 k1 hk1
   | ret => exact hq .ret st1 (other _ hk) fr' a1 w1 μ1 S1 r1 x1 k1 hk1
   | goto l => exact hq (.goto l) st1 (other _ hk) fr' a1 w1 μ1 S1 r1 x1 k1 hk1
 · cases h
theorem nmeet_sound {keep : List Nat} {own : List Adj} {sh : LSh} {c : Code} {c' : NCode} (hch : chkSame keep sh c' = true) (hown : sh.same.all (fun t => !(own.any (Adj.on t))) = true) (hc : NSound P T N c c') : NSound P T N c (.meet keep own sh c') := by
 intro ω st k r a w μ S Q rep h hq
 simp only [nexec] at h
 split at h
 · rename_i hsame
   rw [Option.bind_eq_some_iff] at h
   obtain ⟨x, h, hg⟩ := h
   have hp0 : ∀ t, sh.same.contains t = true → nplain (st.tmps.getD t .undef) = true := fun t ht => by
     simp only [samesB, List.all_eq_true] at hsame
     exact hsame t (by simpa using ht)
   refine hc _ st _ x a w μ S Q rep h fun e st1 hk fr a1 w1 μ1 S1 r1 x1 k1 hk1 => ?_
   have fr' : Fr (.meet keep own sh c') st st1 := ⟨fr.len, fun t ht hp => fr.same t (by simp only [keepsT, Bool.and_eq_true] at ht; exact ht.2) hp⟩
   cases e with
   | normal =>
     simp only at hk
     split at hk
     · rename_i s hs
       have hx := hk
       obtain ⟨μ2, S2, r2, x2, k2, e1, e2, e3⟩ := tidy r1 hs
       rw [hk1] at k2 e1
       have r3 : NRep μ2 w1 S2 (putL sh st x) a1 := putL_rep r2 hx e1 (e2.trans fr.len) fun t ht => by
         obtain ⟨c1, c2, c3⟩ := chkSame_get hch ht
         have c4 : own.any (Adj.on t) = false := by
           rw [List.all_eq_true] at hown
           have := hown t (by simpa using ht)
           simpa only [Bool.not_eq_true'] using this
         have f := fr.same t c3 (hp0 t ht)
         rw [e3 t c1 c4 (by rw [f]; exact hp0 t ht), f]
       refine hq .normal _ hg ⟨putL_length, fun t ht hp => ?_⟩ a1 w1 μ2 S2 r3 (x1.trans x2) (k1.trans k2) rfl
       simp only [keepsT, Bool.and_eq_true, Bool.not_eq_true'] at ht
       exact putL_frame ht.1.1 ht.1.2
     · cases hk
   | exit i => cases hk
   | ret => cases hk
   | goto l => cases hk
 · cases h
theorem nleaf_sound {c : Code} {c' : NCode} {e : AExit} (hx : ∀ {ω : Type} (st : NSt) (k : AExit → NSt → Option ω), nexec T (LN N) c' st k = k e st) (hw : ∀ (Q : Exit → Act → World → Prop) (a : Act) (w : World), Q (exitOf e) a w → c.wp P Q a w) : NSound P T N c c' := by
 intro ω st k r a w μ S Q rep h hq
 rw [hx] at h
 exact hw Q a w (hq e st h ⟨rfl, fun _ _ _ => rfl⟩ a w μ S rep (.refl _ _ _) (.refl _ _) rfl)
theorem ncode_sound (hK : Valid P K) (hT : ∀ e ∈ T, EntOk K e) (hmix : P.follows .mixedOrders = true) : ∀ (nc : NCode) (c : Code), chkN P nc c = true → NSound P T N c nc := by
 intro nc
 induction nc with
 | skip => intro c h; cases c <;> simp [chkN] at h; exact nleaf_sound (e := .normal) (fun _ _ => by simp only [nexec]) (fun _ _ _ h => wp_skip h)
 | region ids al hints => intro c h; cases c <;> first | (exact nregion_sound hK hT hmix h) | (simp [chkN] at h)
 | seq a b iha ihb => intro c h; cases c <;> simp [chkN] at h; exact nseq_sound (iha _ h.1) (ihb _ h.2)
 | cond c a b iha ihb => intro c h; cases c <;> simp [chkN] at h; exact ncond_sound h.1.1 (iha _ h.1.2) (ihb _ h.2)
 | block id b ih => intro c h; cases c <;> simp [chkN] at h; obtain ⟨rfl, h⟩ := h; exact nblock_sound (ih _ h)
 | loop keep sh b ih => intro c h; cases c <;> simp [chkN] at h; exact nloop_sound h.1 (ih _ h.2)
 | loopU keep n b ih => intro c h; cases c <;> simp [chkN] at h; exact nloopU_sound (ih _ h)
 | exit id => intro c h; cases c <;> simp [chkN] at h; subst h; exact nleaf_sound (e := .exit id) (fun _ _ => by simp only [nexec]) (fun _ _ _ h => wp_exit h)
 | ret => intro c h; cases c <;> simp [chkN] at h; exact nleaf_sound (e := .ret) (fun _ _ => by simp only [nexec]) (fun _ _ _ h => wp_ret h)
 | label => intro c h; cases c <;> simp [chkN] at h; exact nleaf_sound (e := .normal) (fun _ _ => by simp only [nexec]) (fun _ _ _ h => wp_label h)
 | goto l => intro c h; cases c <;> simp [chkN] at h; subst h; exact nleaf_sound (e := .goto l) (fun _ _ => by simp only [nexec]) (fun _ _ _ h => wp_goto h)
 | scope l keep sh rest body ihr ihb =>
   intro c h
   cases c <;> try (simp [chkN] at h; done)
   rename_i c0
   simp only [chkN, Bool.and_eq_true] at h
   obtain ⟨⟨h1, h2⟩, h3⟩ := h
   split at h3
   · rename_i r hf
     exact nscope_sound hf h1 (ihr _ h3) (ihb _ h2)
   · cases h3
 | pre keep own b ih => intro c h; simp only [chkN] at h; exact npre_sound (ih _ h)
 | join keep own sh b ih => intro c h; simp only [chkN, Bool.and_eq_true] at h; exact njoin_sound h.1.1 h.1.2 (ih _ h.2)
 | meet keep own sh b ih => intro c h; simp only [chkN, Bool.and_eq_true] at h; exact nmeet_sound h.1.1 h.1.2 (ih _ h.2)
 | post keep own b ih => intro c h; simp only [chkN] at h; exact npost_sound (ih _ h)
 | split t f n b ih => intro c h; simp only [chkN] at h; exact nsplit_sound' (ih _ h)
end
end NM
end Go.Proofs.YtjngkfdclcgfhaaGreatDoor
end
section
namespace Go.Proofs.YtjngkfdclcgfhaaGreatDoor
namespace NM
open AM
inductive RIc : NVal → AVal → Prop
 | bool (b : Bool) : RIc (.bool b) (.bool b)
 | int (k : IntKind) (n : Int) : RIc (.int k n) (.int k n)
 | str (s : List UInt8) : RIc (.str s) (.str s)
 | nilp : RIc .nilp .nilp
 | zsl : RIc .zsl .zsl
 | nilfn : RIc .nilfn .nilfn
 | nili : RIc .nili .nili
 | lst (t : Ty) (xs : List (den t)) (e : Nat) (ys : List (List AVal)) : e = (ops t).size → xs.length = ys.length → (∀ (i : Nat) (x : den t) (y : List AVal), xs[i]? = some x → ys[i]? = some y → ((ops t).cells x).length = y.length) →
     (∀ (i : Nat) (x : den t) (y : List AVal) (j : Nat) (c : NVal) (d : AVal), xs[i]? = some x → ys[i]? = some y → ((ops t).cells x)[j]? = some c → y[j]? = some d → RIc c d) → RIc (.lst t xs) (.imm e ys)
 | iptr (cs : List NVal) (ds : List AVal) (off : Nat) : cs.length = ds.length → (∀ (j : Nat) (c : NVal) (d : AVal), cs[j]? = some c → ds[j]? = some d → RIc c d) → RIc (.iptr cs off) (.iptr ds off)
 | rows (e : Nat) (xs : List (List NVal)) (ys : List (List AVal)) : xs.length = ys.length → (∀ (i : Nat) (x : List NVal) (y : List AVal), xs[i]? = some x → ys[i]? = some y → x.length = y.length) →
     (∀ (i : Nat) (x : List NVal) (y : List AVal) (j : Nat) (c : NVal) (d : AVal), xs[i]? = some x → ys[i]? = some y → x[j]? = some c → y[j]? = some d → RIc c d) → RIc (.rows e xs) (.imm e ys)
 | fn (f : Nat) (cap : List NVal) (cap' : List AVal) : cap.length = cap'.length → (∀ (j : Nat) (c : NVal) (d : AVal), cap[j]? = some c → cap'[j]? = some d → RIc c d) → RIc (.fn f cap) (.fn f cap')
section
variable {w : World} {S : Nat → Prop} {μ : Nat → AM.Loc} {hp : NHeap}
theorem RIc.ri {v : NVal} {a : AVal} (h : RIc v a) : RI v a := by
 induction h with
 | bool b => exact .bool b
 | int k n => exact .int k n
 | str s => exact .str s
 | nilp => exact .nilp
 | zsl => exact .zsl
 | nilfn => exact .nilfn
 | nili => exact .nili
 | lst t xs e ys he hl hr hc ih => exact .lst t xs e ys he hl hr ih
 | iptr cs ds off hl hc ih => exact .iptr cs ds off hl ih
 | rows e xs ys hl hr hc ih => exact .rows e xs ys hl hr ih
 | fn f cap cap' hl hc ih => exact .fn f cap cap' hl ih
theorem RIc.canon {v : NVal} {a' : AVal} (h : RIc v a') : ∀ {a : AVal} {cv : Value}, RI v a → IR w S a cv → IR w S a' cv := by
 induction h with
 | bool b => intro a cv h1 h2; cases h1; exact h2
 | int k n => intro a cv h1 h2; cases h1; exact h2
 | str s => intro a cv h1 h2; cases h1; exact h2
 | nilp => intro a cv h1 h2; cases h1; exact h2
 | zsl => intro a cv h1 h2; cases h1; exact h2
 | nilfn => intro a cv h1 h2; cases h1; exact h2
 | nili => intro a cv h1 h2; cases h1; exact h2
 | lst t xs e ys he hl hr hc ih =>
   intro a cv h1 h2
   rcases h1.lst_inv with ⟨zs, rfl, hz⟩ | ⟨rfl, rfl⟩
   · cases h2 with
     | imm _ _ A cap g i1 i2 i3 i4 i5 =>
       have hlen : zs.length = ys.length := hz.1.symm.trans hl
       rw [hlen] at i1 ⊢
       have find : ∀ (i : Nat) (y : List AVal) (j : Nat) (d : AVal), ys[i]? = some y → y[j]? = some d → ∃ x z c d', xs[i]? = some x ∧ zs[i]? = some z ∧ ((ops t).cells x)[j]? = some c ∧ z[j]? = some d' ∧ RI c d' := by
         intro i y j d hi hj
         have hx : i < xs.length := by rw [hl]; exact (List.getElem?_eq_some_iff.1 hi).1
         have hzl : i < zs.length := by rw [hlen]; exact (List.getElem?_eq_some_iff.1 hi).1
         have hxz := hz.2 i xs[i] zs[i] (List.getElem?_eq_getElem hx) (List.getElem?_eq_getElem hzl)
         have hxy := hr i xs[i] y (List.getElem?_eq_getElem hx) hi
         have hjl := (List.getElem?_eq_some_iff.1 hj).1
         have hjc : j < ((ops t).cells xs[i]).length := by omega
         have hjz : j < zs[i].length := by rw [← hxz.1]; exact hjc
         exact ⟨xs[i], zs[i], _, _, List.getElem?_eq_getElem hx, List.getElem?_eq_getElem hzl, List.getElem?_eq_getElem hjc, List.getElem?_eq_getElem hjz, hxz.2 j _ _ (List.getElem?_eq_getElem hjc) (List.getElem?_eq_getElem hjz)⟩
       subst he
       refine .imm _ ys A cap g i1 i2 (fun i y hi => ?_) (fun i y j d hi hj => ?_) (fun i y j d hi hj => ?_)
       · have hx : i < xs.length := by rw [hl]; exact (List.getElem?_eq_some_iff.1 hi).1
         rw [← hr i xs[i] y (List.getElem?_eq_getElem hx) hi]
         exact (good t).1 _
       · obtain ⟨x, z, c, d', e1, e2, e3, e4, e5⟩ := find i y j d hi hj
         exact i4 i z j d' e2 e4
       · obtain ⟨x, z, c, d', e1, e2, e3, e4, e5⟩ := find i y j d hi hj
         exact ih i x y j c d e1 hi e3 hj e5 (i5 i z j d' e2 e4)
   · cases h2 with
     | zsl A =>
       have : ys = [] := List.eq_nil_of_length_eq_zero hl.symm
       subst this
       exact .imm e [] A 0 (fun _ _ => undef) (Nat.le_refl _) (fun _ => rfl) (fun i x h => by simp at h) (fun i x j c h => by simp at h) (fun i x j c h => by simp at h)
 | iptr cs ds off hl hc ih =>
   intro a cv h1 h2
   obtain ⟨ds', rfl, hd⟩ := h1.iptr_inv
   have find : ∀ (j : Nat) (c : AVal), ds[j]? = some c → ∃ x d', cs[j]? = some x ∧ ds'[j]? = some d' ∧ RI x d' := fun j c hj => by
     have hx : j < cs.length := by rw [hl]; exact (List.getElem?_eq_some_iff.1 hj).1
     obtain ⟨d', hd1, hd2⟩ := hd.get (List.getElem?_eq_getElem hx)
     exact ⟨_, d', List.getElem?_eq_getElem hx, hd1, hd2⟩
   cases h2 with
   | iptr _ _ m o g i1 i2 i3 =>
     refine .iptr ds off m o g i1 (fun j c hj => ?_) (fun j c hj => ?_)
     · obtain ⟨x, d', e1, e2, e3⟩ := find j c hj
       exact i2 j d' e2
     · obtain ⟨x, d', e1, e2, e3⟩ := find j c hj
       exact ih j x c e1 hj e3 (i3 j d' e2)
 | rows e xs ys hl hr hc ih =>
   intro a cv h1 h2
   rcases h1.rows_inv with ⟨zs, rfl, hz⟩ | ⟨rfl, rfl⟩
   · cases h2 with
     | imm _ _ A cap g i1 i2 i3 i4 i5 =>
       have hlen : zs.length = ys.length := hz.1.symm.trans hl
       rw [hlen] at i1 ⊢
       have find : ∀ (i : Nat) (y : List AVal), ys[i]? = some y → ∃ x z, xs[i]? = some x ∧ zs[i]? = some z ∧ A2 RI x z ∧ x.length = y.length := by
         intro i y hi
         have hx : i < xs.length := by rw [hl]; exact (List.getElem?_eq_some_iff.1 hi).1
         obtain ⟨z, hz1, hz2⟩ := hz.get (List.getElem?_eq_getElem hx)
         exact ⟨_, z, List.getElem?_eq_getElem hx, hz1, hz2, hr i _ y (List.getElem?_eq_getElem hx) hi⟩
       have find2 : ∀ (i : Nat) (y : List AVal) (j : Nat) (d : AVal), ys[i]? = some y → y[j]? = some d → ∃ x z c d', xs[i]? = some x ∧ zs[i]? = some z ∧ x[j]? = some c ∧ z[j]? = some d' ∧ RI c d' := by
         intro i y j d hi hj
         obtain ⟨x, z, e1, e2, e3, e4⟩ := find i y hi
         have hjx : j < x.length := by rw [e4]; exact (List.getElem?_eq_some_iff.1 hj).1
         obtain ⟨d', hd1, hd2⟩ := e3.get (List.getElem?_eq_getElem hjx)
         exact ⟨x, z, _, d', e1, e2, List.getElem?_eq_getElem hjx, hd1, hd2⟩
       refine .imm _ ys A cap g i1 i2 (fun i y hi => ?_) (fun i y j d hi hj => ?_) (fun i y j d hi hj => ?_)
       · obtain ⟨x, z, e1, e2, e3, e4⟩ := find i y hi
         rw [← e4, e3.1]
         exact i3 i z e2
       · obtain ⟨x, z, c, d', e1, e2, e3, e4, e5⟩ := find2 i y j d hi hj
         exact i4 i z j d' e2 e4
       · obtain ⟨x, z, c, d', e1, e2, e3, e4, e5⟩ := find2 i y j d hi hj
         exact ih i x y j c d e1 hi e3 hj e5 (i5 i z j d' e2 e4)
   · cases h2 with
     | zsl A =>
       have : ys = [] := List.eq_nil_of_length_eq_zero hl.symm
       subst this
       exact .imm e [] A 0 (fun _ _ => undef) (Nat.le_refl _) (fun _ => rfl) (fun i x h => by simp at h) (fun i x j c h => by simp at h) (fun i x j c h => by simp at h)
 | fn f cap cap' hl hc ih =>
   intro a cv h1 h2
   cases h1 with
   | fn _ _ cap'' hl2 hc2 =>
     cases h2 with
     | fn _ _ caps i1 i2 =>
       refine .fn f cap' caps (by omega) fun j c v hj hv => ?_
       have hx : j < cap.length := by rw [hl]; exact (List.getElem?_eq_some_iff.1 hj).1
       have hx2 : j < cap''.length := by rw [← hl2]; exact hx
       exact ih j _ c (List.getElem?_eq_getElem hx) hj (hc2 j _ _ (List.getElem?_eq_getElem hx) (List.getElem?_eq_getElem hx2)) (i2 j _ v (List.getElem?_eq_getElem hx2) hv)
def Ex {α : Type} (o : Ops α) : Prop := ∀ x, ∃ ds, A2 RIc (o.cells x) ds
theorem ex_int (k : IntKind) : Ex (intO k) := fun x => ⟨[.int k x], .single (.int k x)⟩
theorem ex_bool : Ex boolO := fun x => ⟨[.bool x], .single (.bool x)⟩
theorem ex_str : Ex strO := fun x => ⟨[.str x], .single (.str x)⟩
theorem ex_unit : Ex unitO := fun x => ⟨[], .nil⟩
theorem ex_pair {α β : Type} {a : Ops α} {b : Ops β} (ha : Ex a) (hb : Ex b) : Ex (pairO a b) := fun x => by
 obtain ⟨d1, h1⟩ := ha x.1
 obtain ⟨d2, h2⟩ := hb x.2
 exact ⟨d1 ++ d2, h1.append h2⟩
theorem ex_iso {α β : Type} {o : Ops β} {f : α → β} {g : β → α} (ho : Ex o) : Ex (isoO o f g) := fun x => ho (f x)
theorem ex_list {t : Ty} (ho : Ex (ops t)) : Ex (listO t (ops t)) := fun xs => by
 have : ∃ ys, A2 (fun x y => A2 RIc ((ops t).cells x) y) xs ys := by
   induction xs with
   | nil => exact ⟨[], .nil⟩
   | cons x xs ih =>
     obtain ⟨ys, h⟩ := ih
     obtain ⟨y, hy⟩ := ho x
     exact ⟨y :: ys, .cons hy h⟩
 obtain ⟨ys, h⟩ := this
 exact ⟨[.imm (ops t).size ys], .single (.lst t xs _ ys rfl h.1 (fun i x y hx hy => (h.2 i x y hx hy).1) (fun i x y j c d hx hy hc hd => (h.2 i x y hx hy).2 j c d hc hd))⟩
def InjO {α : Type} (o : Ops α) : Prop := ∀ x x' ds, A2 RI (o.cells x) ds → A2 RI (o.cells x') ds → x = x'
theorem inj_int (k : IntKind) : InjO (intO k) := fun x x' ds h h' => by
 obtain ⟨d, ds, rfl, h1, _⟩ := h.cons_inv
 have h2 := h'.head
 cases h1; cases h2; rfl
theorem inj_bool : InjO boolO := fun x x' ds h h' => by
 obtain ⟨d, ds, rfl, h1, _⟩ := h.cons_inv
 have h2 := h'.head
 cases h1; cases h2; rfl
theorem inj_str : InjO strO := fun x x' ds h h' => by
 obtain ⟨d, ds, rfl, h1, _⟩ := h.cons_inv
 have h2 := h'.head
 cases h1; cases h2; rfl
theorem inj_unit : InjO unitO := fun _ _ _ _ _ => rfl
theorem inj_pair {α β : Type} {a : Ops α} {b : Ops β} (ga : Good a) (ha : InjO a) (hb : InjO b) : InjO (pairO a b) := fun x x' ds h h' => by
 have l1 := ga.1 x.1
 have l2 := ga.1 x'.1
 have e1 := ha x.1 x'.1 (ds.take a.size) (by have := A2.take a.size h; rwa [show ((pairO a b).cells x).take a.size = a.cells x.1 from by simp [pairO, ← l1]] at this) (by have := A2.take a.size h'; rwa [show ((pairO a b).cells x').take a.size = a.cells x'.1 from by simp [pairO, ← l2]] at this)
 have e2 := hb x.2 x'.2 (ds.drop a.size) (by have := A2.drop a.size h; rwa [show ((pairO a b).cells x).drop a.size = b.cells x.2 from by simp [pairO, ← l1]] at this) (by have := A2.drop a.size h'; rwa [show ((pairO a b).cells x').drop a.size = b.cells x'.2 from by simp [pairO, ← l2]] at this)
 exact Prod.ext e1 e2
theorem inj_iso {α β : Type} {o : Ops β} {f : α → β} {g : β → α} (ho : InjO o) (hgf : ∀ x, g (f x) = x) : InjO (isoO o f g) := fun x x' ds h h' => by
 have := ho (f x) (f x') ds h h'
 rw [← hgf x, this, hgf]
theorem inj_A2 {t : Ty} (ho : InjO (ops t)) : ∀ {xs xs' : List (den t)} {ys : List (List AVal)}, A2 (RX t) xs ys → A2 (RX t) xs' ys → xs = xs'
 | [], xs', ys, h, h' => by
   have := h.nil_inv
   subst this
   exact (List.eq_nil_of_length_eq_zero h'.1).symm
 | x :: xs, xs', ys, h, h' => by
   obtain ⟨y, ys', rfl, h1, h2⟩ := h.cons_inv
   cases xs' with
   | nil => have := h'.1; simp at this
   | cons x' xs' => rw [ho x x' y h1 h'.head, inj_A2 ho h2 h'.tail]
theorem inj_list {t : Ty} (ho : InjO (ops t)) : InjO (listO t (ops t)) := fun xs xs' ds h h' => by
 obtain ⟨d, ds, rfl, h1, _⟩ := h.cons_inv
 have h2 := h'.head
 rcases h1.lst_inv with ⟨ys, rfl, hy⟩ | ⟨rfl, rfl⟩
 · rcases h2.lst_inv with ⟨zs, hz, hz2⟩ | ⟨hz, _⟩
   · cases hz; exact inj_A2 ho hy hz2
   · cases hz
 · rcases h2.lst_inv with ⟨zs, hz, hz2⟩ | ⟨_, rfl⟩
   · cases hz
   · rfl
def Bth {α : Type} (o : Ops α) : Prop := Ex o ∧ InjO o ∧ Good o
theorem b_pair {α β : Type} {a : Ops α} {b : Ops β} (ha : Bth a) (hb : Bth b) : Bth (pairO a b) := ⟨ex_pair ha.1 hb.1, inj_pair ha.2.2 ha.2.1 hb.2.1, good_pair ha.2.2 hb.2.2⟩
theorem b_iso {α β : Type} {o : Ops β} {f : α → β} {g : β → α} (ho : Bth o) (hfg : ∀ y, f (g y) = y) (hgf : ∀ x, g (f x) = x) : Bth (isoO o f g) := ⟨ex_iso ho.1, inj_iso ho.2.1 hgf, good_iso ho.2.2 hfg⟩
theorem b_list {t : Ty} (ho : Bth (ops t)) : Bth (listO t (ops t)) := ⟨ex_list ho.1, inj_list ho.2.1, good_list ho.2.2⟩
theorem b_int (k : IntKind) : Bth (intO k) := ⟨ex_int k, inj_int k, good_int k⟩
theorem b_bool : Bth boolO := ⟨ex_bool, inj_bool, good_bool⟩
theorem b_str : Bth strO := ⟨ex_str, inj_str, good_str⟩
theorem b_unit : Bth unitO := ⟨ex_unit, inj_unit, good_unit⟩
theorem b_i64 : Bth i64O := b_int _
theorem b_res : Bth resO := b_iso (b_pair b_i64 (b_pair b_i64 (b_pair b_i64 b_i64))) (fun _ => rfl) (fun _ => rfl)
theorem b_dep : Bth depO := b_iso (b_pair b_i64 b_bool) (fun _ => rfl) (fun _ => rfl)
theorem b_ints : Bth intsO := b_list (t := .int .i64) (b_int _)
theorem b_deps : Bth depsO := b_list (t := .dep) b_dep
theorem b_queue : Bth queueO := b_iso (b_pair b_i64 (b_pair b_ints (b_pair b_i64 (b_pair b_i64 (b_pair b_i64 b_i64))))) (fun _ => rfl) (fun _ => rfl)
theorem b_weights : Bth weightsO := b_iso (b_pair b_i64 (b_pair b_i64 (b_pair b_i64 b_i64))) (fun _ => rfl) (fun _ => rfl)
theorem b_spec : Bth specO := b_iso (b_pair (b_list (t := .res) b_res) (b_pair (b_list (t := .list (.int .i64)) b_ints) (b_pair (b_list (t := .queue) b_queue) (b_pair b_i64 (b_pair b_weights (b_pair b_i64 (b_pair b_i64 (b_pair b_i64 (b_pair b_i64 (b_pair b_i64 (b_pair b_i64 (b_pair b_i64 (b_pair b_i64 (b_pair b_i64 b_i64)))))))))))))) (fun _ => rfl) (fun _ => rfl)
theorem b_job : Bth jobO := b_iso (b_pair b_i64 (b_pair b_i64 (b_pair b_i64 (b_pair b_i64 (b_pair b_res (b_pair b_i64 (b_pair b_deps (b_pair b_i64 (b_pair b_bool (b_pair b_bool (b_pair b_i64 (b_pair b_i64 (b_pair b_i64 (b_pair b_i64 b_i64)))))))))))))) (fun _ => rfl) (fun _ => rfl)
theorem b_share : Bth shareO := b_iso (b_pair b_i64 b_i64) (fun _ => rfl) (fun _ => rfl)
theorem b_shares : Bth (listO .share shareO) := b_list (t := .share) b_share
theorem b_alloc : Bth allocO := b_iso (b_pair b_i64 (b_pair b_res b_shares)) (fun _ => rfl) (fun _ => rfl)
theorem b_run : Bth runO := b_iso (b_pair b_res (b_pair b_shares b_i64)) (fun _ => rfl) (fun _ => rfl)
theorem b_booking : Bth bookingO := b_iso (b_pair b_i64 (b_pair b_i64 (b_pair b_i64 b_i64))) (fun _ => rfl) (fun _ => rfl)
theorem b_step : Bth stepO := b_iso (b_pair b_i64 b_res) (fun _ => rfl) (fun _ => rfl)
theorem b_request : Bth requestO := b_iso (b_pair b_i64 (b_pair b_i64 (b_pair b_i64 (b_pair b_i64 (b_pair b_i64 (b_pair b_i64 (b_pair b_res (b_pair b_i64 (b_pair b_i64 (b_pair b_deps (b_pair b_i64 (b_pair b_i64 (b_pair b_i64 b_i64))))))))))))) (fun _ => rfl) (fun _ => rfl)
theorem b_reply : Bth replyO := b_iso (b_pair b_i64 (b_pair b_i64 (b_pair b_i64 (b_pair b_i64 b_ints)))) (fun _ => rfl) (fun _ => rfl)
theorem b_call : Bth callO := b_iso (b_pair b_i64 b_request) (fun _ => rfl) (fun _ => rfl)
theorem b_entry : Bth entryO := b_iso (b_pair b_i64 (b_pair b_i64 (b_pair b_request (b_pair b_reply (b_pair b_i64 b_bool))))) (fun _ => rfl) (fun _ => rfl)
theorem bth (t : Ty) : Bth (ops t) := by
 induction t with
 | int k => exact b_int k
 | bool => exact b_bool
 | str => exact b_str
 | list t ih => exact b_list ih
 | unit => exact b_unit
 | pair a b iha ihb => exact b_pair iha ihb
 | res => exact b_res
 | dep => exact b_dep
 | queue => exact b_queue
 | weights => exact b_weights
 | spec => exact b_spec
 | job => exact b_job
 | share => exact b_share
 | alloc => exact b_alloc
 | run => exact b_run
 | booking => exact b_booking
 | step => exact b_step
 | request => exact b_request
 | reply => exact b_reply
 | call => exact b_call
 | entry => exact b_entry
noncomputable def acells (t : Ty) (x : den t) : List AVal := Classical.choose ((bth t).1 x)
theorem acells_rel (t : Ty) (x : den t) : A2 RIc ((ops t).cells x) (acells t x) := Classical.choose_spec ((bth t).1 x)
mutual
noncomputable def can (lens : Nat → Nat) : (s : Sh) → s.den → AVal
 | .v t, x => match t.isAgg with
   | true => .agg (acells t x)
   | false => (acells t x).headD .undef
 | .undef, _ => .undef
 | .nilp, _ => .nilp
 | .zsl, _ => .zsl
 | .nilfn, _ => .nilfn
 | .nili, _ => .nili
 | .ptr b i f, _ => .ptr b i f
 | .slw b e, _ => .sl b 0 (lens b) e
 | .fn f l, x => .fn f (cans lens l x)
 | .agg l, x => .agg (cans lens l x)
 | .tup l, x => .tup (cans lens l x)
 | .iptr l off, x => .iptr (cans lens l x) off
 | .rows e l, x => .imm e (cansR lens l x)
 | .nil, _ => .undef
 | .cons _ _, _ => .undef
noncomputable def cans (lens : Nat → Nat) : (s : Sh) → s.den → List AVal
 | .cons a l, x => can lens a x.1 :: cans lens l x.2
 | .v _, _ | .undef, _ | .nilp, _ | .zsl, _ | .nilfn, _ | .nili, _ | .ptr _ _ _, _ | .slw _ _, _ | .fn _ _, _ | .agg _, _ | .tup _, _ | .iptr _ _, _ | .rows _ _, _ | .nil, _ => []
noncomputable def cansR (lens : Nat → Nat) : (s : Sh) → s.den → List (List AVal)
 | .cons a l, x => cans lens a x.1 :: cansR lens l x.2
 | .v _, _ | .undef, _ | .nilp, _ | .zsl, _ | .nilfn, _ | .nili, _ | .ptr _ _ _, _ | .slw _ _, _ | .fn _ _, _ | .agg _, _ | .tup _, _ | .iptr _ _, _ | .rows _ _, _ | .nil, _ => []
end
/- shapes that results may have -/
mutual
def okI : Sh → Bool
 | .v t => !t.isAgg
 | .nilp | .zsl | .nilfn | .nili => true
 | .fn _ l | .iptr l _ => okIs l
 | .rows _ l => okIR l
 | .undef | .ptr _ _ _ | .slw _ _ | .agg _ | .tup _ | .nil | .cons _ _ => false
def okIs : Sh → Bool
 | .cons a l => okI a && okIs l
 | .nil => true
 | .v _ | .undef | .nilp | .zsl | .nilfn | .nili | .ptr _ _ _ | .slw _ _ | .fn _ _ | .agg _ | .tup _ | .iptr _ _ | .rows _ _ => false
def okIR : Sh → Bool
 | .cons a l => okIs a && okIR l
 | .nil => true
 | .v _ | .undef | .nilp | .zsl | .nilfn | .nili | .ptr _ _ _ | .slw _ _ | .fn _ _ | .agg _ | .tup _ | .iptr _ _ | .rows _ _ => false
end
def okP (lv : Nat → Bool) : Sh → Bool
 | .ptr _ _ _ => true
 | .slw b _ => lv b
 | .fn _ _ => false
 | s => okI s
def okAll (p : Sh → Bool) : Sh → Bool
 | .nil => true
 | .cons a l => p a && okAll p l
 | _ => false
def okC (lv : Nat → Bool) : Sh → Bool
 | .fn _ l => okAll (okP lv) l
 | s => okP lv s
def okV (lv : Nat → Bool) : Sh → Bool
 | .agg l => okAll (okC lv) l
 | .v _ => true
 | s => okC lv s
def okT (lv : Nat → Bool) : Sh → Bool
 | .tup l => okAll (okV lv) l
 | s => okV lv s
def Lens (hp : NHeap) (lv : Nat → Bool) (lens : Nat → Nat) : Prop := ∀ b, lv b = true → ∃ k, nget hp b = some k ∧ k.len = lens b
theorem okAll_rel {p : Sh → Bool} {lens : Nat → Nat} {R : NVal → AVal → Prop} (hp : ∀ (s : Sh) (x : s.den), p s = true → R (put s x) (can lens s x)) : ∀ {s : Sh} {x : s.den}, okAll p s = true → A2 R (puts s x) (cans lens s x)
 | .cons a l, x, h => by
   simp only [okAll, Bool.and_eq_true] at h
   simp only [puts, cans]
   exact .cons (hp a x.1 h.1) (okAll_rel hp h.2)
 | .nil, x, h => by simp only [puts, cans]; exact .nil
 | .v _, _, h => by cases h
 | .undef, _, h => by cases h
 | .nilp, _, h => by cases h
 | .zsl, _, h => by cases h
 | .nilfn, _, h => by cases h
 | .nili, _, h => by cases h
 | .ptr _ _ _, _, h => by cases h
 | .slw _ _, _, h => by cases h
 | .fn _ _, _, h => by cases h
 | .agg _, _, h => by cases h
 | .tup _, _, h => by cases h
 | .iptr _ _, _, h => by cases h
 | .rows _ _, _, h => by cases h
theorem okAll_conv {p : Sh → Bool} {lens : Nat → Nat} {R : NVal → AVal → Prop} {V : AVal → Value → Prop} (hp : ∀ (s : Sh) (x : s.den) (a : AVal) (cv : Value), p s = true → R (put s x) a → V a cv → V (can lens s x) cv) : ∀ {s : Sh} {x : s.den} {ds : List AVal}, okAll p s = true → A2 R (puts s x) ds →
   (cans lens s x).length = ds.length ∧ ∀ (j : Nat) (c : AVal) (d : AVal) (cv : Value), (cans lens s x)[j]? = some c → ds[j]? = some d → V d cv → V c cv
 | .cons a l, x, ds, h, hr => by
   simp only [okAll, Bool.and_eq_true] at h
   simp only [puts] at hr
   obtain ⟨d, ds', rfl, h1, h2⟩ := hr.cons_inv
   obtain ⟨i1, i2⟩ := okAll_conv hp (x := x.2) h.2 h2
   simp only [cans]
   refine ⟨by simp [i1], fun j c d' cv hc hd hv => ?_⟩
   cases j with
   | zero => simp at hc hd; subst hc; subst hd; exact hp a x.1 _ cv h.1 h1 hv
   | succ j => simp at hc hd; exact i2 j c d' cv hc hd hv
 | .nil, x, ds, h, hr => by
   simp only [puts] at hr
   rw [hr.nil_inv]
   simp only [cans]
   exact ⟨by simp, fun j c d cv hc => by simp at hc⟩
 | .v _, _, _, h, _ => by cases h
 | .undef, _, _, h, _ => by cases h
 | .nilp, _, _, h, _ => by cases h
 | .zsl, _, _, h, _ => by cases h
 | .nilfn, _, _, h, _ => by cases h
 | .nili, _, _, h, _ => by cases h
 | .ptr _ _ _, _, _, h, _ => by cases h
 | .slw _ _, _, _, h, _ => by cases h
 | .fn _ _, _, _, h, _ => by cases h
 | .agg _, _, _, h, _ => by cases h
 | .tup _, _, _, h, _ => by cases h
 | .iptr _ _, _, _, h, _ => by cases h
 | .rows _ _, _, _, h, _ => by cases h
theorem one_cells {t : Ty} (ht : t.isAgg = false) (x : den t) : ∃ c d, (ops t).cells x = [c] ∧ acells t x = [d] ∧ RIc c d ∧ nimmP c = true := by
 have hr := acells_rel t x
 have hs := (good t).1 x
 have h1 : (ops t).size = 1 := by cases t <;> first | rfl | cases ht
 rw [h1] at hs
 obtain ⟨c, hc⟩ := List.length_eq_one_iff.1 hs
 rw [hc] at hr
 obtain ⟨d, ds, hd, h2, h3⟩ := hr.cons_inv
 rw [h3.nil_inv] at hd
 exact ⟨c, d, hc, hd, h2, (good t).2.2.1 x c (by rw [hc]; exact List.mem_cons_self)⟩
mutual
theorem canI_rel {lens : Nat → Nat} : ∀ (s : Sh) (x : s.den), okI s = true → RIc (put s x) (can lens s x)
 | .v t, x, h => by
   have ht : t.isAgg = false := by simpa [okI] using h
   obtain ⟨c, d, h1, h2, h3, h4⟩ := one_cells ht x
   simp only [put, can, putV, ht, h1, h2]
   exact h3
 | .nilp, x, h => by simp only [put, can]; exact .nilp
 | .zsl, x, h => by simp only [put, can]; exact .zsl
 | .nilfn, x, h => by simp only [put, can]; exact .nilfn
 | .nili, x, h => by simp only [put, can]; exact .nili
 | .fn f l, x, h => by
   simp only [okI] at h
   simp only [put, can]
   have := canIs_rel (lens := lens) l x h
   exact .fn _ _ _ this.1 this.2
 | .iptr l off, x, h => by
   simp only [okI] at h
   simp only [put, can]
   have := canIs_rel (lens := lens) l x h
   exact .iptr _ _ _ this.1 this.2
 | .rows e l, x, h => by
   simp only [okI] at h
   simp only [put, can]
   have := canIR_rel (lens := lens) l x h
   exact .rows _ _ _ this.1 (fun i x y hx hy => (this.2 i x y hx hy).1) (fun i x y j c d hx hy hc hd => (this.2 i x y hx hy).2 j c d hc hd)
 | .undef, x, h => by simp [okI] at h
 | .ptr _ _ _, x, h => by simp [okI] at h
 | .slw _ _, x, h => by simp [okI] at h
 | .agg _, x, h => by simp [okI] at h
 | .tup _, x, h => by simp [okI] at h
 | .nil, x, h => by simp [okI] at h
 | .cons _ _, x, h => by simp [okI] at h
theorem canIs_rel {lens : Nat → Nat} : ∀ (s : Sh) (x : s.den), okIs s = true → A2 RIc (puts s x) (cans lens s x)
 | .cons a l, x, h => by
   simp only [okIs, Bool.and_eq_true] at h
   simp only [puts, cans]
   exact .cons (canI_rel a x.1 h.1) (canIs_rel l x.2 h.2)
 | .nil, x, h => by simp only [puts, cans]; exact .nil
 | .v _, x, h => by simp [okIs] at h
 | .undef, x, h => by simp [okIs] at h
 | .nilp, x, h => by simp [okIs] at h
 | .zsl, x, h => by simp [okIs] at h
 | .nilfn, x, h => by simp [okIs] at h
 | .nili, x, h => by simp [okIs] at h
 | .ptr _ _ _, x, h => by simp [okIs] at h
 | .slw _ _, x, h => by simp [okIs] at h
 | .fn _ _, x, h => by simp [okIs] at h
 | .agg _, x, h => by simp [okIs] at h
 | .tup _, x, h => by simp [okIs] at h
 | .iptr _ _, x, h => by simp [okIs] at h
 | .rows _ _, x, h => by simp [okIs] at h
theorem canIR_rel {lens : Nat → Nat} : ∀ (s : Sh) (x : s.den), okIR s = true → A2 (A2 RIc) (putsR s x) (cansR lens s x)
 | .cons a l, x, h => by
   simp only [okIR, Bool.and_eq_true] at h
   simp only [putsR, cansR]
   exact .cons (canIs_rel a x.1 h.1) (canIR_rel l x.2 h.2)
 | .nil, x, h => by simp only [putsR, cansR]; exact .nil
 | .v _, x, h => by simp [okIR] at h
 | .undef, x, h => by simp [okIR] at h
 | .nilp, x, h => by simp [okIR] at h
 | .zsl, x, h => by simp [okIR] at h
 | .nilfn, x, h => by simp [okIR] at h
 | .nili, x, h => by simp [okIR] at h
 | .ptr _ _ _, x, h => by simp [okIR] at h
 | .slw _ _, x, h => by simp [okIR] at h
 | .fn _ _, x, h => by simp [okIR] at h
 | .agg _, x, h => by simp [okIR] at h
 | .tup _, x, h => by simp [okIR] at h
 | .iptr _ _, x, h => by simp [okIR] at h
 | .rows _ _, x, h => by simp [okIR] at h
end
theorem canI_imm (s : Sh) (x : s.den) (h : okI s = true) (hn : ∀ f l, s ≠ .fn f l) : nimmP (put s x) = true := by
 cases s <;> simp only [okI] at h <;> try (cases h; done)
 case v t =>
   have ht : t.isAgg = false := by simpa using h
   obtain ⟨c, d, h1, h2, h3, h4⟩ := one_cells ht x
   simp only [put, putV, ht, h1]
   exact h4
 case fn f l => exact absurd rfl (hn f l)
 all_goals (simp only [put]; rfl)
theorem canP_rel {lv : Nat → Bool} {lens : Nat → Nat} (hl : Lens hp lv lens) (s : Sh) (x : s.den) (h : okP lv s = true) : RP hp (put s x) (can lens s x) := by
 cases s with
 | ptr b i f => simp only [put, can]; exact .ptr _ _ _
 | slw b e =>
   simp only [put, can]
   obtain ⟨k, hk, hkl⟩ := hl b h
   refine .slw _ _ _ ?_
   unfold lenAt
   rw [nget_iff.1 hk]
   exact hkl
 | _ => first | exact .ro (canI_rel _ x h).ri | cases h
theorem canC_rel {lv : Nat → Bool} {lens : Nat → Nat} (hl : Lens hp lv lens) (s : Sh) (x : s.den) (h : okC lv s = true) : RC hp (put s x) (can lens s x) := by
 cases s with
 | fn f l => simp only [put, can]; exact .fn _ _ _ (okAll_rel (canP_rel hl) h)
 | _ => exact .p (canP_rel hl _ x h)
theorem canV_rel {lv : Nat → Bool} {lens : Nat → Nat} (hl : Lens hp lv lens) (s : Sh) (x : s.den) (h : okV lv s = true) : RV hp (put s x) (can lens s x) := by
 cases s with
 | agg l => simp only [put, can]; exact .agg _ _ (okAll_rel (canC_rel hl) h)
 | v t =>
   cases ht : t.isAgg with
   | true =>
     simp only [put, can, putV, ht]
     exact .agg _ _ ((acells_rel t x).mono fun _ _ h => h.ri.c)
   | false => exact .c (.p (.ro (canI_rel (.v t) x (by simp [okI, ht])).ri))
 | _ => exact .c (canC_rel hl _ x h)
theorem canT_rel {lv : Nat → Bool} {lens : Nat → Nat} (hl : Lens hp lv lens) (s : Sh) (x : s.den) (h : okT lv s = true) : RTs hp (put s x) (can lens s x) := by
 cases s with
 | tup l => simp only [put, can]; exact .tup _ _ (okAll_rel (canV_rel hl) h)
 | _ => exact .v (canV_rel hl _ x h)
theorem canI_conv {lens : Nat → Nat} (s : Sh) (x : s.den) (a : AVal) (cv : Value) (h : okI s = true) (hr : RI (put s x) a) (hv : IR w S a cv) : IR w S (can lens s x) cv := (canI_rel (lens := lens) s x h).canon hr hv
theorem canI_convV {lens : Nat → Nat} (s : Sh) (x : s.den) (a : AVal) (cv : Value) (h : okI s = true) (hn : ∀ f l, s ≠ .fn f l) (hr : RC hp (put s x) a) (hv : VR μ w S a cv) : VR μ w S (can lens s x) cv := by
 obtain ⟨h1, h2⟩ := hr.imm (canI_imm s x h hn)
 exact .imm _ _ (canI_conv s x a cv h h1 (hv.imm_of h2))
theorem canP_conv {lv : Nat → Bool} {lens : Nat → Nat} (hl : Lens hp lv lens) (s : Sh) (x : s.den) (a : AVal) (cv : Value) (h : okP lv s = true) (hr : RP hp (put s x) a) (hv : VR μ w S a cv) : VR μ w S (can lens s x) cv := by
 cases s with
 | ptr b i f => simp only [put] at hr; simp only [can]; rw [hr.rt.ptr_inv] at hv; exact hv
 | slw b e =>
   simp only [put] at hr
   simp only [can]
   obtain ⟨n, e1, e2⟩ := hr.rt.slw_inv
   obtain ⟨k, hk, hkl⟩ := hl b h
   unfold lenAt at e2
   rw [nget_iff.1 hk] at e2
   rw [e1, ← (show k.len = n from e2), hkl] at hv
   exact hv
 | _ => first | exact canI_convV _ x a cv h (by simp) (.p hr) hv | cases h
theorem canC_conv {lv : Nat → Bool} {lens : Nat → Nat} (hl : Lens hp lv lens) (s : Sh) (x : s.den) (a : AVal) (cv : Value) (h : okC lv s = true) (hr : RC hp (put s x) a) (hv : VR μ w S a cv) : VR μ w S (can lens s x) cv := by
 have notfn : (∀ f cs, put s x ≠ .fn f cs) → RP hp (put s x) a := fun hn => by
   generalize put s x = v at hr hn
   cases hr with
   | p h => exact h
   | fn f cap cap' h => exact absurd rfl (hn f cap)
 cases s with
 | fn f l =>
   simp only [put] at hr
   simp only [can]
   obtain ⟨cap', rfl, hc⟩ := hr.fn_inv
   obtain ⟨i1, i2⟩ := okAll_conv (lens := lens) (V := VR μ w S) (canP_conv hl) h hc
   have hv' : ∃ caps : Array Value, cv = .func (.func f) #[] caps ∧ cap'.length = caps.size ∧ ∀ (j : Nat) (c : AVal) (u : Value), cap'[j]? = some c → caps[j]? = some u → VR μ w S c u := by
     cases hv with
     | imm _ _ hv => cases hv with | fn _ _ caps h1 h2 => exact ⟨caps, rfl, h1, fun j c u hj hu => .imm _ _ (h2 j c u hj hu)⟩
     | fn _ _ caps h1 h2 => exact ⟨caps, rfl, h1, h2⟩
   obtain ⟨caps, rfl, h1, h2⟩ := hv'
   refine .fn _ _ _ (i1.trans h1) fun j c u hj hu => ?_
   have hj' : j < cap'.length := by rw [← i1]; exact (List.getElem?_eq_some_iff.1 hj).1
   exact i2 j c cap'[j] u hj (List.getElem?_eq_getElem hj') (h2 j _ u (List.getElem?_eq_getElem hj') hu)
 | v t => exact canI_convV (.v t) x a cv h (by simp) hr hv
 | _ => first | exact canP_conv hl _ x a cv h (notfn (by simp [put])) hv | cases h
theorem canV_conv {lv : Nat → Bool} {lens : Nat → Nat} (hl : Lens hp lv lens) (s : Sh) (x : s.den) (a : AVal) (cv : Value) (h : okV lv s = true) (hr : RV hp (put s x) a) (hv : VR μ w S a cv) : VR μ w S (can lens s x) cv := by
 have notagg : (∀ cs, put s x ≠ .agg cs) → RC hp (put s x) a := fun hn => by
   generalize put s x = v at hr hn
   cases hr with
   | c h => exact h
   | agg cs ds h => exact absurd rfl (hn cs)
 have aggs : ∀ (ds cs : List AVal), a = .agg ds → cs.length = ds.length → (∀ (j : Nat) (c d : AVal) (u : Value), cs[j]? = some c → ds[j]? = some d → VR μ w S d u → VR μ w S c u) → VR μ w S (.agg cs) cv := fun ds cs e i1 i2 => by
   rw [e] at hv
   cases hv with
   | imm _ _ hv => cases hv
   | agg _ arr h1 h2 =>
     refine .agg _ _ (i1.trans h1) fun j c u hj hu => ?_
     have hj' : j < ds.length := by rw [← i1]; exact (List.getElem?_eq_some_iff.1 hj).1
     exact i2 j c ds[j] u hj (List.getElem?_eq_getElem hj') (h2 j _ u (List.getElem?_eq_getElem hj') hu)
 cases s with
 | agg l =>
   simp only [put] at hr
   simp only [can]
   obtain ⟨ds, e, hc⟩ := (RT.v hr).agg_inv
   obtain ⟨i1, i2⟩ := okAll_conv (lens := lens) (V := VR μ w S) (canC_conv hl) h hc
   exact aggs ds _ e i1 i2
 | v t =>
   cases ht : t.isAgg with
   | true =>
     simp only [put, putV, ht] at hr
     simp only [can, ht]
     obtain ⟨ds, e, hc⟩ := (RT.v hr).agg_inv
     have hac := acells_rel t x
     refine aggs ds _ e (hac.1.symm.trans hc.1) fun j c d u hj hd hu => ?_
     have hj' : j < ((ops t).cells x).length := by rw [hac.1]; exact (List.getElem?_eq_some_iff.1 hj).1
     have hcell := List.getElem?_eq_getElem hj'
     obtain ⟨h1, h2⟩ := (hc.2 j _ d hcell hd).imm ((good t).2.2.1 x _ (List.mem_of_getElem? hcell))
     exact .imm _ _ ((hac.2 j _ c hcell hj).canon h1 (hu.imm_of h2))
   | false =>
     have hi : okI (.v t) = true := by simp [okI, ht]
     refine canI_convV (.v t) x a cv hi (by simp) (notagg fun cs e => ?_) hv
     have := canI_imm (.v t) x hi (by simp)
     rw [e] at this
     cases this
 | _ => first | exact canC_conv hl _ x a cv h (notagg (by simp [put])) hv | cases h
theorem canT_conv {lv : Nat → Bool} {lens : Nat → Nat} (hl : Lens hp lv lens) (s : Sh) (x : s.den) (a : AVal) (cv : Value) (h : okT lv s = true) (hr : RTs hp (put s x) a) (hv : VR μ w S a cv) : VR μ w S (can lens s x) cv := by
 have rest : ∀ (s : Sh) (x : s.den), okV lv s = true → RTs hp (put s x) a → RV hp (put s x) a := fun s x h hr => by
   have h3 := canV_rel hl s x h
   generalize put s x = v at hr h3
   cases hr with
   | undef => exact .c (.p .undef)
   | v h => exact h
   | tup cs ds h => exact absurd rfl (h3.not_tup.1 cs)
 cases s with
 | tup l =>
   simp only [put] at hr
   simp only [can]
   obtain ⟨ds, rfl, hc⟩ := hr.rt.tup_inv
   obtain ⟨i1, i2⟩ := okAll_conv (lens := lens) (V := VR μ w S) (canV_conv hl) h hc
   cases hv with
   | imm _ _ hv => cases hv
   | tup _ arr h1 h2 =>
     refine .tup _ _ (i1.trans h1) fun j c u hj hu => ?_
     have hj' : j < ds.length := by rw [← i1]; exact (List.getElem?_eq_some_iff.1 hj).1
     exact i2 j c ds[j] u hj (List.getElem?_eq_getElem hj') (h2 j _ u (List.getElem?_eq_getElem hj') hu)
 | _ => exact canV_conv hl _ x a cv h (rest _ x h hr) hv
end
end NM
end Go.Proofs.YtjngkfdclcgfhaaGreatDoor
end
