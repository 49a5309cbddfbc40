/-
  What the proof of SpecTexts leans on, part 5. (Many texts laid together by program.)
-/
import Derived.Test.YtjngkfdclcgfhaaGreatDoorPkTd
import Derived.Laws.Cells
import Derived.Laws.CopyRow
import Derived.Laws.BytesArg
import Derived.Great.BuildSlice
import Derived.Laws.AppendOwn
set_option linter.unnecessarySimpa false
set_option linter.unusedSimpArgs false
set_option linter.unusedVariables false
section
namespace Go.Proofs.YtjngkfdclcgfhaaGreatDoor
namespace AM
section
variable {P : Program} {μ μ' : Nat → Loc} {w w' : World} {S S' : Nat → Prop} {hp : Heap}
theorem IR.later {c : AVal} {v : Value} (h : IR w S c v) (hS : ∀ m, S m → S' m) : IR w S' c v := h.mono (fun _ _ => rfl) hS
theorem viewV_sound (r : HRep μ w S hp) {d : Nat} {v v' : AVal} {l : List Nat} {cv : Value} (h : VR μ w S v cv) (hv : viewV hp d v = some (v', l)) (μ0 : Nat → Loc) : VR μ0 w (With S μ l) v' cv := by
 unfold viewV at hv
 split at hv
 · rename_i cs
   split at hv
   · rename_i c l1 hall
     simp only [Option.some.injEq, Prod.mk.injEq] at hv
     obtain ⟨rfl, rfl⟩ := hv
     obtain ⟨hl, hg⟩ := allOn_get hall
     obtain ⟨a, rfl, ha, hcs⟩ := h.agg_inv
     refine .agg c a (by rw [hl]; exact ha) fun j x u hj hu => ?_
     obtain ⟨x0, li, h0, h1, h2⟩ := hg j x hj
     exact .imm _ _ ((viewP_sound r d x0 x li u (hcs j x0 u h0 hu) h1).later (With.mono h2))
   · cases hv
 · exact .imm _ _ (viewP_sound r d v v' l cv h hv)
theorem viewT_sound (r : HRep μ w S hp) {d : Nat} {v v' : AVal} {l : List Nat} {cv : Value} (h : VR μ w S v cv) (hv : viewT hp d v = some (v', l)) (μ0 : Nat → Loc) : VR μ0 w (With S μ l) v' cv := by
 unfold viewT at hv
 split at hv
 · rename_i cs
   split at hv
   · rename_i c l1 hall
     simp only [Option.some.injEq, Prod.mk.injEq] at hv
     obtain ⟨rfl, rfl⟩ := hv
     obtain ⟨hl, hg⟩ := allOn_get hall
     obtain ⟨a, rfl, ha, hcs⟩ := h.tup_inv
     refine .tup c a (by rw [hl]; exact ha) fun j x u hj hu => ?_
     obtain ⟨x0, li, h0, h1, h2⟩ := hg j x hj
     exact (viewV_sound r (hcs j x0 u h0 hu) h1 μ0).mono (Up.refl _) (fun _ _ => rfl) (With.mono h2)
   · cases hv
 · exact viewV_sound r h hv μ0
def die (μ : Nat → Loc) (l : List Nat) (b : Nat) : Loc := match decide (b ∈ l), μ b with | true, .free => .free | true, _ => .dead | false, x => x
theorem die_in {l : List Nat} {b : Nat} (h : b ∈ l) : die μ l b = .free ∨ die μ l b = .dead := by
 unfold die; simp only [h, decide_true]; cases μ b <;> first | exact .inl rfl | exact .inr rfl
theorem die_out {l : List Nat} {b : Nat} (h : b ∉ l) : die μ l b = μ b := by
 unfold die; simp [h]
theorem die_up (l : List Nat) : Up μ (die μ l) := fun b hb => by
 by_cases h : b ∈ l
 · right; unfold die; simp only [h, decide_true] <;> (cases hμ : μ b <;> first | rfl | exact absurd hμ hb)
 · left; exact die_out h
theorem die_here {l : List Nat} {b m n e : Nat} (h : die μ l b = .here m n e) : b ∉ l ∧ μ b = .here m n e := by
 by_cases hb : b ∈ l
 · rcases die_in (μ := μ) hb with h1 | h1 <;> rw [h1] at h <;> cases h
 · exact ⟨hb, by rw [← h, die_out hb]⟩
theorem kill_rep (r : HRep μ w S hp) (l : List Nat) : HRep (die μ l) w (With S μ l) (kill hp l) ∧ Ext μ S w (die μ l) (With S μ l) w := by
 constructor
 · constructor
   · intro b k hb
     rw [kill_get] at hb
     split at hb
     · cases hb
     · rename_i hl
       rw [die_out hl]
       exact (r.live b k hb).mono (die_up l) (fun _ _ => rfl) (fun m hm => .inl hm) (fun _ _ _ _ => rfl)
   · intro b hb
     rw [kill_get] at hb
     split at hb
     · rename_i hl; exact die_in hl
     · rename_i hl; rw [die_out hl]; exact r.gone b hb
   · intro b hb
     have : μ b = .free := r.free b (by
       rcases hb with hb | hb
       · exact .inl (kill_free l hp b hb)
       · exact .inr (by rw [kill_length] at hb; exact hb))
     unfold die
     rw [this]
     cases decide (b ∈ l) <;> rfl
   · intro b b' m n n' e e' h h'
     exact r.inj b b' m n n' e e' (die_here h).2 (die_here h').2
   · rintro m ⟨b, n, e, hb⟩ hm
     obtain ⟨h1, h2⟩ := die_here hb
     rcases hm with hm | ⟨c, hc, n', e', hc'⟩
     · exact r.apart m ⟨b, n, e, h2⟩ hm
     · exact h1 (by rw [r.inj b c m n n' e e' h2 hc']; exact hc)
   · rintro m (hm | ⟨c, hc, n', e', hc'⟩)
     · exact r.inS m hm
     · exact r.lt ⟨c, n', e', hc'⟩
   · exact r.gl.mono (fun _ _ => rfl) (fun m hm => .inl hm)
 · refine ⟨rfl, rfl, rfl, Nat.le_refl _, fun _ _ _ => rfl, fun m hm => .inl hm, fun m hm => ?_, fun m hm => ?_⟩
   · rcases hm with hm | ⟨c, hc, n', e', hc'⟩
     · exact .inl hm
     · exact .inr (.inl ⟨c, n', e', hc'⟩)
   · obtain ⟨b, n, e, hb⟩ := hm
     exact .inl ⟨b, n, e, (die_here hb).2⟩
def give (μ : Nat → Loc) (id : Nat) (l : Loc) (b : Nat) : Loc := if b = id then l else μ b
theorem give_same {id : Nat} {l : Loc} : give μ id l id = l := if_pos rfl
theorem give_other {id b : Nat} {l : Loc} (h : b ≠ id) : give μ id l b = μ b := if_neg h
theorem give_up {id : Nat} {l : Loc} (h : μ id = .free) : Up μ (give μ id l) := fun b hb => .inl (give_other fun e => hb (by rw [e]; exact h))
theorem give_rep (r : HRep μ w S hp) {id : Nat} {k : Blk} {l : Loc} (hf : μ id = .free) (hlt : id < hp.length)
   (hk : BlkR (give μ id l) w' S l k) (hheap : ∀ m, m < w.heap.size → w'.heap[m]? = w.heap[m]?) (hsz : w.heap.size ≤ w'.heap.size) (hl : ∀ m n e, l = .here m n e → w.heap.size ≤ m) :
   HRep (give μ id l) w' S (hp.set id (.live k)) := by
 have hu : Up μ (give μ id l) := give_up hf
 constructor
 · intro b k' hb
   rw [Heap.get_set] at hb
   split at hb
   · rename_i h
     obtain ⟨rfl, _⟩ := h
     cases hb
     rw [give_same]
     exact hk
   · rename_i h
     have hne : b ≠ id := fun e => h ⟨e.symm, hlt⟩
     rw [give_other hne]
     have hb' := r.live b k' hb
     exact hb'.mono hu (fun m hm => hheap m (r.inS m hm)) (fun m hm => hm) (fun m n e he => hheap m (r.lt ⟨b, n, e, he⟩))
 · intro b hb
   rw [Heap.get_set] at hb
   split at hb
   · cases hb
   · rename_i h
     have hne : b ≠ id := fun e => h ⟨e.symm, hlt⟩
     rw [give_other hne]
     exact r.gone b hb
 · intro b hb
   rw [Heap.isFree_set] at hb
   by_cases hne : b = id
   · subst hne
     rcases hb with hb | hb
     · rw [if_pos ⟨rfl, hlt⟩] at hb; cases hb
     · simp at hb; omega
   · rw [give_other hne]
     refine r.free b ?_
     rcases hb with hb | hb
     · rw [if_neg (fun h => hne h.1.symm)] at hb; exact .inl hb
     · exact .inr (by simpa using hb)
 · intro b b' m n n' e e' h h'
   by_cases h1 : b = id
   · by_cases h2 : b' = id
     · rw [h1, h2]
     · rw [h1, give_same] at h
       rw [give_other h2] at h'
       have := hl m n e h
       have := r.lt ⟨b', n', e', h'⟩
       omega
   · by_cases h2 : b' = id
     · rw [h2, give_same] at h'
       rw [give_other h1] at h
       have := hl m n' e' h'
       have := r.lt ⟨b, n, e, h⟩
       omega
     · rw [give_other h1] at h
       rw [give_other h2] at h'
       exact r.inj b b' m n n' e e' h h'
 · rintro m ⟨b, n, e, hb⟩ hm
   by_cases h1 : b = id
   · rw [h1, give_same] at hb
     have := hl m n e hb
     have := r.inS m hm
     omega
   · rw [give_other h1] at hb
     exact r.apart m ⟨b, n, e, hb⟩ hm
 · intro m hm
   have := r.inS m hm
   omega
 · exact r.gl.mono (fun m hm => hheap m (r.inS m hm)) (fun m hm => hm)
theorem give_ext (r : HRep μ w S hp) {id : Nat} {l : Loc} (hf : μ id = .free) (hos : w'.os = w.os) (htape : w'.tape = w.tape) (hout : w'.output = w.output)
   (hheap : ∀ m, m < w.heap.size → w'.heap[m]? = w.heap[m]?) (hsz : w.heap.size ≤ w'.heap.size) (hl : ∀ m n e, l = .here m n e → w.heap.size ≤ m) : Ext μ S w (give μ id l) S w' where
 os := hos
 tape := htape
 output := hout
 size := hsz
 same m hm _ := hheap m hm
 sub m hm := hm
 new m hm := .inl hm
 own m hm := by
   obtain ⟨b, n, e, hb⟩ := hm
   by_cases h1 : b = id
   · rw [h1, give_same] at hb; exact .inr (hl m n e hb)
   · rw [give_other h1] at hb; exact .inl ⟨b, n, e, hb⟩
theorem alloc_heap (w : World) (o : Obj) : (∀ m, m < w.heap.size → (w.alloc o).heap[m]? = w.heap[m]?) ∧ (w.alloc o).heap[w.heap.size]? = some o ∧ (w.alloc o).heap.size = w.heap.size + 1 := by
 refine ⟨fun m hm => ?_, ?_, ?_⟩
 · show (w.heap.push o)[m]? = _
   rw [Array.getElem?_push, if_neg (by omega)]
 · show (w.heap.push o)[w.heap.size]? = _
   simp
 · show (w.heap.push o).size = _
   simp
theorem new_rep (r : HRep μ w S hp) {id n : Nat} {k : Blk} {cells : Array Value} {t : TypeId} (hf : hp.isFree id = true) (hs : cells.size = n * k.e) (hn : k.elems.length ≤ n) (hx : ∀ (i : Nat) (x : List AVal), k.elems[i]? = some x → x.length = k.e)
   (hc : ∀ (i : Nat) (x : List AVal) (j : Nat) (c : AVal), k.elems[i]? = some x → x[j]? = some c → ∃ v, cells[i * k.e + j]? = some v ∧ Blk.R μ w S k.flat c v) :
   HRep (give μ id (.here w.heap.size n k.e)) (w.alloc (.cells cells t)) S (hp.set id (.live k)) ∧ Ext μ S w (give μ id (.here w.heap.size n k.e)) S (w.alloc (.cells cells t)) ∧ Up μ (give μ id (.here w.heap.size n k.e)) := by
 have hfree : μ id = .free := r.free id (.inl hf)
 obtain ⟨h1, h2, h3⟩ := alloc_heap w (.cells cells t)
 have hl : ∀ m n' e, Loc.here w.heap.size n k.e = .here m n' e → w.heap.size ≤ m := fun m n' e h => by cases h; exact Nat.le_refl _
 refine ⟨give_rep r hfree (Heap.free_lt hf) ⟨rfl, hn, hx, cells, t, h2, hs, fun i x j c hi hj => ?_⟩ h1 (by omega) hl, give_ext r hfree rfl rfl rfl h1 (by omega) hl, give_up hfree⟩
 obtain ⟨v, hv, hr⟩ := hc i x j c hi hj
 exact ⟨v, hv, hr.mono (give_up hfree) (fun m hm => h1 m (r.inS m hm)) (fun m hm => hm)⟩
theorem load_cells (r : HRep μ w S hp) {n : Nat} {v : AVal} {cv : Value} {cs : List AVal} (h : VR μ w S v cv) (hl : loadCells hp n v = some cs) :
   ∃ (a : Addr) (us : List Value), cv = .pointer (some a) ∧ cs.length = n ∧ us.length = n ∧ (∀ (j : Nat) (u : Value), us[j]? = some u → w.cell? (a.add j) = some u) ∧ ∀ (j : Nat) (c : AVal) (u : Value), cs[j]? = some c → us[j]? = some u → VR μ w S c u := by
 have key : ∀ (m o : Nat) (xs : List AVal) (f : Nat), f + n ≤ xs.length → cs = (xs.drop f).take n → cv = .pointer (some ⟨m, o + f, none⟩) → (∀ (j : Nat) (c : AVal), xs[j]? = some c → ∃ u, w.cell? ⟨m, o + j, none⟩ = some u ∧ VR μ w S c u) →
     ∃ (a : Addr) (us : List Value), cv = .pointer (some a) ∧ cs.length = n ∧ us.length = n ∧ (∀ (j : Nat) (u : Value), us[j]? = some u → w.cell? (a.add j) = some u) ∧ ∀ (j : Nat) (c : AVal) (u : Value), cs[j]? = some c → us[j]? = some u → VR μ w S c u := by
   intro m o xs f hf hcs hcv hx
   subst hcs
   refine ⟨⟨m, o + f, none⟩, (List.range n).map fun j => (w.cell? ⟨m, o + f + j, none⟩).getD undef, hcv, by simp; omega, by simp, fun j u hu => ?_, fun j c u hj hu => ?_⟩
   · rw [List.getElem?_map] at hu
     simp only [Option.map_eq_some_iff] at hu
     obtain ⟨j', hj', rfl⟩ := hu
     have hjn : j < n := by have := (List.getElem?_eq_some_iff.1 hj').1; simpa using this
     have : j' = j := by rw [List.getElem?_range hjn] at hj'; cases hj'; rfl
     subst this
     obtain ⟨u, hu, _⟩ := hx (f + j') xs[f + j'] (by simp)
     rw [add_mk, show o + f + j' = o + (f + j') by omega, hu]
     rfl
   · rw [List.getElem?_take] at hj
     split at hj
     · rename_i hjn
       rw [List.getElem?_drop] at hj
       rw [List.getElem?_map, List.getElem?_range hjn] at hu
       simp only [Option.map_some, Option.some.injEq] at hu
       obtain ⟨u', hu', hr⟩ := hx (f + j) c hj
       rw [show o + f + j = o + (f + j) by omega, hu'] at hu
       cases hu
       exact hr
     · cases hj
 unfold loadCells at hl
 split at hl
 · rename_i b i f
   split at hl
   · rename_i k hk
     split at hl
     · rename_i x hx
       split at hl
       · rename_i hf
         simp only [Option.some.injEq] at hl
         have hb := r.live b k hk
         have hp := h.ptr_inv
         cases hμ : μ b with
         | free => rw [hμ] at hb; exact hb.elim
         | dead => rw [hμ] at hb; exact hb.elim
         | void => rw [hμ] at hb; have hb : k.elems = [] := hb; rw [hb] at hx; simp at hx
         | here m nn e =>
           rw [hμ] at hp
           have hp : cv = _ := hp
           have hke : k.e = e := by rw [hμ] at hb; exact hb.1.symm
           refine key m (i * e) x f hf hl.symm hp (fun j c hj => ?_)
           obtain ⟨m', n', u, hl', _, _, hcell, hr⟩ := blk_cells hb hx hj
           rw [hμ] at hl'
           cases hl'
           exact ⟨u, hcell, hr.vr⟩
       · cases hl
     · cases hl
   · cases hl
 · rename_i xs off
   split at hl
   · rename_i hf
     simp only [Option.some.injEq] at hl
     have hir := h.iptr_inv
     cases hir with
     | iptr cs off m o g hm hc hsub =>
       exact key m o xs off hf hl.symm rfl (fun j c hj => ⟨g j, hc j c hj, .imm _ _ (hsub j c hj)⟩)
   · cases hl
 · cases hl
theorem load_sound (r : HRep μ w S hp) {t : TypeId} {agg : Bool} {n : Nat} {a v : AVal} {ca : Value} (hs : szB P t n = true) (ha : aggB P t agg = true) (h : VR μ w S a ca) (hl : loadVal hp agg n a = some v) (h1 : agg = true ∨ n = 1) :
   ∃ cv, (Instr.loadAt t ca).run P w = .ok cv w ∧ VR μ w S v cv := by
 unfold loadVal at hl
 rw [if_neg (fun e => by rcases h1 with h1 | h1 <;> simp [h1] at e)] at hl
 split at hl
 · rename_i cs hcs
   obtain ⟨ad, us, rfl, hcl, hul, hcell, hvr⟩ := load_cells r h hcs
   have hrun := run_loadCells_list (P := P) w ad us hcell
   rw [hul] at hrun
   cases agg with
   | true =>
     simp at hl
     subst hl
     refine ⟨.agg us.toArray, by simp [Instr.loadAt, Instr.sureAddr, loadVar, run_isAgg ha, run_sizeOf hs, hrun], .agg _ _ (by simp; omega) fun j c u hj hu => hvr j c u hj (by simpa using hu)⟩
   | false =>
     obtain rfl : n = 1 := by rcases h1 with h1 | h1; cases h1; exact h1
     simp at hl
     split at hl
     · rename_i c
       simp at hl
       subst hl
       have h0 : us[0]? = some us[0] := by simp
       have hc := hcell 0 _ h0
       have e0 : ad.add 0 = ad := by simp [Addr.add]
       rw [e0] at hc
       exact ⟨us[0], by simp [Instr.loadAt, Instr.sureAddr, loadVar, run_isAgg ha, run_load, hc], hvr 0 c _ rfl h0⟩
     · cases hl
 · cases hl
theorem byteRow_inv {x : List AVal} {c : UInt8} (h : byteRow x = some c) : ∃ n : Int, x = [.int .u8 n] ∧ c = UInt8.ofNat n.toNat := by
 unfold byteRow at h
 split at h
 · rename_i n
   split at h
   · cases h; exact ⟨n, rfl, rfl⟩
   · cases h
 · cases h
theorem byteRows_inv {xs : List (List AVal)} {s : List UInt8} (h : allOf byteRow xs = some s) :
   ∃ ns : List Int, ns.length = xs.length ∧ s = ns.map (fun n => UInt8.ofNat n.toNat) ∧ ∀ i, i < ns.length → xs[i]? = some [.int .u8 (ns.getD i 0)] := by
 induction xs generalizing s with
 | nil => simp only [allOf, Option.some.injEq] at h; subst h; exact ⟨[], rfl, rfl, fun i hi => by simp at hi⟩
 | cons x xs ih =>
   simp only [allOf] at h
   split at h
   · rename_i c hc
     split at h
     · rename_i cs hcs
       cases h
       obtain ⟨ns, h1, h2, h3⟩ := ih hcs
       obtain ⟨n, rfl, rfl⟩ := byteRow_inv hc
       refine ⟨n :: ns, by simp [h1], by simp [h2], fun i hi => ?_⟩
       cases i with
       | zero => rfl
       | succ i => simpa using h3 i (by simpa using hi)
     · cases h
   · cases h
theorem int_val {k : IntKind} {n : Int} {cv : Value} (h : VR μ w S (.int k n) cv) : cv = .int k n := by
 cases h with
 | imm c v h => cases h; rfl
theorem str_sound (r : HRep μ w S hp) {s d e : TypeId} {a v : AVal} {ca : Value} (hs : P.underlying s = some (.slice e)) (he : P.underlying e = some (.int .u8)) (hd : P.underlying d = some .string) (h : VR μ w S a ca) (hl : loadVal hp false 0 a = some v) :
   ∃ cv, (convert s d ca).run P w = .ok cv w ∧ VR μ w S v cv := by
 have hstr : ∀ ns : List Int, VR μ w S (.str (ns.map fun n => UInt8.ofNat n.toNat)) (.string (strOfNums ns)) := fun ns => by
   rw [← strOfNums_data]; exact .imm _ _ (.str _)
 have hempty : ∀ (A : Option Addr) (cap : Nat), (convert s d (.slice A 0 cap)).run P w = .ok (.string (strOfNums [])) w := fun A cap => by
   cases A with
   | none => exact run_convert_bytes_nil w s e hs he 0 cap d hd
   | some ad =>
     rw [run_convert_bytes_string w s d e _ 0 cap hs he hd, run_bytesToString w ad 0 cap [] (run_loadCells_list (P := P) w ad [] (fun j v hj => by simp at hj))]
     rfl
 unfold loadVal at hl
 rw [if_pos ⟨rfl, rfl⟩] at hl
 unfold strVal at hl
 split at hl
 · cases hl
   cases h with
   | imm c v h =>
     cases h with
     | zsl A => exact ⟨_, hempty A 0, hstr []⟩
 · rename_i e1 xs
   split at hl
   · rename_i h1
     subst h1
     split at hl
     · rename_i cs hcs
       cases hl
       obtain ⟨ns, k1, rfl, k3⟩ := byteRows_inv hcs
       cases h with
       | imm c v h =>
         cases h with
         | imm e xs A cap g hl hn he' hc hv =>
           cases ns with
           | nil =>
             have hx : xs.length = 0 := k1.symm
             exact ⟨_, by rw [hx]; exact hempty A cap, hstr []⟩
           | cons n0 ns =>
             have h0 := k3 0 (by simp)
             obtain ⟨m, o, rfl, _, _⟩ := hc 0 _ 0 _ h0 rfl
             refine ⟨_, run_convert_bytes_arg w s e hs he m o xs.length cap (n0 :: ns) k1 (fun i hi => ?_) d hd, hstr _⟩
             have hx := k3 i (by rw [k1]; exact hi)
             obtain ⟨m', o', hA, _, hcell⟩ := hc i _ 0 _ hx rfl
             cases hA
             rw [Nat.mul_one, Nat.add_zero] at hcell
             rw [hcell]
             have := hv i _ 0 _ hx rfl
             generalize g i 0 = gv at this ⊢
             cases this
             rfl
     · cases hl
   · cases hl
 · rename_i b off len e1
   split at hl
   · rename_i k hk
     split at hl
     · rename_i h1
       obtain ⟨rfl, h1⟩ := h1
       split at hl
       · rename_i cs hcs
         cases hl
         obtain ⟨ns, k1, rfl, k3⟩ := byteRows_inv hcs
         have hb := r.live b k hk
         have hlen : ns.length = len := by rw [k1]; simp; omega
         have hsl := h.sl_inv
         generalize hμ : μ b = l at hb hsl
         cases l with
         | free => exact hb.elim
         | dead => exact hb.elim
         | void =>
           obtain ⟨_, h2, A, rfl⟩ := hsl
           have : ns = [] := List.length_eq_zero_iff.1 (hlen.trans h2)
           subst this
           exact ⟨_, hempty A 0, hstr []⟩
         | here m n e' =>
           obtain ⟨rfl, cap, rfl, h2, h3⟩ := hsl
           have hke : k.e = 1 := hb.1.symm
           refine ⟨_, run_convert_bytes_arg w s e hs he m (off * 1) len cap ns hlen (fun i hi => ?_) d hd, hstr _⟩
           have hx := k3 i (by omega)
           rw [List.getElem?_take, if_pos hi, List.getElem?_drop] at hx
           obtain ⟨m', n', u, hl', _, _, hcell, hr⟩ := blk_cells hb hx (j := 0) rfl
           simp only [Loc.here.injEq] at hl'
           obtain ⟨rfl, _, _⟩ := hl'
           rw [hke, Nat.mul_one, Nat.add_zero] at hcell
           rw [Nat.mul_one, hcell, int_val hr.vr]
       · cases hl
     · cases hl
   · cases hl
 · cases hl
end
end AM
end Go.Proofs.YtjngkfdclcgfhaaGreatDoor
end
section
namespace Go.Proofs.YtjngkfdclcgfhaaGreatDoor
namespace AM
section
variable {P : Program} {μ μ' : Nat → Loc} {w w' : World} {S S' : Nat → Prop} {hp : Heap}
theorem one_eq (v : Value) : v.oneCell' = oneV v := by cases v <;> rfl
theorem row_lt {e i i' j : Nat} (hj : j < e) (h : i < i') : i * e + j < i' * e := by
 have : (i + 1) * e ≤ i' * e := Nat.mul_le_mul_right e h
 rw [Nat.add_mul] at this
 omega
theorem splice_get {α : Type} {l vs : List α} {p : Nat} (h : p + vs.length ≤ l.length) (q : Nat) :
   (l.take p ++ vs ++ l.drop (p + vs.length))[q]? = if p ≤ q ∧ q < p + vs.length then vs[q - p]? else l[q]? := by
 by_cases h1 : q < p
 · rw [List.append_assoc, List.getElem?_append_left (by simp; omega), List.getElem?_take, if_pos h1, if_neg (by omega)]
 · by_cases h2 : q < p + vs.length
   · rw [if_pos (by omega), List.append_assoc, List.getElem?_append_right (by simp; omega), List.getElem?_append_left (by simp; omega)]
     congr 1; simp; omega
   · rw [if_neg (by omega), List.getElem?_append_right (by simp; omega), List.getElem?_drop]
     congr 1; simp; omega
theorem put_rep (r : HRep μ w S hp) {b i f m n : Nat} {k : Blk} {y us : List AVal} {cells : Array Value} {t : TypeId} {vs : List Value} (hk : hp.get b = some k) (hμ : μ b = .here m n k.e) (hh : w.heap[m]? = some (.cells cells t (0, 0)))
   (hy : k.elems[i]? = some y) (hf : f + us.length ≤ y.length) (hl : vs.length = us.length) (hv : ∀ (j : Nat) (c : AVal) (u : Value), us[j]? = some c → vs[j]? = some u → Blk.R μ w S k.flat c u) :
   i * k.e + f + vs.length ≤ cells.size ∧
   HRep μ (w.setRow m (cells.toList.take (i * k.e + f) ++ vs ++ cells.toList.drop (i * k.e + f + vs.length)).toArray) S (hp.set b (.live ⟨k.e, k.flat, k.elems.set i (putAt y f us)⟩)) ∧
   Ext μ S w μ S (w.setRow m (cells.toList.take (i * k.e + f) ++ vs ++ cells.toList.drop (i * k.e + f + vs.length)).toArray) := by
 have hb := r.live b k hk
 rw [hμ] at hb
 obtain ⟨_, hn, hx, cells', t', hh', hs, hc⟩ := hb
 rw [hh] at hh'
 cases hh'
 have hil := (List.getElem?_eq_some_iff.1 hy).1
 have hye := hx i y hy
 have hfit : i * k.e + f + vs.length ≤ cells.size := by
   rw [hs, hl]
   have : (i + 1) * k.e ≤ n * k.e := Nat.mul_le_mul_right _ (by omega)
   rw [Nat.add_mul] at this
   omega
 have hown : Owned μ m := ⟨b, n, k.e, hμ⟩
 have hS : ∀ q, S q → (w.setRow m (cells.toList.take (i * k.e + f) ++ vs ++ cells.toList.drop (i * k.e + f + vs.length)).toArray).heap[q]? = w.heap[q]? := fun q hq =>
   setRow_other w m q _ (fun e => r.apart m hown (by rw [← e]; exact hq))
 have hblt : b < hp.length := Heap.get_lt hk
 refine ⟨hfit, ?_, ?_⟩
 · constructor
   · intro b' k' hb'
     rw [Heap.get_set] at hb'
     split at hb'
     · rename_i h
       obtain ⟨rfl, _⟩ := h
       cases hb'
       rw [hμ]
       refine ⟨rfl, by simpa using hn, fun i' x hi' => ?_, _, t, setRow_heap w m cells _ t (0, 0) hh, by simp; omega, fun i' x j c hi' hj => ?_⟩
       · simp only [List.getElem?_set] at hi'
         split at hi'
         · simp only [hil, if_true, Option.some.injEq] at hi'
           subst hi'
           rw [putAt_length hf]
           exact hye
         · exact hx i' x hi'
       · simp only [List.getElem?_set] at hi'
         show ∃ v, (List.toArray _)[i' * k.e + j]? = some v ∧ _
         rw [List.getElem?_toArray, splice_get (by simp; omega)]
         split at hi'
         · rename_i hii
           subst hii
           simp only [hil, if_true, Option.some.injEq] at hi'
           subst hi'
           have hj' := hj
           rw [putAt_get hf] at hj'
           split at hj'
           · rename_i hcond
             rw [if_pos (by omega)]
             have h3 : (vs[i * k.e + j - (i * k.e + f)]?) = some (vs[j - f]'(by omega)) := by
               rw [show i * k.e + j - (i * k.e + f) = j - f by omega, List.getElem?_eq_getElem]
             rw [h3]
             exact ⟨_, rfl, (hv (j - f) c _ hj' (List.getElem?_eq_getElem _)).mono (Up.refl _) hS (fun _ h => h)⟩
           · rename_i hcond
             rw [if_neg (by omega)]
             obtain ⟨v, hv', hr⟩ := hc i y j c hy hj'
             exact ⟨v, by simpa using hv', hr.mono (Up.refl _) hS (fun _ h => h)⟩
         · rename_i hii
           have hjl := (List.getElem?_eq_some_iff.1 hj).1
           rw [hx i' x hi'] at hjl
           have hne : ¬ (i * k.e + f ≤ i' * k.e + j ∧ i' * k.e + j < i * k.e + f + vs.length) := by
             intro hcond
             rcases Nat.lt_or_gt_of_ne hii with h4 | h4
             · have := row_lt (e := k.e) (i := i) (i' := i') (j := f + us.length - 1) (by omega) h4
               omega
             · have := row_lt hjl h4
               omega
           rw [if_neg hne]
           obtain ⟨v, hv', hr⟩ := hc i' x j c hi' hj
           exact ⟨v, by simpa using hv', hr.mono (Up.refl _) hS (fun _ h => h)⟩
     · rename_i h
       have hne : b' ≠ b := fun e => h ⟨e.symm, hblt⟩
       exact (r.live b' k' hb').mono (Up.refl _) hS (fun _ h => h) (fun m' n' e' he => setRow_other w m m' _ (fun e => hne (r.inj b' b m n' n e' k.e (by rw [← e]; exact he) hμ)))
   · intro b' hb'
     rw [Heap.get_set] at hb'
     split at hb'
     · cases hb'
     · exact r.gone b' hb'
   · intro b' hb'
     refine r.free b' ?_
     rw [Heap.isFree_set] at hb'
     rcases hb' with hb' | hb'
     · split at hb'
       · cases hb'
       · exact .inl hb'
     · exact .inr (by simpa using hb')
   · exact r.inj
   · exact r.apart
   · intro q hq; simpa using r.inS q hq
   · exact r.gl.mono hS (fun _ h => h)
 · exact ⟨rfl, rfl, rfl, by simp, fun q hq ho => setRow_other w m q _ (fun e => ho (by rw [e]; exact hown)), fun _ h => h, fun _ h => .inl h, fun _ h => .inl h⟩
theorem settle_sound (r : HRep μ w S hp) {flat : Bool} {cs us : List AVal} {hp1 : Heap} {vs : Array Value} (hc : Cells μ w S cs vs) (hb : cs.all AVal.cellB = true) (h : settle hp flat cs = some (us, hp1)) :
   ∃ μ1 S1, HRep μ1 w S1 hp1 ∧ Ext μ S w μ1 S1 w ∧ Up μ μ1 ∧ us.length = cs.length ∧ (∀ b, hp1.get b ≠ none → μ1 b = μ b ∧ hp1.get b = hp.get b) ∧
     ∀ (j : Nat) (c : AVal) (u : Value), us[j]? = some c → vs[j]? = some u → Blk.R μ1 w S1 flat c u := by
 unfold settle at h
 split at h
 · rename_i hf
   split at h
   · rename_i us' l hall
     simp only [Option.some.injEq, Prod.mk.injEq] at h
     obtain ⟨rfl, rfl⟩ := h
     obtain ⟨h1, h2⟩ := kill_rep r l
     obtain ⟨hl, hg⟩ := allOn_get hall
     refine ⟨die μ l, With S μ l, h1, h2, die_up l, hl, fun b hb => ?_, fun j c u hj hu => ?_⟩
     · rw [kill_get] at hb ⊢
       split at hb
       · exact absurd rfl hb
       · rename_i hbl; rw [if_neg hbl]; exact ⟨die_out hbl, rfl⟩
     · obtain ⟨c0, li, h3, h4, h5⟩ := hg j c hj
       have hir := (viewP_sound r DEEP c0 c li u (hc.2 j c0 u h3 hu) h4).later (With.mono h5)
       exact ⟨by rw [if_pos hf]; exact hir, hir.one⟩
   · cases h
 · rename_i hf
   simp only [Option.some.injEq, Prod.mk.injEq] at h
   obtain ⟨rfl, rfl⟩ := h
   refine ⟨μ, S, r, Ext.refl _ _ _, Up.refl _, rfl, fun b hb => ⟨rfl, rfl⟩, fun j c u hj hu => ?_⟩
   have hcb : c.cellB = true := List.all_eq_true.1 hb c (List.mem_of_getElem? hj)
   exact ⟨by rw [if_neg hf]; exact hc.2 j c u hj hu, (hc.2 j c u hj hu).one hcb⟩
theorem store_sound (r : HRep μ w S hp) {t : TypeId} {n : Nat} {a x : AVal} {ca cx : Value} {hp' : Heap} (hs : szB P t n = true) (ha : VR μ w S a ca) (hx : VR μ w S x cx) (h : storeVal hp n a x = some hp') :
   ∃ w' μ1 S1, (Instr.storeAt t ca cx).run P w = .ok () w' ∧ HRep μ1 w' S1 hp' ∧ Ext μ S w μ1 S1 w' ∧ Up μ μ1 := by
 unfold storeVal at h
 split at h
 · rename_i b i f
   split at h
   · rename_i k hk
     split at h
     · rename_i hcond
       have hcells := Cells.of hx hcond.2
       split at h
       · rename_i us hp1 hset
         obtain ⟨μ1, S1, r1, x1, u1, hul, hget, hR⟩ := settle_sound r hcells hcond.2 hset
         split at h
         · rename_i k1 hk1
           obtain ⟨hμ1, hk1'⟩ := hget b (by rw [hk1]; simp)
           rw [hk1, hk] at hk1'
           cases hk1'
           split at h
           · rename_i y hy
             split at h
             · rename_i hf
               simp only [Option.some.injEq] at h
               subst h
               have hb1 := r1.live b k hk1
               have hp := ha.ptr_inv
               cases hμ : μ b with
               | free => rw [hμ1, hμ] at hb1; exact hb1.elim
               | dead => rw [hμ1, hμ] at hb1; exact hb1.elim
               | void => rw [hμ1, hμ] at hb1; have hb1 : k.elems = [] := hb1; rw [hb1] at hy; simp at hy
               | here m nn e =>
                 rw [hμ] at hp
                 have hp : ca = _ := hp
                 subst hp
                 rw [hμ1, hμ] at hb1
                 obtain ⟨rfl, hn, hxl, cells, tt, hh, hsz, hcc⟩ := hb1
                 have hlen : cx.cells.toList.length = us.length := by rw [hul, ← hcells.1.symm]; simp
                 obtain ⟨hfit, r2, x2⟩ := put_rep r1 (vs := cx.cells.toList) (us := us) (f := f) hk1 (by rw [hμ1, hμ]) hh hy (by rw [hul, hcond.1]; exact hf) hlen (fun j c u hj hu => hR j c u hj (by simpa using hu))
                 refine ⟨_, μ1, S1, ?_, r2, x1.trans x2, u1⟩
                 have hrun := run_storeCells_at P m (i * k.e + f) tt cx.cells.toList 0 cells w hh (by simpa using hfit) (fun v hv => by
                   obtain ⟨j, hj⟩ := List.getElem?_of_mem hv
                   have hjl := (List.getElem?_eq_some_iff.1 hj).1
                   rw [one_eq]
                   exact (hR j _ v (List.getElem?_eq_getElem (by omega)) (by simpa using hj)).2)
                 simp only [Nat.add_zero] at hrun
                 have hsize : cx.cells.size = n := by rw [← hcells.1]; exact hcond.1
                 have e1 : (Instr.storeAt t (.pointer (some ⟨m, i * k.e + f, none⟩)) cx).run P w = (storeCells ⟨m, i * k.e + f, none⟩ cx.cells.toList).run P w := by
                   simp [Instr.storeAt, Instr.sureAddr, storeVar, run_sizeOf hs, hsize]
                 rw [e1]
                 exact hrun
             · cases h
           · cases h
         · cases h
       · cases h
     · cases h
   · cases h
 · cases h
end
end AM
end Go.Proofs.YtjngkfdclcgfhaaGreatDoor
end
section
namespace Go.Proofs.YtjngkfdclcgfhaaGreatDoor
namespace AM
section
variable {P : Program} {μ μ' : Nat → Loc} {w w' : World} {S S' : Nat → Prop} {hp : Heap}
theorem VR.heap {c : AVal} {v : Value} (h : VR μ w S c v) (hw : w'.heap = w.heap) : VR μ w' S c v := h.mono (Up.refl _) (fun m _ => by rw [hw]) (fun _ h => h)
theorem HRep.heap (r : HRep μ w S hp) (hw : w'.heap = w.heap) : HRep μ w' S hp where
 live b k hb := (r.live b k hb).mono (Up.refl _) (fun m _ => by rw [hw]) (fun _ h => h) (fun _ _ _ _ => by rw [hw])
 gone := r.gone
 free := r.free
 inj := r.inj
 apart := r.apart
 inS m hm := by rw [hw]; exact r.inS m hm
 gl := r.gl.mono (fun m _ => by rw [hw]) (fun _ h => h)
theorem Ext.heap (hw : w'.heap = w.heap) (ho : w'.os = w.os) (ht : w'.tape = w.tape) (hp : w'.output = w.output) : Ext μ S w μ S w' :=
 ⟨ho, ht, hp, by rw [hw]; exact Nat.le_refl _, fun m _ _ => by rw [hw], fun _ h => h, fun _ h => .inl h, fun _ h => .inl h⟩
structure RowsC (μ : Nat → Loc) (w : World) (S : Nat → Prop) (e : Nat) (xs : List (List AVal)) (a : Array Value) : Prop where
 size : a.size = xs.length * e
 row : ∀ (i : Nat) (x : List AVal), xs[i]? = some x → x.length = e
 cell : ∀ (i : Nat) (x : List AVal) (j : Nat) (c : AVal), xs[i]? = some x → x[j]? = some c → ∃ u, a[i * e + j]? = some u ∧ VR μ w S c u ∧ oneV u = true
theorem constB_one {c : AVal} {v : Value} (h : constB c v = true) : oneV v = true := (IR.of_constB (w := default) (S := fun _ => False) h).one
theorem zeroB_one {t : TypeId} {zs : List AVal} (h : zeroB P t zs = true) : ∃ i z, P.info? t = some i ∧ i.zero = some z ∧ i.size = zs.length ∧ z.cells.size = zs.length ∧ ∀ (j : Nat) (c : AVal) (v : Value), zs[j]? = some c → z.cells[j]? = some v → constB c v = true := by
 unfold zeroB at h
 split at h
 · rename_i i hi
   split at h
   · rename_i z hz
     simp only [Bool.and_eq_true, beq_iff_eq] at h
     exact ⟨i, z, hi, hz, h.2, by have := all2_length h.1; simpa using this.symm, fun j c v hj hv => all2_get h.1 j c v hj (by simpa using hv)⟩
   · cases h
 · cases h
theorem zero_rows {zs : List AVal} {z : Array Value} {n e : Nat} (hl : zs.length = e) (hz : z.size = e) (hc : ∀ (j : Nat) (c : AVal) (v : Value), zs[j]? = some c → z[j]? = some v → constB c v = true) (a : Array Value)
   (ha : a.size = n * e) (hg : ∀ p, p < n * e → a[p]? = z[p % e]?) : ∀ (i : Nat) (x : List AVal) (j : Nat) (c : AVal), (List.replicate n zs)[i]? = some x → x[j]? = some c → ∃ u, a[i * e + j]? = some u ∧ constB c u = true := by
 intro i x j c hi hj
 rw [List.getElem?_replicate] at hi
 split at hi
 · rename_i hin
   simp only [Option.some.injEq] at hi
   subst hi
   have hj' := (List.getElem?_eq_some_iff.1 hj).1
   have hp : i * e + j < n * e := row_lt (by omega) hin
   rw [hg _ hp, Nat.mul_comm, Nat.mul_add_mod, Nat.mod_eq_of_lt (by omega)]
   have hzj : z[j]? = some (z[j]'(by omega)) := Array.getElem?_eq_getElem _
   exact ⟨z[j]'(by omega), hzj, hc j c _ hj hzj⟩
 · cases hi
theorem fillS_sound {ρ : Operand → Value} {r : Opd → AVal} (hρ : ∀ x y, chkOpd x y = true → VR μ w S (r y) (ρ x)) (e : Nat) :
   ∀ (parts : List (Nat × Operand)) (ps : List (Nat × Opd)) (xs out : List (List AVal)) (a : Array Value),
     all2 (fun (p : Nat × Operand) (q : Nat × Opd) => p.1 == q.1 && chkOpd p.2 q.2) parts ps = true → RowsC μ w S e xs a → fillS r e xs ps = some out →
     ∃ b, Instr.fill (fun i => some (i * e, e)) a (parts.map fun p => (p.1, ρ p.2)) = some b ∧ RowsC μ w S e out b ∧ out.length = xs.length
 | [], [], xs, out, a, _, h, hf => by simp [fillS] at hf; subst hf; exact ⟨a, rfl, h, rfl⟩
 | p :: parts, q :: ps, xs, out, a, hc, h, hf => by
   obtain ⟨i, x⟩ := q
   simp only [all2, Bool.and_eq_true, beq_iff_eq] at hc
   obtain ⟨⟨rfl, hx⟩, hrest⟩ := hc
   simp only [fillS] at hf
   split at hf
   · rename_i hcond
     obtain ⟨h1, h2, h3⟩ := hcond
     have hv := Cells.of (hρ _ _ hx) h3
     have hcl : (ρ p.2).cells.toList.length = e := by have := hv.1; simp; omega
     have hfit : p.1 * e + e ≤ a.size := by
       rw [h.size]
       have : (p.1 + 1) * e ≤ xs.length * e := Nat.mul_le_mul_right _ (by omega)
       rw [Nat.add_mul] at this
       omega
     have hput : RowsC μ w S e (xs.set p.1 (cellsOf (r x))) (laid a (p.1 * e) (ρ p.2).cells.toList) := by
       refine ⟨by rw [laid_size, h.size]; simp, fun i' y hi' => ?_, fun i' y j c hi' hj => ?_⟩
       · rw [List.getElem?_set] at hi'
         split at hi'
         · simp only [h2, if_true, Option.some.injEq] at hi'; subst hi'; exact h1
         · exact h.row i' y hi'
       · rw [laid_get a _ _ (by omega), hcl]
         rw [List.getElem?_set] at hi'
         split at hi'
         · rename_i hii
           subst hii
           simp only [h2, if_true, Option.some.injEq] at hi'
           subst hi'
           have hjl := (List.getElem?_eq_some_iff.1 hj).1
           rw [if_pos (by omega), show p.1 * e + j - p.1 * e = j by omega]
           obtain ⟨u, hu, hr⟩ := hv.get hj
           refine ⟨u, by simpa using hu, hr, hr.one (List.all_eq_true.1 h3 c (List.mem_of_getElem? hj))⟩
         · rename_i hii
           have hjl := (List.getElem?_eq_some_iff.1 hj).1
           rw [h.row i' y hi'] at hjl
           have hne : ¬ (p.1 * e ≤ i' * e + j ∧ i' * e + j < p.1 * e + e) := by
             intro hcond
             rcases Nat.lt_or_gt_of_ne hii with h4 | h4
             · have := row_lt (e := e) (i := p.1) (i' := i') (j := e - 1) (by omega) h4
               omega
             · have := row_lt hjl h4
               omega
           rw [if_neg hne]
           exact h.cell i' y j c hi' hj
     obtain ⟨b, hb, hcb, hbl⟩ := fillS_sound hρ e parts ps _ out _ hrest hput hf
     refine ⟨b, ?_, hcb, by rw [hbl]; simp⟩
     rw [List.map_cons, fill_cons (fun i => some (i * e, e)) a p.1 (p.1 * e) e (ρ p.2) _ rfl (by rw [← hv.1]; exact h1) hfit]
     exact hb
   · cases hf
 | [], q :: ps, _, _, _, hc, _, _ => by simp [all2] at hc
 | p :: parts, [], _, _, _, hc, _, _ => by simp [all2] at hc
def chkNew (P : Program) (op : Op) (ao : AOp) : Bool :=
 match op, ao with
 | .box _ x, .box _ x' => chkOpd x x'
 | .alloc t, .alloc zero => zeroB P t zero
 | .buildSlice t len parts, .buildSlice e len' flat zero ps => (match P.underlying t with
   | some (.slice el) => szB P el e && zeroB P el zero && len == len' && decide (len * e ≤ 16777216) && e != 0 && all2 (fun (p : Nat × Operand) (q : Nat × Opd) => p.1 == q.1 && chkOpd p.2 q.2) parts.toList ps
   | _ => false)
 | .makeSlice t l c, .makeSlice e bytes flat zero l' c' => (match P.underlying t with
   | some (.slice el) => szB P el e && bytesB P el bytes && zeroB P el zero && e != 0 && chkOpd l l' && chkOpd c c'
   | _ => false)
 | _, _ => false
def Makes (P : Program) (μ : Nat → Loc) (w : World) (S : Nat → Prop) (s : Sem Next) (v : AVal) (hp' : Heap) : Prop :=
 ∃ cv w' μ1 S1, s.run P w = .ok (.value cv) w' ∧ HRep μ1 w' S1 hp' ∧ Ext μ S w μ1 S1 w' ∧ Up μ μ1 ∧ VR μ1 w' S1 v cv
theorem mod_of_row {e : Nat} (a : Array Value) (z : Array Value) (n : Nat) (hz : z.size = e) (ha : a = (Array.range (n * e)).map fun i => z[i % z.size]!) (he : e ≠ 0) : a.size = n * e ∧ ∀ p, p < n * e → a[p]? = z[p % e]? := by
 subst ha
 refine ⟨by simp, fun p hp => ?_⟩
 have hlt : p % e < z.size := by rw [hz]; exact Nat.mod_lt _ (by omega)
 rw [Array.getElem?_map, Array.getElem?_range]
 simp only [hp, if_true, Option.map_some, hz]
 rw [getElem!_pos z (p % e) hlt]
 simp [hlt]
theorem new_sound (r : HRep μ w S hp) {ρ : Operand → Value} {rr : Opd → AVal} (hρ : ∀ x y, chkOpd x y = true → VR μ w S (rr y) (ρ x)) {o : Oper} {ao : AOp} {v : AVal} {k : Blk} {id : Nat} (hc : chkNew P o.op ao = true) (hf : hp.isFree id = true)
   (hv : newOp ao rr id = some (v, k)) : Makes P μ w S (execOp ρ o) v (hp.set id (.live k)) := by
 obtain ⟨dst, op, ty, pos, aft, guard⟩ := o
 simp only at hc
 unfold chkNew at hc
 split at hc
 · -- box
   rename_i t x n x'
   simp only [newOp] at hv
   split at hv
   · rename_i hcond
     simp only [Option.some.injEq, Prod.mk.injEq] at hv
     obtain ⟨rfl, rfl⟩ := hv
     have hx := Cells.of (hρ _ _ hc) hcond.2
     obtain ⟨r1, x1, u1⟩ := new_rep (t := t) (k := ⟨n, false, [cellsOf (rr x')]⟩) (n := 1) (cells := (ρ x).cells) r hf (by rw [← hx.1, hcond.1]; simp) (by simp) (fun i y hi => by
         cases i with
         | zero => simp at hi; subst hi; exact hcond.1
         | succ i => simp at hi) (fun i y j c hi hj => by
         cases i with
         | zero =>
           simp at hi
           subst hi
           obtain ⟨u, hu, hr⟩ := hx.get hj
           exact ⟨u, by simpa using hu, by simpa using hr, hr.one (List.all_eq_true.1 hcond.2 c (List.mem_of_getElem? hj))⟩
         | succ i => simp at hi)
     refine ⟨.pointer (some ⟨w.heap.size, 0, none⟩), _, _, S, by simp [execOp, Instr.box, newVar, newRow], r1, x1, u1, .ptr _ _ _ _ ?_⟩
     rw [give_same]
     show _ = _
     simp
   · cases hv
 · -- alloc
   rename_i t zero
   simp only [newOp, Option.some.injEq, Prod.mk.injEq] at hv
   obtain ⟨rfl, rfl⟩ := hv
   obtain ⟨i, z, hi, hz, hs, hzs, hzc⟩ := zeroB_one hc
   obtain ⟨r1, x1, u1⟩ := new_rep (t := t) (k := ⟨zero.length, false, [zero]⟩) (n := 1) (cells := z.cells) r hf (by rw [hzs]; simp) (by simp) (fun i y hi => by
         cases i with
         | zero => simp at hi; subst hi; rfl
         | succ i => simp at hi) (fun i y j c hi hj => by
         cases i with
         | zero =>
           simp at hi
           subst hi
           have hjl := (List.getElem?_eq_some_iff.1 hj).1
           have hu : z.cells[j]? = some (z.cells[j]'(by omega)) := Array.getElem?_eq_getElem _
           have hcb := hzc j c _ hj hu
           exact ⟨_, by rw [Nat.zero_mul, Nat.zero_add]; exact hu, VR.imm _ _ (.of_constB hcb), constB_one hcb⟩
         | succ i => simp at hi)
   refine ⟨.pointer (some ⟨w.heap.size, 0, none⟩), _, _, S, by simp [execOp, Instr.alloc, zeroValue, typeInfo, hi, hz, newVar, newRow], r1, x1, u1, .ptr _ _ _ _ ?_⟩
   rw [give_same]
   show _ = _
   simp
 · -- buildSlice
   rename_i t len parts e len' flat zero ps
   split at hc
   · rename_i el hu
     simp only [Bool.and_eq_true, beq_iff_eq, decide_eq_true_eq, bne_iff_ne] at hc
     obtain ⟨⟨⟨⟨⟨h1, h2⟩, rfl⟩, h4⟩, h5⟩, h6⟩ := hc
     simp only [newOp] at hv
     split at hv
     · rename_i xs hxs
       simp only [Option.some.injEq, Prod.mk.injEq] at hv
       obtain ⟨rfl, rfl⟩ := hv
       obtain ⟨i, z, hi, hz, hs, hzs, hzc⟩ := zeroB_one h2
       obtain ⟨i', hi', hs'⟩ := szB_inv h1
       rw [hi] at hi'
       cases hi'
       have hze : zero.length = e := by omega
       obtain ⟨hsz, hget⟩ := mod_of_row _ z.cells len (by omega) rfl h5
       have hrows : RowsC μ w S e (List.replicate len zero) ((Array.range (len * e)).map fun i => z.cells[i % z.cells.size]!) := by
         refine ⟨by rw [hsz]; simp, fun i x hi => ?_, fun i x j c hi hj => ?_⟩
         · rw [List.getElem?_replicate] at hi
           split at hi
           · simp only [Option.some.injEq] at hi; subst hi; exact hze
           · cases hi
         · obtain ⟨u, hu, hcb⟩ := zero_rows hze (by omega) hzc _ hsz hget i x j c hi hj
           exact ⟨u, hu, .imm _ _ (.of_constB hcb), constB_one hcb⟩
       obtain ⟨b, hb, hcb, hol⟩ := fillS_sound hρ e parts.toList ps _ xs _ h6 hrows hxs
       have hxl : xs.length = len := by rw [hol]; simp
       have hrun : (Instr.buildSlice t len (parts.map fun (i, x) => (i, ρ x))).run P w = .ok (.slice (some ⟨w.heap.size, 0, none⟩) len len) (w.alloc (.cells b el)) := by
         have hb' : Instr.fill (fun i => some (i * e, e)) ((Array.range (len * e)).map fun i => z.cells[i % z.cells.size]!) (parts.map fun (i, x) => (i, ρ x)).toList = some b := by
           rw [Array.toList_map]; exact hb
         by_cases h0 : len * e = 0
         · have : len = 0 := by rcases Nat.mul_eq_zero.1 h0 with h | h; exact h; exact absurd h h5
           subst this
           have er : Array.range 0 = #[] := rfl
           have hb2 : Instr.fill (fun i => some (i * e, e)) #[] (parts.toList.map fun x => (x.1, ρ x.2)) = some b := by simpa [er] using hb
           simp [Instr.buildSlice, run_underlying hu, run_sizeOf h1, hb2, newRow, er]
         · exact run_buildSlice w t el len _ b i z hu hi hz (by rw [hs']; omega) (by rw [hs']; exact h0) (by rw [hs']; exact hb')
       obtain ⟨r1, x1, u1⟩ := new_rep (t := el) (k := ⟨e, flat && xs.all (·.all AVal.immC), xs⟩) (n := len) (cells := b) r hf (by rw [hcb.size, hxl]) (by simp [hxl]) hcb.row (fun i x j c hi hj => by
         obtain ⟨u, hu, hr, ho⟩ := hcb.cell i x j c hi hj
         refine ⟨u, hu, ?_, ho⟩
         split
         · rename_i hfl
           simp only [Bool.and_eq_true, List.all_eq_true] at hfl
           exact hr.immC_of (hfl.2 x (List.mem_of_getElem? hi) c (List.mem_of_getElem? hj))
         · exact hr)
       refine ⟨_, _, _, S, by simp only [execOp, Sem.run_bind, hrun, Result.andThen_ok]; rfl, r1, x1, u1, .sl _ _ _ _ _ ?_⟩
       rw [give_same]
       exact ⟨rfl, len, by simp, by omega, Nat.le_refl _⟩
     · cases hv
   · cases hc
 · -- makeSlice
   rename_i t l c e bytes flat zero l' c'
   split at hc
   · rename_i el hu
     simp only [Bool.and_eq_true, bne_iff_ne] at hc
     obtain ⟨⟨⟨⟨⟨h1, h2⟩, h3⟩, h4⟩, h5⟩, h6⟩ := hc
     simp only [newOp] at hv
     split at hv
     · rename_i ln cp hl hcp
       split at hv
       · rename_i hcond
         simp only [Option.some.injEq, Prod.mk.injEq] at hv
         obtain ⟨rfl, rfl⟩ := hv
         obtain ⟨i, z, hi, hz, hs, hzs, hzc⟩ := zeroB_one h3
         obtain ⟨i', hi', hs'⟩ := szB_inv h1
         rw [hi] at hi'
         cases hi'
         have hby : i.bytes = bytes := by unfold bytesB at h2; rw [hi] at h2; simpa using h2
         have hze : zero.length = e := by omega
         obtain ⟨kd1, n1, hn1, _, rfl⟩ := idxNat_inv hl
         obtain ⟨kd2, n2, hn2, _, rfl⟩ := idxNat_inv hcp
         have e1 := hρ _ _ h5
         have e2 := hρ _ _ h6
         rw [hn1] at e1
         rw [hn2] at e2
         have e1 := e1.int_inv
         have e2 := e2.int_inv
         obtain ⟨hsz, hget⟩ := mod_of_row _ z.cells cp (by omega) rfl h4
         obtain ⟨hlc, hcb, hc32⟩ := hcond
         have w1 : IntKind.i64.wrap (ln : Int) = ln := by simp [IntKind.wrap, IntKind.bits, IntKind.signed]; omega
         have w2 : IntKind.i64.wrap (cp : Int) = cp := by simp [IntKind.wrap, IntKind.bits, IntKind.signed]; omega
         have hrun : (Instr.makeSlice t (ρ l) (ρ c)).run P w = .ok (.slice (some ⟨w.heap.size, 0, none⟩) ln cp) (w.alloc (.cells ((Array.range (cp * e)).map fun i => z.cells[i % z.cells.size]!) el)) := by
           have hbig : ¬ ((281474976710656 : Int) < (bytes : Int) * (cp : Int)) := by
             have : ((cp * bytes : Nat) : Int) ≤ 1099511627776 := by omega
             rw [Int.natCast_mul, Int.mul_comm] at this
             omega
           have hroom : ¬ (roomBytes < cp * bytes) := by unfold roomBytes; omega
           by_cases h0 : cp * e = 0
           · have : cp = 0 := by rcases Nat.mul_eq_zero.1 h0 with h | h; exact h; exact absurd h h4
             subst this
             have : ln = 0 := by omega
             subst this
             have er : Array.range 0 = #[] := rfl
             simp [Instr.makeSlice, run_underlying hu, e1, e2, asInt, asIntOf, typeInfo, hi, hby, sizeOf, hs', newRow, askRoom, roomBytes, IntKind.wrap, IntKind.bits, IntKind.signed, er]
           · have hbig2 : ¬ ((2 : Int) ^ 48 < (bytes : Int) * (cp : Int)) := by omega
             simp [Instr.makeSlice, run_underlying hu, e1, e2, asInt, asIntOf, typeInfo, hi, hby, w1, w2, sizeOf, hs', h0, zeroValue, hz, newRow, askRoom, hroom, hbig, hbig2]
             omega
         obtain ⟨r1, x1, u1⟩ := new_rep (t := el) (k := ⟨e, flat, List.replicate ln zero⟩) (n := cp) (cells := (Array.range (cp * e)).map fun i => z.cells[i % z.cells.size]!) r hf hsz (by simp; exact hlc) (fun i x hi => by
             rw [List.getElem?_replicate] at hi
             split at hi
             · simp only [Option.some.injEq] at hi; subst hi; exact hze
             · cases hi) (fun i x j c hi hj => by
             have hi2 : (List.replicate cp zero)[i]? = some x := by
               rw [List.getElem?_replicate] at hi ⊢
               split at hi
               · rw [if_pos (by omega)]; exact hi
               · cases hi
             obtain ⟨u, hu, hcb⟩ := zero_rows hze (by omega) hzc _ hsz hget i x j c hi2 hj
             refine ⟨u, hu, ?_, constB_one hcb⟩
             split
             · exact .of_constB hcb
             · exact .imm _ _ (.of_constB hcb))
         refine ⟨_, _, _, S, by simp only [execOp, Sem.run_bind, hrun, Result.andThen_ok]; rfl, r1, x1, u1, .sl _ _ _ _ _ ?_⟩
         rw [give_same]
         exact ⟨rfl, cp, by simp, by omega, hlc⟩
       · cases hv
     · cases hv
   · cases hc
 · cases hc
end
end AM
end Go.Proofs.YtjngkfdclcgfhaaGreatDoor
end
