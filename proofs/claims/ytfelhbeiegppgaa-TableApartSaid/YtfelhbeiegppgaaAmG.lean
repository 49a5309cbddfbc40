/-
  Blocks of the call's own: given up, made, read, written, numbered anew.
-/
import Derived.Test.YtfelhbeiegppgaaAmF
import Derived.Laws.Cells
import Derived.Laws.CopyRow
import Derived.Laws.BytesArg
set_option linter.unusedVariables false
set_option linter.unusedSimpArgs false
namespace Go.Proofs.Ytfelhbeiegppgaa
namespace AM

section
variable {P : Program} {μ μ' : Nat → Loc} {w w' : World} {S S' : Nat → Prop} {hp : Heap}

theorem IR.later {c : AVal} {v : Value} (h : IR w S c v) (hS : ∀ m, S m → S' m) : IR w S' c v := h.mono (fun _ _ => rfl) hS

theorem viewV_sound (r : HRep μ w S hp) {d : Nat} {v v' : AVal} {l : List Nat} {cv : Value} (h : VR μ w S v cv) (hv : viewV hp d v = some (v', l)) (μ0 : Nat → Loc) : VR μ0 w (With S μ l) v' cv := by
  unfold viewV at hv
  split at hv
  · rename_i cs
    split at hv
    · rename_i c l1 hall
      simp only [Option.some.injEq, Prod.mk.injEq] at hv
      obtain ⟨rfl, rfl⟩ := hv
      obtain ⟨hl, hg⟩ := allOn_get hall
      obtain ⟨a, rfl, ha, hcs⟩ := h.agg_inv
      refine .agg c a (by rw [hl]; exact ha) fun j x u hj hu => ?_
      obtain ⟨x0, li, h0, h1, h2⟩ := hg j x hj
      exact .imm _ _ ((viewP_sound r d x0 x li u (hcs j x0 u h0 hu) h1).later (With.mono h2))
    · cases hv
  · exact .imm _ _ (viewP_sound r d v v' l cv h hv)
theorem viewT_sound (r : HRep μ w S hp) {d : Nat} {v v' : AVal} {l : List Nat} {cv : Value} (h : VR μ w S v cv) (hv : viewT hp d v = some (v', l)) (μ0 : Nat → Loc) : VR μ0 w (With S μ l) v' cv := by
  unfold viewT at hv
  split at hv
  · rename_i cs
    split at hv
    · rename_i c l1 hall
      simp only [Option.some.injEq, Prod.mk.injEq] at hv
      obtain ⟨rfl, rfl⟩ := hv
      obtain ⟨hl, hg⟩ := allOn_get hall
      obtain ⟨a, rfl, ha, hcs⟩ := h.tup_inv
      refine .tup c a (by rw [hl]; exact ha) fun j x u hj hu => ?_
      obtain ⟨x0, li, h0, h1, h2⟩ := hg j x hj
      exact (viewV_sound r (hcs j x0 u h0 hu) h1 μ0).mono (Up.refl _) (fun _ _ => rfl) (With.mono h2)
    · cases hv
  · exact viewV_sound r h hv μ0

/-- blocks given up -/
def die (μ : Nat → Loc) (l : List Nat) (b : Nat) : Loc := match decide (b ∈ l), μ b with | true, .free => .free | true, _ => .dead | false, x => x

theorem die_in {l : List Nat} {b : Nat} (h : b ∈ l) : die μ l b = .free ∨ die μ l b = .dead := by
  unfold die; simp only [h, decide_true]; cases μ b <;> first | exact .inl rfl | exact .inr rfl
theorem die_out {l : List Nat} {b : Nat} (h : b ∉ l) : die μ l b = μ b := by
  unfold die; simp [h]
theorem die_up (l : List Nat) : Up μ (die μ l) := fun b hb => by
  by_cases h : b ∈ l
  · right; unfold die; simp only [h, decide_true] <;> (cases hμ : μ b <;> first | rfl | exact absurd hμ hb)
  · left; exact die_out h
theorem die_here {l : List Nat} {b m n e : Nat} (h : die μ l b = .here m n e) : b ∉ l ∧ μ b = .here m n e := by
  by_cases hb : b ∈ l
  · rcases die_in (μ := μ) hb with h1 | h1 <;> rw [h1] at h <;> cases h
  · exact ⟨hb, by rw [← h, die_out hb]⟩

theorem kill_rep (r : HRep μ w S hp) (l : List Nat) : HRep (die μ l) w (With S μ l) (kill hp l) ∧ Ext μ S w (die μ l) (With S μ l) w := by
  constructor
  · constructor
    · intro b k hb
      rw [kill_get] at hb
      split at hb
      · cases hb
      · rename_i hl
        rw [die_out hl]
        exact (r.live b k hb).mono (die_up l) (fun _ _ => rfl) (fun m hm => .inl hm) (fun _ _ _ _ => rfl)
    · intro b hb
      rw [kill_get] at hb
      split at hb
      · rename_i hl; exact die_in hl
      · rename_i hl; rw [die_out hl]; exact r.gone b hb
    · intro b hb
      have : μ b = .free := r.free b (by
        rcases hb with hb | hb
        · exact .inl (kill_free l hp b hb)
        · exact .inr (by rw [kill_length] at hb; exact hb))
      unfold die
      rw [this]
      cases decide (b ∈ l) <;> rfl
    · intro b b' m n n' e e' h h'
      exact r.inj b b' m n n' e e' (die_here h).2 (die_here h').2
    · rintro m ⟨b, n, e, hb⟩ hm
      obtain ⟨h1, h2⟩ := die_here hb
      rcases hm with hm | ⟨c, hc, n', e', hc'⟩
      · exact r.apart m ⟨b, n, e, h2⟩ hm
      · exact h1 (by rw [r.inj b c m n n' e e' h2 hc']; exact hc)
    · rintro m (hm | ⟨c, hc, n', e', hc'⟩)
      · exact r.inS m hm
      · exact r.lt ⟨c, n', e', hc'⟩
    · exact r.gl.mono (fun _ _ => rfl) (fun m hm => .inl hm)
  · refine ⟨rfl, rfl, rfl, Nat.le_refl _, fun _ _ _ => rfl, fun m hm => .inl hm, fun m hm => ?_, fun m hm => ?_⟩
    · rcases hm with hm | ⟨c, hc, n', e', hc'⟩
      · exact .inl hm
      · exact .inr (.inl ⟨c, n', e', hc'⟩)
    · obtain ⟨b, n, e, hb⟩ := hm
      exact .inl ⟨b, n, e, (die_here hb).2⟩

/-- a number is given a place -/
def give (μ : Nat → Loc) (id : Nat) (l : Loc) (b : Nat) : Loc := if b = id then l else μ b
theorem give_same {id : Nat} {l : Loc} : give μ id l id = l := if_pos rfl
theorem give_other {id b : Nat} {l : Loc} (h : b ≠ id) : give μ id l b = μ b := if_neg h
theorem give_up {id : Nat} {l : Loc} (h : μ id = .free) : Up μ (give μ id l) := fun b hb => .inl (give_other fun e => hb (by rw [e]; exact h))

/-- a block whose place is known anew: all else stays -/
theorem give_rep (r : HRep μ w S hp) {id : Nat} {k : Blk} {l : Loc} (hf : μ id = .free) (hlt : id < hp.length)
    (hk : BlkR (give μ id l) w' S l k) (hheap : ∀ m, m < w.heap.size → w'.heap[m]? = w.heap[m]?) (hsz : w.heap.size ≤ w'.heap.size) (hl : ∀ m n e, l = .here m n e → w.heap.size ≤ m) :
    HRep (give μ id l) w' S (hp.set id (.live k)) := by
  have hu : Up μ (give μ id l) := give_up hf
  constructor
  · intro b k' hb
    rw [Heap.get_set] at hb
    split at hb
    · rename_i h
      obtain ⟨rfl, _⟩ := h
      cases hb
      rw [give_same]
      exact hk
    · rename_i h
      have hne : b ≠ id := fun e => h ⟨e.symm, hlt⟩
      rw [give_other hne]
      have hb' := r.live b k' hb
      exact hb'.mono hu (fun m hm => hheap m (r.inS m hm)) (fun m hm => hm) (fun m n e he => hheap m (r.lt ⟨b, n, e, he⟩))
  · intro b hb
    rw [Heap.get_set] at hb
    split at hb
    · cases hb
    · rename_i h
      have hne : b ≠ id := fun e => h ⟨e.symm, hlt⟩
      rw [give_other hne]
      exact r.gone b hb
  · intro b hb
    rw [Heap.isFree_set] at hb
    by_cases hne : b = id
    · subst hne
      rcases hb with hb | hb
      · rw [if_pos ⟨rfl, hlt⟩] at hb; cases hb
      · simp at hb; omega
    · rw [give_other hne]
      refine r.free b ?_
      rcases hb with hb | hb
      · rw [if_neg (fun h => hne h.1.symm)] at hb; exact .inl hb
      · exact .inr (by simpa using hb)
  · intro b b' m n n' e e' h h'
    by_cases h1 : b = id
    · by_cases h2 : b' = id
      · rw [h1, h2]
      · rw [h1, give_same] at h
        rw [give_other h2] at h'
        have := hl m n e h
        have := r.lt ⟨b', n', e', h'⟩
        omega
    · by_cases h2 : b' = id
      · rw [h2, give_same] at h'
        rw [give_other h1] at h
        have := hl m n' e' h'
        have := r.lt ⟨b, n, e, h⟩
        omega
      · rw [give_other h1] at h
        rw [give_other h2] at h'
        exact r.inj b b' m n n' e e' h h'
  · rintro m ⟨b, n, e, hb⟩ hm
    by_cases h1 : b = id
    · rw [h1, give_same] at hb
      have := hl m n e hb
      have := r.inS m hm
      omega
    · rw [give_other h1] at hb
      exact r.apart m ⟨b, n, e, hb⟩ hm
  · intro m hm
    have := r.inS m hm
    omega
  · exact r.gl.mono (fun m hm => hheap m (r.inS m hm)) (fun m hm => hm)

theorem give_ext (r : HRep μ w S hp) {id : Nat} {l : Loc} (hf : μ id = .free) (hos : w'.os = w.os) (htape : w'.tape = w.tape) (hout : w'.output = w.output)
    (hheap : ∀ m, m < w.heap.size → w'.heap[m]? = w.heap[m]?) (hsz : w.heap.size ≤ w'.heap.size) (hl : ∀ m n e, l = .here m n e → w.heap.size ≤ m) : Ext μ S w (give μ id l) S w' where
  os := hos
  tape := htape
  output := hout
  size := hsz
  same m hm _ := hheap m hm
  sub m hm := hm
  new m hm := .inl hm
  own m hm := by
    obtain ⟨b, n, e, hb⟩ := hm
    by_cases h1 : b = id
    · rw [h1, give_same] at hb; exact .inr (hl m n e hb)
    · rw [give_other h1] at hb; exact .inl ⟨b, n, e, hb⟩

/-- the world with one more block -/
theorem alloc_heap (w : World) (o : Obj) : (∀ m, m < w.heap.size → (w.alloc o).heap[m]? = w.heap[m]?) ∧ (w.alloc o).heap[w.heap.size]? = some o ∧ (w.alloc o).heap.size = w.heap.size + 1 := by
  refine ⟨fun m hm => ?_, ?_, ?_⟩
  · show (w.heap.push o)[m]? = _
    rw [Array.getElem?_push, if_neg (by omega)]
  · show (w.heap.push o)[w.heap.size]? = _
    simp
  · show (w.heap.push o).size = _
    simp

/-- a new block of rows -/
theorem new_rep (r : HRep μ w S hp) {id n : Nat} {k : Blk} {cells : Array Value} {t : TypeId} (hf : hp.isFree id = true) (hs : cells.size = n * k.e) (hn : k.elems.length ≤ n) (hx : ∀ (i : Nat) (x : List AVal), k.elems[i]? = some x → x.length = k.e)
    (hc : ∀ (i : Nat) (x : List AVal) (j : Nat) (c : AVal), k.elems[i]? = some x → x[j]? = some c → ∃ v, cells[i * k.e + j]? = some v ∧ Blk.R μ w S k.flat c v) :
    HRep (give μ id (.here w.heap.size n k.e)) (w.alloc (.cells cells t)) S (hp.set id (.live k)) ∧ Ext μ S w (give μ id (.here w.heap.size n k.e)) S (w.alloc (.cells cells t)) ∧ Up μ (give μ id (.here w.heap.size n k.e)) := by
  have hfree : μ id = .free := r.free id (.inl hf)
  obtain ⟨h1, h2, h3⟩ := alloc_heap w (.cells cells t)
  have hl : ∀ m n' e, Loc.here w.heap.size n k.e = .here m n' e → w.heap.size ≤ m := fun m n' e h => by cases h; exact Nat.le_refl _
  refine ⟨give_rep r hfree (Heap.free_lt hf) ⟨rfl, hn, hx, cells, t, h2, hs, fun i x j c hi hj => ?_⟩ h1 (by omega) hl, give_ext r hfree rfl rfl rfl h1 (by omega) hl, give_up hfree⟩
  obtain ⟨v, hv, hr⟩ := hc i x j c hi hj
  exact ⟨v, hv, hr.mono (give_up hfree) (fun m hm => h1 m (r.inS m hm)) (fun m hm => hm)⟩

/-- a read -/
theorem load_cells (r : HRep μ w S hp) {n : Nat} {v : AVal} {cv : Value} {cs : List AVal} (h : VR μ w S v cv) (hl : loadCells hp n v = some cs) :
    ∃ (a : Addr) (us : List Value), cv = .pointer (some a) ∧ cs.length = n ∧ us.length = n ∧ (∀ (j : Nat) (u : Value), us[j]? = some u → w.cell? (a.add j) = some u) ∧ ∀ (j : Nat) (c : AVal) (u : Value), cs[j]? = some c → us[j]? = some u → VR μ w S c u := by
  have key : ∀ (m o : Nat) (xs : List AVal) (f : Nat), f + n ≤ xs.length → cs = (xs.drop f).take n → cv = .pointer (some ⟨m, o + f, none⟩) → (∀ (j : Nat) (c : AVal), xs[j]? = some c → ∃ u, w.cell? ⟨m, o + j, none⟩ = some u ∧ VR μ w S c u) →
      ∃ (a : Addr) (us : List Value), cv = .pointer (some a) ∧ cs.length = n ∧ us.length = n ∧ (∀ (j : Nat) (u : Value), us[j]? = some u → w.cell? (a.add j) = some u) ∧ ∀ (j : Nat) (c : AVal) (u : Value), cs[j]? = some c → us[j]? = some u → VR μ w S c u := by
    intro m o xs f hf hcs hcv hx
    subst hcs
    refine ⟨⟨m, o + f, none⟩, (List.range n).map fun j => (w.cell? ⟨m, o + f + j, none⟩).getD undef, hcv, by simp; omega, by simp, fun j u hu => ?_, fun j c u hj hu => ?_⟩
    · rw [List.getElem?_map] at hu
      simp only [Option.map_eq_some_iff] at hu
      obtain ⟨j', hj', rfl⟩ := hu
      have hjn : j < n := by have := (List.getElem?_eq_some_iff.1 hj').1; simpa using this
      have : j' = j := by rw [List.getElem?_range hjn] at hj'; cases hj'; rfl
      subst this
      obtain ⟨u, hu, _⟩ := hx (f + j') xs[f + j'] (by simp)
      rw [add_mk, show o + f + j' = o + (f + j') by omega, hu]
      rfl
    · rw [List.getElem?_take] at hj
      split at hj
      · rename_i hjn
        rw [List.getElem?_drop] at hj
        rw [List.getElem?_map, List.getElem?_range hjn] at hu
        simp only [Option.map_some, Option.some.injEq] at hu
        obtain ⟨u', hu', hr⟩ := hx (f + j) c hj
        rw [show o + f + j = o + (f + j) by omega, hu'] at hu
        cases hu
        exact hr
      · cases hj
  unfold loadCells at hl
  split at hl
  · rename_i b i f
    split at hl
    · rename_i k hk
      split at hl
      · rename_i x hx
        split at hl
        · rename_i hf
          simp only [Option.some.injEq] at hl
          have hb := r.live b k hk
          have hp := h.ptr_inv
          cases hμ : μ b with
          | free => rw [hμ] at hb; exact hb.elim
          | dead => rw [hμ] at hb; exact hb.elim
          | void => rw [hμ] at hb; have hb : k.elems = [] := hb; rw [hb] at hx; simp at hx
          | here m nn e =>
            rw [hμ] at hp
            have hp : cv = _ := hp
            have hke : k.e = e := by rw [hμ] at hb; exact hb.1.symm
            refine key m (i * e) x f hf hl.symm hp (fun j c hj => ?_)
            obtain ⟨m', n', u, hl', _, _, hcell, hr⟩ := blk_cells hb hx hj
            rw [hμ] at hl'
            cases hl'
            exact ⟨u, hcell, hr.vr⟩
        · cases hl
      · cases hl
    · cases hl
  · rename_i xs off
    split at hl
    · rename_i hf
      simp only [Option.some.injEq] at hl
      have hir := h.iptr_inv
      cases hir with
      | iptr cs off m o g hm hc hsub =>
        exact key m o xs off hf hl.symm rfl (fun j c hj => ⟨g j, hc j c hj, .imm _ _ (hsub j c hj)⟩)
    · cases hl
  · cases hl

theorem load_sound (r : HRep μ w S hp) {t : TypeId} {agg : Bool} {n : Nat} {a v : AVal} {ca : Value} (hs : szB P t n = true) (ha : aggB P t agg = true) (h : VR μ w S a ca) (hl : loadVal hp agg n a = some v) (h1 : agg = true ∨ n = 1) :
    ∃ cv, (Instr.loadAt t ca).run P w = .ok cv w ∧ VR μ w S v cv := by
  unfold loadVal at hl
  rw [if_neg (fun e => by rcases h1 with h1 | h1 <;> simp [h1] at e)] at hl
  split at hl
  · rename_i cs hcs
    obtain ⟨ad, us, rfl, hcl, hul, hcell, hvr⟩ := load_cells r h hcs
    have hrun := run_loadCells_list (P := P) w ad us hcell
    rw [hul] at hrun
    cases agg with
    | true =>
      simp at hl
      subst hl
      refine ⟨.agg us.toArray, by simp [Instr.loadAt, Instr.sureAddr, loadVar, run_isAgg ha, run_sizeOf hs, hrun], .agg _ _ (by simp; omega) fun j c u hj hu => hvr j c u hj (by simpa using hu)⟩
    | false =>
      obtain rfl : n = 1 := by rcases h1 with h1 | h1; cases h1; exact h1
      simp at hl
      split at hl
      · rename_i c
        simp at hl
        subst hl
        have h0 : us[0]? = some us[0] := by simp
        have hc := hcell 0 _ h0
        have e0 : ad.add 0 = ad := by simp [Addr.add]
        rw [e0] at hc
        exact ⟨us[0], by simp [Instr.loadAt, Instr.sureAddr, loadVar, run_isAgg ha, run_load, hc], hvr 0 c _ rfl h0⟩
      · cases hl
  · cases hl

theorem byteRow_inv {x : List AVal} {c : UInt8} (h : byteRow x = some c) : ∃ n : Int, x = [.int .u8 n] ∧ c = UInt8.ofNat n.toNat := by
  unfold byteRow at h
  split at h
  · rename_i n
    split at h
    · cases h; exact ⟨n, rfl, rfl⟩
    · cases h
  · cases h
theorem byteRows_inv {xs : List (List AVal)} {s : List UInt8} (h : allOf byteRow xs = some s) :
    ∃ ns : List Int, ns.length = xs.length ∧ s = ns.map (fun n => UInt8.ofNat n.toNat) ∧ ∀ i, i < ns.length → xs[i]? = some [.int .u8 (ns.getD i 0)] := by
  induction xs generalizing s with
  | nil => simp only [allOf, Option.some.injEq] at h; subst h; exact ⟨[], rfl, rfl, fun i hi => by simp at hi⟩
  | cons x xs ih =>
    simp only [allOf] at h
    split at h
    · rename_i c hc
      split at h
      · rename_i cs hcs
        cases h
        obtain ⟨ns, h1, h2, h3⟩ := ih hcs
        obtain ⟨n, rfl, rfl⟩ := byteRow_inv hc
        refine ⟨n :: ns, by simp [h1], by simp [h2], fun i hi => ?_⟩
        cases i with
        | zero => rfl
        | succ i => simpa using h3 i (by simpa using hi)
      · cases h
    · cases h
theorem int_val {k : IntKind} {n : Int} {cv : Value} (h : VR μ w S (.int k n) cv) : cv = .int k n := by
  cases h with
  | imm c v h => cases h; rfl
/-- a slice of bytes as a string -/
theorem str_sound (r : HRep μ w S hp) {s d e : TypeId} {a v : AVal} {ca : Value} (hs : P.underlying s = some (.slice e)) (he : P.underlying e = some (.int .u8)) (hd : P.underlying d = some .string) (h : VR μ w S a ca) (hl : loadVal hp false 0 a = some v) :
    ∃ cv, (convert s d ca).run P w = .ok cv w ∧ VR μ w S v cv := by
  have hstr : ∀ ns : List Int, VR μ w S (.str (ns.map fun n => UInt8.ofNat n.toNat)) (.string (strOfNums ns)) := fun ns => by
    rw [← strOfNums_data]; exact .imm _ _ (.str _)
  have hempty : ∀ (A : Option Addr) (cap : Nat), (convert s d (.slice A 0 cap)).run P w = .ok (.string (strOfNums [])) w := fun A cap => by
    cases A with
    | none => exact run_convert_bytes_nil w s e hs he 0 cap d hd
    | some ad =>
      rw [run_convert_bytes_string w s d e _ 0 cap hs he hd, run_bytesToString w ad 0 cap [] (run_loadCells_list (P := P) w ad [] (fun j v hj => by simp at hj))]
      rfl
  unfold loadVal at hl
  rw [if_pos ⟨rfl, rfl⟩] at hl
  unfold strVal at hl
  split at hl
  · cases hl
    cases h with
    | imm c v h =>
      cases h with
      | zsl A => exact ⟨_, hempty A 0, hstr []⟩
  · rename_i e1 xs
    split at hl
    · rename_i h1
      subst h1
      split at hl
      · rename_i cs hcs
        cases hl
        obtain ⟨ns, k1, rfl, k3⟩ := byteRows_inv hcs
        cases h with
        | imm c v h =>
          cases h with
          | imm e xs A cap g hl hn he' hc hv =>
            cases ns with
            | nil =>
              have hx : xs.length = 0 := k1.symm
              exact ⟨_, by rw [hx]; exact hempty A cap, hstr []⟩
            | cons n0 ns =>
              have h0 := k3 0 (by simp)
              obtain ⟨m, o, rfl, _, _⟩ := hc 0 _ 0 _ h0 rfl
              refine ⟨_, run_convert_bytes_arg w s e hs he m o xs.length cap (n0 :: ns) k1 (fun i hi => ?_) d hd, hstr _⟩
              have hx := k3 i (by rw [k1]; exact hi)
              obtain ⟨m', o', hA, _, hcell⟩ := hc i _ 0 _ hx rfl
              cases hA
              rw [Nat.mul_one, Nat.add_zero] at hcell
              rw [hcell]
              have := hv i _ 0 _ hx rfl
              generalize g i 0 = gv at this ⊢
              cases this
              rfl
      · cases hl
    · cases hl
  · rename_i b off len e1
    split at hl
    · rename_i k hk
      split at hl
      · rename_i h1
        obtain ⟨rfl, h1⟩ := h1
        split at hl
        · rename_i cs hcs
          cases hl
          obtain ⟨ns, k1, rfl, k3⟩ := byteRows_inv hcs
          have hb := r.live b k hk
          have hlen : ns.length = len := by rw [k1]; simp; omega
          have hsl := h.sl_inv
          generalize hμ : μ b = l at hb hsl
          cases l with
          | free => exact hb.elim
          | dead => exact hb.elim
          | void =>
            obtain ⟨_, h2, A, rfl⟩ := hsl
            have : ns = [] := List.length_eq_zero_iff.1 (hlen.trans h2)
            subst this
            exact ⟨_, hempty A 0, hstr []⟩
          | here m n e' =>
            obtain ⟨rfl, cap, rfl, h2, h3⟩ := hsl
            have hke : k.e = 1 := hb.1.symm
            refine ⟨_, run_convert_bytes_arg w s e hs he m (off * 1) len cap ns hlen (fun i hi => ?_) d hd, hstr _⟩
            have hx := k3 i (by omega)
            rw [List.getElem?_take, if_pos hi, List.getElem?_drop] at hx
            obtain ⟨m', n', u, hl', _, _, hcell, hr⟩ := blk_cells hb hx (j := 0) rfl
            simp only [Loc.here.injEq] at hl'
            obtain ⟨rfl, _, _⟩ := hl'
            rw [hke, Nat.mul_one, Nat.add_zero] at hcell
            rw [Nat.mul_one, hcell, int_val hr.vr]
        · cases hl
      · cases hl
    · cases hl
  · cases hl
end

end AM
end Go.Proofs.Ytfelhbeiegppgaa
