/-
  slices.Insert of one element, in plain form: from what it does to memory.
-/
import Derived.Test.YtfelhbeiegppgaaCopyK
set_option linter.unusedVariables false
set_option linter.unusedSimpArgs false
namespace Go.Proofs.Ytfelhbeiegppgaa
open Go.RowKit Go.Lib Go

/-- what is given back: a slice that holds these cells, where the old one stood or in a new row -/
def InsPost (k : Nat) (w : World) (b n : Nat) (cells : List Value) (e : Ending) (w' : World) : Prop :=
  ∃ (g cap N' : Nat) (cur' : Array Value) (t' : TypeId), e = .returned (.slice (some ⟨g, 0, none⟩) n cap) ∧ w'.heap[g]? = some (.cells cur' t' (0, 0)) ∧ cur'.size = N' * k ∧ cap ≤ N' ∧ n ≤ cap ∧
    (∀ (j : Nat) (v : Value), cells[j]? = some v → cur'[j]? = some v) ∧ (g = b ∨ w.heap.size ≤ g) ∧ w'.os = w.os ∧ w'.tape = w.tape ∧ w'.output = w.output ∧ w.heap.size ≤ w'.heap.size ∧ ∀ m, m < w.heap.size → m ≠ g → w'.heap[m]? = w.heap[m]?

namespace NM
open AM

section
variable {μ : Nat → AM.Loc} {w w' : World} {S : Nat → Prop} {hp1 hp2 : Heap}

/-- blocks that are given up, and one more -/
def locs (μ : Nat → AM.Loc) (len : Nat) (dead : Nat → Bool) (l : AM.Loc) (b : Nat) : AM.Loc := if b = len then l else if b < len ∧ dead b = true then .dead else μ b
theorem place (r1 : HRep μ w S hp1) {g N' e : Nat} {K2 : AM.Blk} {dead : Nat → Bool} (hlen : hp2.length = hp1.length + 1) (h2 : hp2[hp1.length]? = some (.live K2))
    (hold : ∀ b, b < hp1.length → hp2[b]? = if dead b = true then some .dead else hp1[b]?)
    (hg : w.heap.size ≤ g ∨ ∃ b0 n' e', b0 < hp1.length ∧ dead b0 = true ∧ μ b0 = .here g n' e')
    (hblk : BlkR (locs μ hp1.length dead (.here g N' e)) w' S (.here g N' e) K2)
    (hfr : ∀ m, m < w.heap.size → m ≠ g → w'.heap[m]? = w.heap[m]?) (hsz : w.heap.size ≤ w'.heap.size) (hos : w'.os = w.os) (htp : w'.tape = w.tape) (hou : w'.output = w.output) :
    HRep (locs μ hp1.length dead (.here g N' e)) w' S hp2 ∧ Ext μ S w (locs μ hp1.length dead (.here g N' e)) S w' ∧ ∀ b, b < hp1.length → μ b ≠ .free → locs μ hp1.length dead (.here g N' e) b = μ b ∨ locs μ hp1.length dead (.here g N' e) b = .dead := by
  have hup : Up μ (locs μ hp1.length dead (.here g N' e)) := fun b hb => by
    have hbl : b ≠ hp1.length := fun h => hb (r1.free b (.inr (by omega)))
    unfold locs
    rw [if_neg hbl]
    split
    · exact .inr rfl
    · exact .inl rfl
  have hgS : ∀ m, S m → m ≠ g := fun m hm he => by
    subst he
    rcases hg with h | ⟨b0, n', e', _, _, h⟩
    · have := r1.inS m hm; omega
    · exact r1.apart m ⟨b0, n', e', h⟩ hm
  have hgo : ∀ b m n e', μ b = .here m n e' → ¬ (b < hp1.length ∧ dead b = true) → m ≠ g := fun b m n e' hb hd he => by
    subst he
    rcases hg with h | ⟨b0, n', e'', hb0, hd0, h⟩
    · have := r1.lt ⟨b, n, e', hb⟩; omega
    · have := r1.inj b b0 m n n' e' e'' hb h
      subst this
      exact hd ⟨hb0, hd0⟩
  have hat : ∀ b, b ≠ hp1.length → ¬ (b < hp1.length ∧ dead b = true) → locs μ hp1.length dead (.here g N' e) b = μ b := fun b h1 h2 => by unfold locs; rw [if_neg h1, if_neg h2]
  have hnl : locs μ hp1.length dead (.here g N' e) hp1.length = .here g N' e := by unfold locs; rw [if_pos rfl]
  have inv : ∀ b m n e', locs μ hp1.length dead (.here g N' e) b = .here m n e' → (b = hp1.length ∧ m = g) ∨ (b ≠ hp1.length ∧ ¬ (b < hp1.length ∧ dead b = true) ∧ μ b = .here m n e') := fun b m n e' h => by
    unfold locs at h
    split at h
    · rename_i hb; cases h; exact .inl ⟨hb, rfl⟩
    · rename_i hb
      split at h
      · cases h
      · rename_i hd; exact .inr ⟨hb, hd, h⟩
  refine ⟨⟨fun b k hb => ?_, fun b hb => ?_, fun b hb => ?_, fun b b' m n n' e1 e2 h1 h2 => ?_, fun m ho => ?_, fun m hm => Nat.lt_of_lt_of_le (r1.inS m hm) hsz, r1.gl.mono (fun m hm => hfr m (r1.inS m hm) (hgS m hm)) (fun _ h => h)⟩, ⟨hos, htp, hou, hsz, fun m hm ho => hfr m hm fun he => ?_, fun _ h => h, fun m hm => .inl hm, fun m ho => ?_⟩, fun b hb hf => hup b hf⟩
  · rw [aget_iff] at hb
    by_cases hbl : b = hp1.length
    · subst hbl
      rw [h2] at hb
      cases hb
      rw [hnl]
      exact hblk
    · have hb1 : b < hp1.length := by
        have := (List.getElem?_eq_some_iff.1 hb).1
        omega
      rw [hold b hb1] at hb
      split at hb
      · cases hb
      · rename_i hd
        have hd : ¬ (b < hp1.length ∧ dead b = true) := fun h => hd h.2
        rw [hat b hbl hd]
        exact (r1.live b k (aget_iff.2 hb)).mono hup (fun m hm => hfr m (r1.inS m hm) (hgS m hm)) (fun _ h => h) fun m n e' he => hfr m (r1.lt ⟨b, n, e', he⟩) (hgo b m n e' he hd)
  · by_cases hbl : b = hp1.length
    · subst hbl
      rw [aget_iff.2 h2] at hb; cases hb
    · by_cases hd : b < hp1.length ∧ dead b = true
      · right; unfold locs; rw [if_neg hbl, if_pos hd]
      · rw [hat b hbl hd]
        by_cases hb1 : b < hp1.length
        · refine r1.gone b ?_
          unfold Heap.get at hb ⊢
          rw [hold b hb1, if_neg (fun h => hd ⟨hb1, h⟩)] at hb
          exact hb
        · exact .inl (r1.free b (.inr (by omega)))
  · have hbl : b ≠ hp1.length := fun he => by
      subst he
      rcases hb with hb | hb
      · unfold Heap.isFree at hb; rw [h2] at hb; cases hb
      · omega
    by_cases hb1 : b < hp1.length
    · rcases hb with hb | hb
      · unfold Heap.isFree at hb
        rw [hold b hb1] at hb
        split at hb
        · rename_i hs
          split at hs
          · cases hs
          · rename_i hd
            rw [hat b hbl (fun h => hd h.2)]
            exact r1.free b (.inl (by unfold Heap.isFree; rw [hs]))
        · cases hb
      · omega
    · rw [hat b hbl (fun h => hb1 h.1)]
      exact r1.free b (.inr (by omega))
  · rcases inv _ _ _ _ h1 with ⟨rfl, rfl⟩ | ⟨a1, a2, a3⟩
    · rcases inv _ _ _ _ h2 with ⟨rfl, _⟩ | ⟨c1, c2, c3⟩
      · rfl
      · exact absurd rfl (hgo _ _ _ _ c3 c2)
    · rcases inv _ _ _ _ h2 with ⟨rfl, rfl⟩ | ⟨c1, c2, c3⟩
      · exact absurd rfl (hgo _ _ _ _ a3 a2)
      · exact r1.inj b b' m n n' e1 e2 a3 c3
  · obtain ⟨b, n, e', hb⟩ := ho
    rcases inv _ _ _ _ hb with ⟨_, rfl⟩ | ⟨_, _, a3⟩
    · exact fun hS => hgS _ hS rfl
    · exact r1.apart m ⟨b, n, e', a3⟩
  · subst he
    rcases hg with h | ⟨b0, n', e', _, _, h⟩
    · omega
    · exact ho ⟨b0, n', e', h⟩
  · obtain ⟨b, n, e', hb⟩ := ho
    rcases inv _ _ _ _ hb with ⟨_, rfl⟩ | ⟨_, _, a3⟩
    · rcases hg with h | ⟨b0, n', e'', _, _, h⟩
      · exact .inr h
      · exact .inl ⟨b0, n', e'', h⟩
    · exact .inl ⟨b, n, e', a3⟩

/-- a block of the call's own, in its one form: where its elements' cells lie -/
theorem blk_at {t : Ty} {m N e' : Nat} {xs : List (den t)} (h : BlkR μ w S (.here m N e') ⟨(ops t).size, true, xs.map (acells t)⟩) :
    e' = (ops t).size ∧ xs.length ≤ N ∧ ∃ (cells : Array Value) (tt : TypeId), w.heap[m]? = some (.cells cells tt (0, 0)) ∧ cells.size = N * (ops t).size ∧
      ∀ (i : Nat) (x : den t) (j : Nat) (c : AVal), xs[i]? = some x → (acells t x)[j]? = some c → ∃ v, cells[i * (ops t).size + j]? = some v ∧ IR w S c v ∧ oneV v = true := by
  obtain ⟨h1, h2, h3, cells, tt, h4, h5, h6⟩ := h
  refine ⟨h1, by simpa using h2, cells, tt, h4, h5, fun i x j c hx hc => ?_⟩
  obtain ⟨v, hv, hR⟩ := h6 i (acells t x) j c (by rw [List.getElem?_map, hx]; rfl) hc
  exact ⟨v, hv, hR.1, hR.2⟩
theorem acells_len (t : Ty) (x : den t) : (acells t x).length = (ops t).size := by
  rw [← (acells_rel t x).1]; exact (good t).1 x
theorem rowIx {r k j n : Nat} (hr : r < n) (hj : j < k) : r * k + j < n * k := by
  have h1 : (r + 1) * k ≤ n * k := Nat.mul_le_mul_right k hr
  rw [Nat.succ_mul] at h1
  omega
/-- each cell of a block's elements holds one cell's value -/
theorem blk_one {t : Ty} {cells : Array Value} {xs : List (den t)}
    (h : ∀ (i : Nat) (x : den t) (j : Nat) (c : AVal), xs[i]? = some x → (acells t x)[j]? = some c → ∃ v, cells[i * (ops t).size + j]? = some v ∧ IR w S c v ∧ oneV v = true) :
    ∀ j v, j < xs.length * (ops t).size → cells[j]? = some v → v.oneCell' = true := fun j v hj hv => by
  have hk : 0 < (ops t).size := by
    rcases Nat.eq_zero_or_pos (ops t).size with h0 | h0
    · rw [h0] at hj; omega
    · exact h0
  have hq : j / (ops t).size < xs.length := (Nat.div_lt_iff_lt_mul hk).2 hj
  have hr : j % (ops t).size < (acells t xs[j / (ops t).size]).length := by rw [acells_len]; exact Nat.mod_lt _ hk
  obtain ⟨v', hv', _, h1⟩ := h _ _ _ _ (List.getElem?_eq_getElem hq) (List.getElem?_eq_getElem hr)
  rw [Nat.mul_comm, Nat.div_add_mod] at hv'
  rw [hv] at hv'
  cases hv'
  rw [one_eq]; exact h1
end

structure RawIns (P : Program) (f k bytes : Nat) : Prop where
  ent : AM.Enters P f
  pos : 0 < k
  here : ∀ (w : World) (m N n c i vb vc : Nat) (cur vcur : Array Value) (tb tv : TypeId), i ≤ n → n ≤ c → c ≤ N → (n + 1) * bytes ≤ 140737488355328 → n ≤ 4294967296 → vb ≠ m → w.heap[m]? = some (.cells cur tb (0, 0)) → cur.size = N * k → w.heap[vb]? = some (.cells vcur tv (0, 0)) → k ≤ vcur.size →
    (∀ j v, j < n * k → cur[j]? = some v → v.oneCell' = true) → (∀ j v, j < k → vcur[j]? = some v → v.oneCell' = true) →
    Calls P f #[.slice (some ⟨m, 0, none⟩) n c, .int .i64 i, .slice (some ⟨vb, 0, none⟩) 1 vc] w (InsPost k w m (n + 1) (cur.toList.take (i * k) ++ vcur.toList.take k ++ (cur.toList.take (n * k)).drop (i * k)))
  void : ∀ (w : World) (A : Option Addr) (vb vc : Nat) (vcur : Array Value) (tv : TypeId), w.heap[vb]? = some (.cells vcur tv (0, 0)) → k ≤ vcur.size →
    Calls P f #[.slice A 0 0, .int .i64 0, .slice (some ⟨vb, 0, none⟩) 1 vc] w (InsPost k w w.heap.size (0 + 1) (vcur.toList.take k))

@[reducible] def sigI (t : Ty) : Sig := ⟨.cons (.slw 0 (ops t).size) (.cons (.v (.int .i64)) (.cons (.slw 1 (ops t).size) .nil)), [.typed t, .typed t], (.slw 2 (ops t).size, [.dead, .typed t, .typed t]), []⟩
@[reducible] def sigIZ (t : Ty) : Sig := ⟨.cons .zsl (.cons (.v (.int .i64)) (.cons (.slw 0 (ops t).size) .nil)), [.typed t], (.slw 1 (ops t).size, [.typed t, .typed t]), []⟩
def insL {α : Type} (i : Nat) (xs : List α) (v : α) : List α := xs.take i ++ v :: xs.drop i
def insertG {α : Type} (bytes : Nat) (i : Int) (xs vs : List α) : Option (Unit × (Unit × (List α × (List α × Unit)))) := match vs with
  | [v] => cond (decide (0 ≤ i) && (decide (i.toNat ≤ xs.length) && smallB (xs.length + 1) bytes)) (some ((), ((), ([v], (insL i.toNat xs v, ()))))) none
  | _ => none
def insertZ {α : Type} (bytes : Nat) (i : Int) (vs : List α) : Option (Unit × (List α × (List α × Unit))) := match vs with
  | [v] => cond (decide (i = 0)) (some ((), ([v], ([v], ())))) none
  | _ => none
/-- the cells of a list with one more element -/
theorem ins_rows {w w' : World} {S : Nat → Prop} {μ : Nat → AM.Loc} {t : Ty} {xs : List (den t)} {v : den t} {i N' g : Nat} {CS : List Value} {cur vcur cur' : Array Value} {t' : TypeId} (hi : i ≤ xs.length) (hpos : 0 < (ops t).size)
    (hx : ∀ (i : Nat) (x : den t) (j : Nat) (c : AVal), xs[i]? = some x → (acells t x)[j]? = some c → ∃ v, cur[i * (ops t).size + j]? = some v ∧ IR w S c v ∧ oneV v = true)
    (hv : ∀ (j : Nat) (c : AVal), (acells t v)[j]? = some c → ∃ u, vcur[j]? = some u ∧ IR w S c u ∧ oneV u = true)
    (hcur : xs.length * (ops t).size ≤ cur.size) (hvs : (ops t).size ≤ vcur.size)
    (hCS : CS = cur.toList.take (i * (ops t).size) ++ vcur.toList.take (ops t).size ++ (cur.toList.take (xs.length * (ops t).size)).drop (i * (ops t).size))
    (hfin : ∀ (j : Nat) (v : Value), CS[j]? = some v → cur'[j]? = some v) (hg : w'.heap[g]? = some (.cells cur' t' (0, 0))) (hsz : cur'.size = N' * (ops t).size) (hN : xs.length + 1 ≤ N')
    (hS : ∀ m, S m → w'.heap[m]? = w.heap[m]?) : BlkR μ w' S (.here g N' (ops t).size) ⟨(ops t).size, true, (insL i xs v).map (acells t)⟩ := by
  have hlen : (insL i xs v).length = xs.length + 1 := by simp [insL]; omega
  have hl1 : (cur.toList.take (i * (ops t).size)).length = i * (ops t).size := by
    have : i * (ops t).size ≤ xs.length * (ops t).size := Nat.mul_le_mul_right _ hi
    rw [List.length_take, Array.length_toList]; omega
  have hl2 : (vcur.toList.take (ops t).size).length = (ops t).size := by rw [List.length_take, Array.length_toList]; omega
  refine ⟨rfl, by rw [List.length_map, hlen]; exact hN, fun r x hr => ?_, cur', t', hg, hsz, fun r x j c hr hc => ?_⟩
  · rw [List.getElem?_map, Option.map_eq_some_iff] at hr
    obtain ⟨y, _, rfl⟩ := hr
    exact acells_len t y
  · rw [List.getElem?_map, Option.map_eq_some_iff] at hr
    obtain ⟨y, hy, rfl⟩ := hr
    have hj : j < (ops t).size := by
      have := (List.getElem?_eq_some_iff.1 hc).1
      rw [acells_len] at this; exact this
    have key : ∃ u, CS[r * (ops t).size + j]? = some u ∧ IR w S c u ∧ oneV u = true := by
      have htl : (xs.take i).length = i := by rw [List.length_take]; omega
      unfold insL at hy
      rw [List.getElem?_append] at hy
      rw [htl] at hy
      split at hy
      · rename_i hri
        rw [List.getElem?_take, if_pos hri] at hy
        obtain ⟨u, hu, h1, h2⟩ := hx r y j c hy hc
        refine ⟨u, ?_, h1, h2⟩
        have hlt := rowIx hri hj
        rw [hCS, List.append_assoc, List.getElem?_append_left (by rw [hl1]; exact hlt), List.getElem?_take, if_pos hlt, Array.getElem?_toList]
        exact hu
      · rename_i hri
        by_cases hre : r = i
        · subst hre
          rw [Nat.sub_self] at hy
          simp only [List.getElem?_cons_zero, Option.some.injEq] at hy
          subst hy
          obtain ⟨u, hu, h1, h2⟩ := hv j c hc
          refine ⟨u, ?_, h1, h2⟩
          rw [hCS, List.append_assoc, List.getElem?_append_right (by rw [hl1]; omega), hl1, Nat.add_sub_cancel_left, List.getElem?_append_left (by rw [hl2]; exact hj), List.getElem?_take, if_pos hj, Array.getElem?_toList]
          exact hu
        · obtain ⟨q, rfl⟩ : ∃ q, r = i + 1 + q := ⟨r - i - 1, by omega⟩
          rw [show i + 1 + q - i = q + 1 by omega, List.getElem?_cons_succ, List.getElem?_drop] at hy
          obtain ⟨u, hu, h1, h2⟩ := hx (i + q) y j c hy hc
          refine ⟨u, ?_, h1, h2⟩
          have hq := (List.getElem?_eq_some_iff.1 hy).1
          have hlt := rowIx hq hj
          have e1 : (i + 1 + q) * (ops t).size + j = i * (ops t).size + (ops t).size + (q * (ops t).size + j) := by
            rw [Nat.add_mul, Nat.add_mul, Nat.one_mul]; omega
          have e2 : (i + q) * (ops t).size + j = i * (ops t).size + (q * (ops t).size + j) := by
            rw [Nat.add_mul]; omega
          rw [e2] at hu hlt
          rw [hCS, e1, List.getElem?_append_right (by rw [List.length_append, hl1, hl2]; omega), List.length_append, hl1, hl2, Nat.add_sub_cancel_left, List.getElem?_drop, List.getElem?_take, if_pos hlt, Array.getElem?_toList]
          exact hu
    obtain ⟨u, h1, h2, h3⟩ := key
    exact ⟨u, hfin _ _ h1, h2.mono hS (fun _ h => h), h3⟩

theorem arr3 {cargs : Array Value} (h : cargs.size = 3) : ∃ a b c, cargs = #[a, b, c] := by
  refine ⟨cargs[0], cargs[1], cargs[2], ?_⟩
  apply Array.ext
  · simp [h]
  · intro i h1 h2
    have : i = 0 ∨ i = 1 ∨ i = 2 := by omega
    rcases this with rfl | rfl | rfl <;> simp
theorem lenAt_typed {h : HS} {t : Ty} {l : List HS} {xs : List (den t)} {x : denH l} {n : Nat} (hl : lenAt (putH (.typed t :: l) (xs, x)) 0 n) : n = xs.length := by
  simp only [lenAt, putH, putS, List.getElem?_cons_zero, NBlk.len] at hl
  exact hl.symm
theorem lenAt_typed1 {h : HS} {t : Ty} {l : List HS} {y : h.den} {xs : List (den t)} {x : denH l} {n : Nat} (hl : lenAt (putH (h :: .typed t :: l) (y, (xs, x))) 1 n) : n = xs.length := by
  simp only [lenAt, putH, putS, List.getElem?_cons_succ, List.getElem?_cons_zero, NBlk.len] at hl
  exact hl.symm

theorem NOk.insert {P : Program} {f bytes : Nat} (t : Ty) (h : RawIns P f (ops t).size bytes) : NOk P ⟨f, sigI t, fun x hh => insertG bytes x.2.1 hh.1 hh.2.1⟩ := by
  refine ⟨h.ent, rfl, fun x hh y hy args ahp ha hb => ?_⟩
  obtain ⟨u0, iz, u1, u2⟩ := x
  obtain ⟨xs, vs, u3⟩ := hh
  have hy : insertG bytes iz xs vs = some y := hy
  rcases vs with _ | ⟨v, _ | ⟨v', vs⟩⟩
  · cases hy
  · unfold insertG at hy
    cases hcond : (decide (0 ≤ iz) && (decide (iz.toNat ≤ xs.length) && smallB (xs.length + 1) bytes)) with
    | false => rw [hcond] at hy; cases hy
    | true =>
      rw [hcond] at hy
      cases hy
      simp only [Bool.and_eq_true, decide_eq_true_eq] at hcond
      obtain ⟨c1, c2, c3⟩ := hcond
      obtain ⟨c4, c5⟩ := smallB_inv c3
      intro μ w S cargs r0 hl hv
      simp only [puts, put, putV, Ty.isAgg] at ha
      obtain ⟨a0, as0, rfl, h0, ha⟩ := ha.cons_inv
      obtain ⟨a1, as1, rfl, h1, ha⟩ := ha.cons_inv
      obtain ⟨a2, as2, rfl, h2, ha⟩ := ha.cons_inv
      rw [ha.nil_inv] at hl hv
      obtain ⟨v0, v1, v2, rfl⟩ := arr3 (by simpa using hl.symm)
      obtain ⟨n0, e0, l0⟩ := (RT.v h0).slw_inv
      obtain ⟨n2, e2, l2⟩ := (RT.v h2).slw_inv
      have e1 : a1 = .int .i64 iz := (RT.v h1).int_inv
      subst e0; subst e1; subst e2
      have hn0 := lenAt_typed (h := .dead) l0
      have hn2 := lenAt_typed1 l2
      subst hn0; subst hn2
      have s0 := (hv 0 _ v0 rfl rfl).sl_inv
      have s1 := (hv 1 _ v1 rfl rfl).int_inv
      have s2 := (hv 2 _ v2 rfl rfl).sl_inv
      subst s1
      have r1 : HRep μ w S [.live ⟨(ops t).size, true, xs.map (acells t)⟩, .live ⟨(ops t).size, true, [v].map (acells t)⟩] := hrep_conv r0 (canH_conv (l := [.typed t, .typed t]) (x := (xs, ([v], ()))) putH_lens rfl hb)
      have B0 := r1.live 0 _ rfl
      have B1 := r1.live 1 _ rfl
      have hlen : ahp.length = 2 := by rw [← hb.1]; rfl
      -- the element
      cases m1 : μ 1 with
      | free => rw [m1] at B1; exact B1.elim
      | dead => rw [m1] at B1; exact B1.elim
      | void => rw [m1] at B1; cases B1
      | here vb N1 ev =>
        rw [m1] at B1 s2
        obtain ⟨hev, hN1, vcur, tv, hvc, hvsz, hvr⟩ := blk_at B1
        subst hev
        obtain ⟨_, vc, rfl, _, hvc1⟩ := s2
        simp only [List.length_cons, List.length_nil, Nat.zero_add] at hN1 hvc1 ⊢
        have hvk : (ops t).size ≤ vcur.size := by rw [hvsz]; exact Nat.le_mul_of_pos_left _ hN1
        have hvone := blk_one (xs := [v]) hvr
        simp only [List.length_cons, List.length_nil, Nat.zero_add, Nat.one_mul] at hvone
        have hvv : ∀ (j : Nat) (c : AVal), (acells t v)[j]? = some c → ∃ u, vcur[j]? = some u ∧ IR w S c u ∧ oneV u = true := fun j c hc => by
          have := hvr 0 v j c rfl hc
          simpa using this
        rw [Nat.zero_mul]
        have hiz : iz = (Int.toNat iz : Int) := (Int.toNat_of_nonneg c1).symm
        have done : ∀ (b : Nat) (cur : Array Value) (CS : List Value) (e : Ending) (w' : World), InsPost (ops t).size w b (xs.length + 1) CS e w' →
            CS = cur.toList.take (iz.toNat * (ops t).size) ++ vcur.toList.take (ops t).size ++ (cur.toList.take (xs.length * (ops t).size)).drop (iz.toNat * (ops t).size) →
            (∀ (i : Nat) (x : den t) (j : Nat) (c : AVal), xs[i]? = some x → (acells t x)[j]? = some c → ∃ v, cur[i * (ops t).size + j]? = some v ∧ IR w S c v ∧ oneV v = true) → xs.length * (ops t).size ≤ cur.size →
            (w.heap.size ≤ b ∨ ∃ n' e', μ 0 = .here b n' e') →
            ∃ v' μ' S', e = .returned v' ∧ HRep μ' w' S' (yB (sigI t).res (sigI t).more ((), ((), ([v], (insL iz.toNat xs v, ()))))) ∧ Ext μ S w μ' S' w' ∧ VR μ' w' S' (yA (sigI t).res (sigI t).more ((), ((), ([v], (insL iz.toNat xs v, ()))))) v' ∧ ahp.length ≤ (yB (sigI t).res (sigI t).more ((), ((), ([v], (insL iz.toNat xs v, ()))))).length ∧ ∀ b, b < ahp.length → μ b ≠ .free → μ' b = μ b ∨ μ' b = .dead := by
          intro b cur CS e w' hpost hCS hxr hcur hb0
          obtain ⟨g, cap, N', cur', t', rfl, p1, p2, p3, p4, p5, p6, p7, p8, p9, p10, p11⟩ := hpost
          have hS : ∀ m, S m → w'.heap[m]? = w.heap[m]? := fun m hm => p11 m (r1.inS m hm) fun he => by
            subst he
            rcases p6 with rfl | h
            · rcases hb0 with h | ⟨n', e', h⟩
              · have := r1.inS m hm; omega
              · exact r1.apart m ⟨0, n', e', h⟩ hm
            · have := r1.inS m hm; omega
          have hg : w.heap.size ≤ g ∨ ∃ b0 n' e', b0 < 2 ∧ (fun b => b == 0) b0 = true ∧ μ b0 = .here g n' e' := by
            rcases p6 with rfl | h
            · rcases hb0 with h | ⟨n', e', h⟩
              · exact .inl h
              · exact .inr ⟨0, n', e', by omega, rfl, h⟩
            · exact .inl h
          obtain ⟨q1, q2, q3⟩ := place (hp2 := [.dead, .live ⟨(ops t).size, true, [v].map (acells t)⟩, .live ⟨(ops t).size, true, (insL iz.toNat xs v).map (acells t)⟩]) (dead := fun b => b == 0) r1 rfl rfl (fun b hb => by
              have : b = 0 ∨ b = 1 := by simp at hb; omega
              rcases this with rfl | rfl <;> rfl) hg
            (ins_rows (μ := locs μ 2 (fun b => b == 0) (.here g N' (ops t).size)) c2 h.pos hxr hvv hcur hvk hCS p5 p1 p2 (by omega) hS) p11 p10 p7 p8 p9
          refine ⟨_, _, S, rfl, q1, q2, ?_, by rw [hlen]; exact Nat.le_succ 2, fun b hb hf => q3 b (by rw [hlen] at hb; exact hb) hf⟩
          have e3 : yA (sigI t).res (sigI t).more ((), ((), ([v], (insL iz.toNat xs v, ())))) = .sl 2 0 (xs.length + 1) (ops t).size := by
            have : (insL iz.toNat xs v).length = xs.length + 1 := by simp [insL]; omega
            simp [yA, outA, can, lensOf, putH, putS, nget, NBlk.len, this]
          rw [e3]
          refine .sl _ _ _ _ _ ?_
          show SlAt (.here g N' (ops t).size) 0 (xs.length + 1) (ops t).size _
          exact ⟨rfl, cap, by rw [Nat.zero_mul], by omega, p4⟩
        have hm01 : ∀ m n' e', μ 0 = .here m n' e' → vb ≠ m := fun m n' e' h0 he => by
          subst he
          have := r1.inj 1 0 vb N1 n' _ e' m1 h0
          cases this
        cases m0 : μ 0 with
        | free => rw [m0] at B0; exact B0.elim
        | dead => rw [m0] at B0; exact B0.elim
        | void =>
          rw [m0] at B0 s0
          have hx0 : xs = [] := by
            have : xs.map (acells t) = [] := B0
            simpa using this
          subst hx0
          obtain ⟨_, _, A, rfl⟩ := s0
          have hz0 : Int.toNat iz = 0 := Nat.le_zero.1 c2
          have hi0 : iz = 0 := by rw [hz0] at hiz; exact hiz
          subst hi0
          refine (h.void w A vb vc vcur tv hvc hvk).mono fun e w' hp => done w.heap.size #[] _ e w' hp (by simp) (fun i x j c hx => by simp at hx) (by simp) (.inl (Nat.le_refl _))
        | here m N e0 =>
          rw [m0] at B0 s0
          obtain ⟨he0, hN0, cur, tb, hcc, hcsz, hcr⟩ := blk_at B0
          subst he0
          obtain ⟨_, c, rfl, hcN, hcx⟩ := s0
          rw [Nat.zero_mul, hiz]
          have hsm : (xs.length + 1) * bytes ≤ 140737488355328 := Nat.le_trans c4 (by decide)
          refine (h.here w m N xs.length c iz.toNat vb vc cur vcur tb tv c2 hcx (by omega) hsm (by omega) (hm01 m N _ m0) hcc hcsz hvc hvk (blk_one hcr) hvone).mono fun e w' hp => ?_
          rw [← hiz]
          exact done m cur _ e w' hp rfl hcr (by rw [hcsz]; exact Nat.mul_le_mul_right _ hN0) (.inr ⟨N, _, m0⟩)
  · cases hy
end NM
end Go.Proofs.Ytfelhbeiegppgaa
