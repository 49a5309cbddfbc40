/-
  The check that an operation of the model is the abstract machine's, and that the operations that look at no block of the call's own do in the model what they do in the abstract machine.
-/
import Derived.Test.YtfelhbeiegppgaaAmB
import Derived.WalkKit
set_option linter.unusedVariables false
set_option linter.unusedSimpArgs false
namespace Go.Proofs.Ytfelhbeiegppgaa
namespace AM

def constB : AVal → Value → Bool
  | .bool a, .bool b => a == b
  | .int k a, .int k' b => decide (k = k') && decide (a = b)
  | .str l, .string s => l == s.data.toList
  | .nilp, .pointer none => true
  | .zsl, .slice none 0 0 => true
  | .nilfn, .nilFunc => true
  | .nili, .nilIface => true
  | .fl n, .float .f64 x => decide (x = Fl.bits n)
  | .cx a b, .complex .f64 x y => decide (x = Fl.bits a) && decide (y = Fl.bits b)
  | _, _ => false

def all2 {α β : Type} (f : α → β → Bool) : List α → List β → Bool
  | [], [] => true
  | x :: xs, y :: ys => f x y && all2 f xs ys
  | _, _ => false

def constV : AVal → Value → Bool
  | .agg cs, .agg a => all2 constB cs a.toList
  | .undef, _ => true
  | c, v => constB c v

def chkOpd : Operand → Opd → Bool
  | .tmp t, .tmp u => t == u
  | .const v, .const c => constV c v
  | .func f, .func g => f == g
  | .global g, .glob h => g == h
  | _, _ => false

def chkOpt : Option Operand → Option Opd → Bool
  | none, none => true
  | some x, some y => chkOpd x y
  | _, _ => false

def szB (P : Program) (t : TypeId) (n : Nat) : Bool := match P.info? t with | some i => i.size == n | none => false
def bytesB (P : Program) (t : TypeId) (n : Nat) : Bool := match P.info? t with | some i => i.bytes == n | none => false
def isAggD : TypeDesc → Bool
  | .struct _ | .array _ _ => true
  | _ => false
def aggB (P : Program) (t : TypeId) (b : Bool) : Bool := match P.underlying t with | some d => isAggD d == b | none => false
def zeroB (P : Program) (t : TypeId) (zs : List AVal) : Bool := match P.info? t with
  | some i => match i.zero with | some z => all2 constB zs z.cells.toList && i.size == zs.length | none => false
  | none => false

def chkPart (P : Program) (fs : Array Field) (p : Nat × Operand) (q : Nat × Nat × Opd) : Bool :=
  match fs[p.1]? with
  | some f => f.offset == q.1 && szB P f.type q.2.1 && chkOpd p.2 q.2.2
  | none => false

def eqNe : BinOp → Option Bool
  | .eql => some false
  | .neq => some true
  | _ => none

/-- the kinds of a type's cells, in their order -/
def eqKs (P : Program) : Nat → TypeId → Option (List CK)
  | 0, _ => none
  | d + 1, t => match P.underlying t with
    | some .bool => some [.bool]
    | some (.int k) => some [.int k]
    | some .string => some [.str]
    | some (.struct fs) => if P.stoodInHeld t then none else eqFs P (eqKs P d) 0 fs.toList
    | some (.array n e) => match P.info? e, eqKs P d e with
      | some i, some ks => if i.size = ks.length then some (List.replicate n ks).flatten else none
      | _, _ => none
    | _ => none
where
  eqFs (P : Program) (g : TypeId → Option (List CK)) : Nat → List Field → Option (List CK)
    | _, [] => some []
    | o, f :: fs => match P.info? f.type, g f.type with
      | some i, some ks => if f.name = "_" ∨ f.offset ≠ o ∨ i.size ≠ ks.length then none else match eqFs P g (o + ks.length) fs with
        | some l => some (ks ++ l)
        | none => none
      | _, _ => none

def chkPure (P : Program) (op : Op) (ao : AOp) : Bool :=
  match op, ao with
  | .move x, .move y => chkOpd x y
  | .assign x, .move y => chkOpd x y
  | .pick c a b, .pick c' a' b' => chkOpd c c' && chkOpd a a' && chkOpd b b'
  | .build t parts, .build zero ps => zeroB P t zero && (match P.underlying t with
    | some (.struct fs) => fs.all (fun f => (P.info? f.type).isSome) && all2 (chkPart P fs) parts.toList ps
    | some (.array _ e) => match P.info? e with
      | some i => all2 (fun (p : Nat × Operand) (q : Nat × Nat × Opd) => q.1 == p.1 * i.size && q.2.1 == i.size && chkOpd p.2 q.2.2) parts.toList ps
      | none => false
    | _ => false)
  | .nilCheck x, .nilCheck y => chkOpd x y
  | .binOp op t x y _, .bin op' x' y' => decide (op = op') && chkOpd x x' && chkOpd y y'
  | .binOp op t x y _, .eqB neg x' y' => eqNe op == some neg && (match P.underlying t with | some .bool => true | _ => false) && chkOpd x x' && chkOpd y y'
  | .binOp op t x y _, .eqP neg x' y' => eqNe op == some neg && (match P.underlying t with | some (.pointer _) => true | _ => false) && chkOpd x x' && chkOpd y y'
  | .binOp op t x y _, .eqI neg x' y' => eqNe op == some neg && (match P.underlying t with | some (.slice _) => true | _ => false) && chkOpd x x' && (match y, y' with | .const (.slice none 0 0), .const .zsl => true | _, _ => false)
  | .binOp op t x y _, .eqAgg neg x' y' => eqNe op == some neg.1 && decide (eqKs P 6 t = some neg.2) && (match P.underlying t with | some (.struct _) | some (.array _ _) => true | _ => false) && !P.eqGuardType P.depth t && chkOpd x x' && chkOpd y y'
  | .unOp op _ x, .un op' x' => decide (op = op') && chkOpd x x'
  | .convert s d x, .conv k x' => (P.underlying s).isSome && (match P.underlying d with | some (.int k') => decide (k = k') | _ => false) && chkOpd x x'
  | .slice t x lo hi mx, .slice e x' lo' hi' mx' => (match P.underlying t with | some (.slice el) => szB P el e | _ => false) && chkOpd x x' && chkOpt lo lo' && chkOpt hi hi' && chkOpt mx mx' && (mx'.isNone || hi'.isSome)
  | .slice t x lo hi none, .sliceStr x' lo' hi' => (match P.underlying t with | some .string => true | _ => false) && chkOpd x x' && chkOpt lo lo' && chkOpt hi hi'
  | .fieldAddr s x f, .fieldAddr off x' => (match P.underlying s with
    | some (.struct fs) => match fs[f]? with | some g => g.offset == off && (match P.info? g.type with | some i => i.size != 0 | none => false) | none => false
    | _ => false) && chkOpd x x'
  | .field s x f, .field agg off n x' => (match P.underlying s with
    | some (.struct fs) => match fs[f]? with | some g => g.offset == off && szB P g.type n && aggB P g.type agg | none => false
    | _ => false) && chkOpd x x'
  | .indexAddr t x i, .indexSl e x' i' => e != 0 && (match P.underlying t with | some (.slice el) => szB P el e | _ => false) && chkOpd x x' && chkOpd i i'
  | .indexAddr t x i, .indexArr n e x' i' => (match P.underlying t with | some (.array m el) => m == n && szB P el e | _ => false) && chkOpd x x' && chkOpd i i'
  | .index t x i, .indexVal agg n e x' i' => (match P.underlying t with | some (.array m el) => m == n && szB P el e && aggB P el agg | _ => false) && chkOpd x x' && chkOpd i i'
  | .index t x i, .indexStr x' i' => (match P.underlying t with | some .string => true | _ => false) && chkOpd x x' && chkOpd i i'
  | .extract x i, .extract x' i' => i == i' && chkOpd x x'
  | .makeFunc (.func f) first cap, .makeFunc f' cap' => f == f' && first.isEmpty && all2 chkOpd cap.toList cap'
  | .call { callee := .builtin .len, args, argTypes }, .len x' => (match args.toList, argTypes.toList with | [x], [t] => (match P.underlying t with | some (.slice _) => true | _ => false) && chkOpd x x' | _, _ => false)
  | .call { callee := .builtin .len, args, argTypes }, .lenStr x' => (match args.toList, argTypes.toList with | [x], [t] => (match P.underlying t with | some .string => true | _ => false) && chkOpd x x' | _, _ => false)
  | .call { callee := .builtin .len, args, argTypes }, .move (.const (.int .i64 n)) => (match argTypes.toList, args.toList with | [t], [x] => (match P.underlying t with | some (.array m _) => decide ((m : Int) = n) | _ => false) | _, _ => false)
  | .call { callee := .builtin .min, args, .. }, .minmax false x' y' => (match args.toList with | [x, y] => chkOpd x x' && chkOpd y y' | _ => false)
  | .call { callee := .builtin .max, args, .. }, .minmax true x' y' => (match args.toList with | [x, y] => chkOpd x x' && chkOpd y y' | _ => false)
  | .convert s d x, .flt .ofInt x' y' => (P.underlying s).isSome && (match P.underlying d with | some (.float .f64) => true | _ => false) && chkOpd x x'
  | .convert s d x, .flt .toInt x' y' => (P.underlying s).isSome && (match P.underlying d with | some (.int .i64) => true | _ => false) && chkOpd x x'
  | .binOp .add t x y _, .flt .add x' y' => chkOpd x x' && chkOpd y y'
  | .binOp .sub t x y _, .flt .sub x' y' => chkOpd x x' && chkOpd y y'
  | .binOp .mul t x y _, .flt .mul x' y' => chkOpd x x' && chkOpd y y'
  | .call { callee := .builtin .complex, args, .. }, .flt .mk x' y' => (match args.toList with | [x, y] => chkOpd x x' && chkOpd y y' | _ => false)
  | .call { callee := .builtin .real, args, .. }, .flt .re x' y' => (match args.toList with | [x] => chkOpd x x' | _ => false)
  | .call { callee := .builtin .imag, args, .. }, .flt .im x' y' => (match args.toList with | [x] => chkOpd x x' | _ => false)
  | _, _ => false

theorem IR.of_constB {w : World} {S : Nat → Prop} {c : AVal} {v : Value} (h : constB c v = true) : IR w S c v := by
  unfold constB at h
  split at h <;> first
    | (simp at h; subst h; exact .bool _)
    | (simp at h; obtain ⟨rfl, rfl⟩ := h; exact .int _ _)
    | (simp at h; subst h; exact .str _)
    | exact .nilp
    | exact .zsl _
    | (simp at h; subst h; exact .fl _)
    | (simp at h; obtain ⟨rfl, rfl⟩ := h; exact .cx _ _)
    | exact .nilfn
    | exact .nili
    | cases h

theorem all2_length {α β : Type} {f : α → β → Bool} : ∀ {xs : List α} {ys : List β}, all2 f xs ys = true → xs.length = ys.length
  | [], [], _ => rfl
  | x :: xs, y :: ys, h => by simp [all2] at h; simp [all2_length h.2]
  | [], y :: ys, h => by simp [all2] at h
  | x :: xs, [], h => by simp [all2] at h
theorem all2_get {α β : Type} {f : α → β → Bool} : ∀ {xs : List α} {ys : List β}, all2 f xs ys = true → ∀ (j : Nat) (x : α) (y : β), xs[j]? = some x → ys[j]? = some y → f x y = true
  | [], [], _, j, x, y, hx, _ => by simp at hx
  | x :: xs, y :: ys, h, 0, a, b, hx, hy => by simp at hx hy; subst hx; subst hy; simp [all2] at h; exact h.1
  | x :: xs, y :: ys, h, j + 1, a, b, hx, hy => by simp [all2] at h; simp at hx hy; exact all2_get h.2 j a b hx hy
  | [], y :: ys, h, _, _, _, _, _ => by simp [all2] at h
  | x :: xs, [], h, _, _, _, _, _ => by simp [all2] at h

theorem VR.of_constV {μ : Nat → Loc} {w : World} {S : Nat → Prop} {c : AVal} {v : Value} (h : constV c v = true) : VR μ w S c v := by
  unfold constV at h
  split at h
  · rename_i cs a
    exact .agg cs a (by rw [all2_length h]; simp) fun j c u hj hu => .imm _ _ (.of_constB (all2_get h j c u hj (by simpa using hu)))
  · exact .undef _
  · exact .imm _ _ (.of_constB h)

/-- the state and the frame agree -/
structure Tmps (μ : Nat → Loc) (w : World) (S : Nat → Prop) (tmps : List AVal) (a : Act) : Prop where
  size : tmps.length = a.tmps.size
  vr : ∀ (t : Nat) (v : AVal), tmps[t]? = some v → VR μ w S v (a.tmps.getD t undef)
  defers : a.defers = []

theorem Tmps.look {μ : Nat → Loc} {w : World} {S : Nat → Prop} {tmps : List AVal} {a : Act} (h : Tmps μ w S tmps a) (hg : GlobR w S) {x : Operand} {y : Opd} (hx : chkOpd x y = true) : VR μ w S (look tmps y) (a.eval x) := by
  unfold chkOpd at hx
  split at hx
  · rename_i t u
    simp at hx
    subst hx
    simp only [AM.look, Act.eval]
    cases ht : tmps[t]? with
    | some v => rw [List.getD_eq_getElem?_getD, ht]; exact h.vr t v ht
    | none => rw [List.getD_eq_getElem?_getD, ht]; exact .undef _
  · exact .of_constV hx
  · simp at hx
    subst hx
    exact .imm _ _ (.fn _ [] #[] rfl (by simp))
  · rename_i g b
    simp at hx
    subst hx
    simp only [AM.look, Act.eval]
    cases hb : globOf g globs with
    | some cs => exact .imm _ _ (hg g cs hb).1
    | none => exact .undef _
  · cases hx

theorem add_mk (m o n : Nat) : (⟨m, o, none⟩ : Addr).add n = ⟨m, o + n, none⟩ := by
  unfold Addr.add
  split
  · rename_i h; subst h; rfl
  · rfl

theorem idxNat_inv {c : AVal} {k : Nat} (h : idxNat c = some k) : ∃ kd n, c = .int kd n ∧ 0 ≤ n ∧ n = (k : Int) := by
  unfold idxNat at h
  split at h
  · rename_i kd n
    split at h
    · rename_i h0; simp at h; exact ⟨kd, n, rfl, h0, by omega⟩
    · cases h
  · cases h


section
variable {P : Program} {μ : Nat → Loc} {w : World} {S : Nat → Prop} {ρ : Operand → Value} {r : Opd → AVal}

/-- what an operation gives in the model: a value that is the abstract one, in the same world -/
def Gives (P : Program) (μ : Nat → Loc) (w : World) (S : Nat → Prop) (s : Sem Next) (v : AVal) : Prop := ∃ cv, s.run P w = .ok (.value cv) w ∧ VR μ w S v cv

theorem gives_bin {op : BinOp} {x y : AVal} {t : TypeId} {a b : Value} {xo yo : Operand} {v : AVal} (hx : VR μ w S x a) (hy : VR μ w S y b) (h : binop op x y = some v) :
    ∃ cv, (do eqGuard op t xo yo a b; binOp op t a b : Sem Value).run P w = .ok cv w ∧ VR μ w S v cv := by
  unfold binop at h
  split at h
  · rename_i k m k' n
    have ha := hx.int_inv
    have hb := hy.int_inv
    subst ha
    subst hb
    split at h
    · rename_i hk
      cases op <;> simp only [binInt, isShift, Bool.false_eq_true, or_false, or_true] at h hk <;> (try subst hk) <;> (try (split at h; cases h)) <;> simp only [Option.some.injEq] at h <;> subst h <;>
        first
          | (refine ⟨_, ?_, .imm _ _ (.int _ _)⟩; (cases k <;> rfl); done)
          | (refine ⟨_, ?_, .imm _ _ (.int _ _)⟩; simp [eqGuard, binOp, Op.intArith, Op.intDiv, Op.intBits, Op.intCmp, Op.shift, go_sem, *]; done)
          | (refine ⟨.int k (k.wrap (m * 2 ^ (min n.toNat k.bits))), ?_, .imm _ _ (.int _ _)⟩; show (Op.shift BinOp.shl k m k' n).run P w = _; unfold Op.shift; rw [if_neg (by assumption)]; rfl)
          | (refine ⟨.int k (m.fdiv (2 ^ (min n.toNat k.bits))), ?_, .imm _ _ (.int _ _)⟩; show (Op.shift BinOp.shr k m k' n).run P w = _; unfold Op.shift; rw [if_neg (by assumption)]; rfl)
          | (refine ⟨_, ?_, .imm _ _ (.bool _)⟩; (cases k <;> rfl); done)
          | (refine ⟨_, ?_, .imm _ _ (.bool _)⟩; simp [eqGuard, binOp, Op.intArith, Op.intDiv, Op.intBits, Op.intCmp, Op.shift, go_sem, *]; done)
          | fail
    · cases h
  · rename_i l m
    obtain ⟨s, rfl, rfl⟩ := hx.str_inv
    obtain ⟨u, rfl, rfl⟩ := hy.str_inv
    have e1 : s.toList = s.data.toList := ByteArray.toList_eq s
    have e2 : u.toList = u.data.toList := ByteArray.toList_eq u
    have e3 : ∀ a b, AM.bytesLess a b = Op.bytesLess a b := fun a b => by
      induction a generalizing b with
      | nil => cases b <;> rfl
      | cons x a ih => cases b with | nil => rfl | cons y b => simp only [AM.bytesLess, Op.bytesLess, ih]
    have e4 : ∀ a b : List UInt8, decide (a = b) = (a == b) := fun a b => by rw [Bool.eq_iff_iff]; simp
    cases op <;> simp only [binStr] at h <;> (try cases h) <;> (try (split at h)) <;> (try cases h) <;> (try (simp only [Option.some.injEq] at h; subst h)) <;>
      first
        | (rw [e3, e4, ← e1, ← e2]; exact ⟨_, rfl, .imm _ _ (.bool _)⟩)
        | (rw [e4, ← e1, ← e2]; exact ⟨_, rfl, .imm _ _ (.bool _)⟩)
        | (rw [e3, ← e1, ← e2]; exact ⟨_, rfl, .imm _ _ (.bool _)⟩)
        | fail
        | (have hlen : ¬ (((s.size + u.size : Nat) : Int) > IntKind.i64.max) := (by
             have h1 : s.data.toList.length = s.size := (by simp)
             have h2 : u.data.toList.length = u.size := (by simp)
             have h3 : s.data.toList.length + u.data.toList.length ≤ 4294967296 := (by assumption)
             have h4 : IntKind.i64.max = 9223372036854775807 := rfl
             rw [h4]; omega)
           refine ⟨.string (s ++ u), ?_, .imm _ _ ?_⟩
           · show (Op.stringOp .add s u).run P w = _
             simp only [Op.stringOp, if_neg hlen]; rfl
           · have : s.data.toList ++ u.data.toList = (s ++ u).data.toList := (by simp)
             rw [this]; exact .str _)
  · cases h
end

end AM
end Go.Proofs.Ytfelhbeiegppgaa
