/-
  What the proof of LedgerDoes leans on, part 20. (Many texts laid together by program.)
-/
import Derived.Test.YtfelhbeiegppgaaPkBs
import Derived.Test.YtfelhbeiegppgaaProg
import Derived.WalkKit
import Derived.LoopTactic
import Derived.Lib.Hide
set_option linter.unnecessarySimpa false
set_option linter.unusedSimpArgs false
set_option linter.unusedVariables false
section
namespace Go.Proofs.Ytfelhbeiegppgaa
open AM
class Rng (α : Type) [Lay α] where
 P : α → Prop
 ok : ∀ {w : World} {B : Nat → Prop} {x : α} {cs : List Value}, Lay.R w B x cs → P x
instance : Rng Int := ⟨I64, fun h => h.2⟩
instance : Rng Bool := ⟨fun _ => True, fun _ => trivial⟩
instance : Rng UInt8 := ⟨fun _ => True, fun _ => trivial⟩
instance : Rng ByteArray := ⟨fun x => x.size ≤ maxLen, fun h => h.2⟩
instance {α : Type} [Lay α] [Rng α] : Rng (List α) := ⟨fun xs => xs.length ≤ maxLen ∧ ∀ x ∈ xs, Rng.P x, fun {w B xs cs} h => by
 obtain ⟨A, c, rfl, h1, h2, h3, h4⟩ := h
 refine ⟨by omega, fun x hx => ?_⟩
 obtain ⟨i, hi, rfl⟩ := List.getElem_of_mem hx
 obtain ⟨ad, cs, _, _, hr, _⟩ := h4 i _ (List.getElem?_eq_getElem hi)
 exact Rng.ok hr⟩
instance {α β : Type} [Lay α] [Lay β] [Rng α] [Rng β] : Rng (α × β) := ⟨fun x => Rng.P x.1 ∧ Rng.P x.2, fun {w B x cs} h => by
 obtain ⟨c, d, rfl, h1, h2⟩ := h
 exact ⟨Rng.ok h1, Rng.ok h2⟩⟩
@[reducible] def Rng.iso {α β : Type} [Lay β] [Rng β] (f : α → β) : @Rng α (Lay.iso f) :=
 @Rng.mk α (Lay.iso f) (fun x => Rng.P (f x)) (fun h => Rng.ok (α := β) h)
instance : Rng Res := Rng.iso Res.pr
instance : Rng Dep := Rng.iso Dep.pr
instance : Rng Queue := Rng.iso Queue.pr
instance : Rng Weights := Rng.iso Weights.pr
instance : Rng Spec := Rng.iso Spec.pr
instance : Rng Job := Rng.iso Job.pr
instance : Rng Share := Rng.iso Share.pr
instance : Rng Alloc := Rng.iso Alloc.pr
instance : Rng Run := Rng.iso Run.pr
instance : Rng Booking := Rng.iso Booking.pr
instance : Rng Step := Rng.iso Step.pr
instance : Rng Request := Rng.iso Request.pr
instance : Rng Reply := Rng.iso Reply.pr
instance : Rng Call := Rng.iso Call.pr
instance : Rng Entry := Rng.iso Entry.pr
instance : Rng Event := Rng.iso Event.pr
namespace NM
class NEnc (α : Type) [Lay α] [Enc α] (t : outParam Ty) where
 f : α → den t
 ok : ∀ x, A2 RI ((ops t).cells (f x)) (Enc.cells x)
 agg : Lay.agg α = t.isAgg
 size : Lay.n α = (ops t).size
instance : NEnc Int (.int .i64) := ⟨fun x => x, fun x => .single (.int _ _), rfl, rfl⟩
instance : NEnc Bool .bool := ⟨fun x => x, fun x => .single (.bool _), rfl, rfl⟩
instance : NEnc UInt8 (.int .u8) := ⟨fun x => (x.toNat : Int), fun x => .single (.int _ _), rfl, rfl⟩
instance : NEnc ByteArray .str := ⟨fun x => x.data.toList, fun x => .single (.str _), rfl, rfl⟩
theorem enc_list {α : Type} [Lay α] [Enc α] {t : Ty} {f : α → den t} (hf : ∀ x, A2 RI ((ops t).cells (f x)) (Enc.cells x)) (hn : Lay.n α = (ops t).size) (xs : List α) : RI (.lst t (xs.map f)) (.imm (Lay.n α) (xs.map Enc.cells)) := by
 rw [hn]
 refine .mk_lst ⟨by simp, fun i x y hx hy => ?_⟩
 rw [List.getElem?_map] at hx hy
 simp only [Option.map_eq_some_iff] at hx hy
 obtain ⟨u, hu, rfl⟩ := hx
 obtain ⟨v, hv, rfl⟩ := hy
 rw [hu] at hv
 cases hv
 exact hf u
instance {α : Type} [Lay α] [Enc α] {t : Ty} [NEnc α t] : NEnc (List α) (.list t) := ⟨fun xs => xs.map NEnc.f, fun xs => .single (enc_list NEnc.ok NEnc.size xs), rfl, rfl⟩
instance {α β : Type} [Lay α] [Lay β] [Enc α] [Enc β] {a b : Ty} [NEnc α a] [NEnc β b] : NEnc (α × β) (.pair a b) := ⟨fun x => (NEnc.f x.1, NEnc.f x.2), fun x => (NEnc.ok x.1).append (NEnc.ok x.2), rfl, by
 have h1 : Lay.n α = (ops a).size := NEnc.size
 have h2 : Lay.n β = (ops b).size := NEnc.size
 show Lay.n α + Lay.n β = (ops a).size + (ops b).size
 rw [h1, h2]⟩
theorem i64_ok (n : Int) : A2 RI (i64O.cells n) [AVal.int .i64 n] := .single (.int _ _)
theorem bool_ok (b : Bool) : A2 RI (boolO.cells b) [AVal.bool b] := .single (.bool _)
theorem list_ok {α : Type} [Lay α] [Enc α] {t : Ty} (f : α → den t) (hf : ∀ x, A2 RI ((ops t).cells (f x)) (Enc.cells x)) (hn : Lay.n α = (ops t).size) (xs : List α) (ys : List (den t)) (h : xs.map f = ys) : A2 RI ((listO t (ops t)).cells ys) [AVal.imm (Lay.n α) (xs.map Enc.cells)] := by
 subst h
 exact .single (enc_list hf hn xs)
theorem res_ok (x : Res) : A2 RI (resO.cells x) (Enc.cells x) := (i64_ok _).append ((i64_ok _).append ((i64_ok _).append (i64_ok _)))
instance : NEnc Res .res := ⟨fun x => x, res_ok, rfl, rfl⟩
theorem dep_ok (x : Dep) : A2 RI (depO.cells x) (Enc.cells x) := (i64_ok _).append (bool_ok _)
instance : NEnc Dep .dep := ⟨fun x => x, dep_ok, rfl, rfl⟩
theorem ints_ok (xs : List Int) : A2 RI (intsO.cells xs) [AVal.imm (Lay.n Int) (xs.map Enc.cells)] := list_ok (t := .int .i64) (fun x : Int => x) NEnc.ok NEnc.size xs xs (by simp)
theorem deps_ok (xs : List Dep) : A2 RI (depsO.cells xs) [AVal.imm (Lay.n Dep) (xs.map Enc.cells)] := list_ok (t := .dep) (fun x : Dep => x) NEnc.ok NEnc.size xs xs (by simp)
theorem queue_ok (x : Queue) : A2 RI (queueO.cells x) (Enc.cells x) := (i64_ok _).append ((ints_ok _).append ((i64_ok _).append ((i64_ok _).append ((i64_ok _).append (i64_ok _)))))
instance : NEnc Queue .queue := ⟨fun x => x, queue_ok, rfl, rfl⟩
theorem weights_ok (x : Weights) : A2 RI (weightsO.cells x) (Enc.cells x) := (i64_ok _).append ((i64_ok _).append ((i64_ok _).append (i64_ok _)))
instance : NEnc Weights .weights := ⟨fun x => x, weights_ok, rfl, rfl⟩
theorem intss_ok (xs : List (List Int)) : A2 RI ((listO (.list (.int .i64)) intsO).cells xs) [AVal.imm (Lay.n (List Int)) (xs.map Enc.cells)] := list_ok (t := .list (.int .i64)) (fun x : List Int => x) (fun x => ints_ok x) rfl xs xs (by simp)
theorem spec_ok (x : Spec) : A2 RI (specO.cells x) (Enc.cells x) :=
 (list_ok (t := .res) (fun x : Res => x) res_ok rfl _ _ (by simp)).append ((intss_ok _).append ((list_ok (t := .queue) (fun x : Queue => x) queue_ok rfl _ _ (by simp)).append ((i64_ok _).append ((weights_ok _).append ((i64_ok _).append ((i64_ok _).append ((i64_ok _).append ((i64_ok _).append ((i64_ok _).append ((i64_ok _).append ((i64_ok _).append ((i64_ok _).append ((i64_ok _).append (i64_ok _))))))))))))))
instance : NEnc Spec .spec := ⟨fun x => x, spec_ok, rfl, rfl⟩
theorem job_ok (x : Job) : A2 RI (jobO.cells x) (Enc.cells x) :=
 (i64_ok _).append ((i64_ok _).append ((i64_ok _).append ((i64_ok _).append ((res_ok _).append ((i64_ok _).append ((deps_ok _).append ((i64_ok _).append ((bool_ok _).append ((bool_ok _).append ((i64_ok _).append ((i64_ok _).append ((i64_ok _).append ((i64_ok _).append (i64_ok _))))))))))))))
instance : NEnc Job .job := ⟨fun x => x, job_ok, rfl, rfl⟩
theorem share_ok (x : Share) : A2 RI (shareO.cells x) (Enc.cells x) := (i64_ok _).append (i64_ok _)
instance : NEnc Share .share := ⟨fun x => x, share_ok, rfl, rfl⟩
theorem shares_ok (xs : List Share) : A2 RI ((listO .share shareO).cells xs) [AVal.imm (Lay.n Share) (xs.map Enc.cells)] := list_ok (t := .share) (fun x : Share => x) share_ok rfl xs xs (by simp)
theorem alloc_ok (x : Alloc) : A2 RI (allocO.cells x) (Enc.cells x) := (i64_ok _).append ((res_ok _).append (shares_ok _))
instance : NEnc Alloc .alloc := ⟨fun x => x, alloc_ok, rfl, rfl⟩
theorem run_ok (x : Run) : A2 RI (runO.cells x) (Enc.cells x) := (res_ok _).append ((shares_ok _).append (i64_ok _))
instance : NEnc Run .run := ⟨fun x => x, run_ok, rfl, rfl⟩
theorem booking_ok (x : Booking) : A2 RI (bookingO.cells x) (Enc.cells x) := (i64_ok _).append ((i64_ok _).append ((i64_ok _).append (i64_ok _)))
instance : NEnc Booking .booking := ⟨fun x => x, booking_ok, rfl, rfl⟩
theorem step_ok (x : Step) : A2 RI (stepO.cells x) (Enc.cells x) := (i64_ok _).append (res_ok _)
instance : NEnc Step .step := ⟨fun x => x, step_ok, rfl, rfl⟩
theorem request_ok (x : Request) : A2 RI (requestO.cells x) (Enc.cells x) :=
 (i64_ok _).append ((i64_ok _).append ((i64_ok _).append ((i64_ok _).append ((i64_ok _).append ((i64_ok _).append ((res_ok _).append ((i64_ok _).append ((i64_ok _).append ((deps_ok _).append ((i64_ok _).append ((i64_ok _).append ((i64_ok _).append (i64_ok _)))))))))))))
instance : NEnc Request .request := ⟨fun x => x, request_ok, rfl, rfl⟩
theorem reply_ok (x : Reply) : A2 RI (replyO.cells x) (Enc.cells x) := (i64_ok _).append ((i64_ok _).append ((i64_ok _).append ((i64_ok _).append (ints_ok _))))
instance : NEnc Reply .reply := ⟨fun x => x, reply_ok, rfl, rfl⟩
theorem call_ok (x : Call) : A2 RI (callO.cells x) (Enc.cells x) := (i64_ok _).append (request_ok _)
instance : NEnc Call .call := ⟨fun x => x, call_ok, rfl, rfl⟩
theorem entry_ok (x : Entry) : A2 RI (entryO.cells x) (Enc.cells x) := (i64_ok _).append ((i64_ok _).append ((request_ok _).append ((reply_ok _).append ((i64_ok _).append (bool_ok _)))))
instance : NEnc Entry .entry := ⟨fun x => x, entry_ok, rfl, rfl⟩
theorem enc_rv {α : Type} [Lay α] [Enc α] {t : Ty} [NEnc α t] {hp : NHeap} (x : α) : RV hp (putV t (NEnc.f x)) (encV x) := by
 have hok := NEnc.ok (t := t) x
 unfold putV encV
 have hagg : Lay.agg α = t.isAgg := NEnc.agg
 rw [hagg]
 cases ht : t.isAgg with
 | true =>
   simp only [if_true]
   exact .agg _ _ (hok.mono fun _ _ h => h.c)
 | false =>
   obtain ⟨c, d, h1, h2, h3, h4⟩ := one_cells ht (NEnc.f x)
   rw [h1] at hok ⊢
   obtain ⟨e, es, he, h5, h6⟩ := hok.cons_inv
   simp only [he]
   exact h5.rv
theorem arg_nil {hp : NHeap} : A2 (RV hp) (puts .nil ()) [] := by simp only [puts]; exact .nil
theorem arg_cons {α : Type} [Lay α] [Enc α] {t : Ty} [NEnc α t] {hp : NHeap} {l : Sh} (x : α) {y : l.den} {as' : List AVal} (h : A2 (RV hp) (puts l y) as') : A2 (RV hp) (puts (.cons (.v t) l) (NEnc.f x, y)) (encV x :: as') := by
 simp only [puts, put]
 exact .cons (enc_rv x) h
theorem nlaw_walk {P : Program} {f : Nat} {args : Sh} {F : args.den → denH [] → Option Bool} (h : NOk P ⟨f, ⟨args, [], (.v .bool, []), []⟩, F⟩) {x : args.den} (hF : F x () = some true) {as' : List AVal} {cargs : Array Value} {w : World} (ha : A2 (RV []) (puts args x) as') (hl : as'.length = cargs.size)
   (hv : ∀ (j : Nat) (a : AVal) (v : Value), as'[j]? = some a → cargs[j]? = some v → VR (fun _ => .free) w (Lt w.heap.size) a v) (hgl : GlobR w (Lt w.heap.size) := by exact GlobR.nil rfl) :
   Calls P f cargs w fun e w' => e = .returned (.bool true) ∧ Go.RowKit.Below w.heap.size w w' := by
 have r0 : HRep (fun _ => .free) w (fun m => m < w.heap.size) [] := by
   refine ⟨fun b k hb => ?_, fun _ _ => .inl rfl, fun _ _ => rfl, fun b b' m h => ?_, fun m ho => ?_, fun m hm => hm, hgl⟩
   · simp [Heap.get] at hb
   · cases h
   · obtain ⟨b, hb⟩ := ho; cases hb
 have hc := h.2.2 x () true hF as' [] ha .nil (fun _ => .free) w (fun m => m < w.heap.size) cargs r0 hl hv
 refine hc.mono fun e w' ⟨v, μ', S', he, _, x, hv, _⟩ => ⟨?_, ?_⟩
 · have hb : yA (.v .bool, []) [] true = .bool true := by
     obtain ⟨c, d, h1, h2, h3, h4⟩ := one_cells (t := .bool) rfl true
     simp only [yA, outA, can, Ty.isAgg, h2]
     have : c = .bool true := by cases h1; rfl
     subst this
     cases h3
     rfl
   rw [he]
   have hv' : VR μ' w' S' (.bool true) v := by rw [← hb]; exact hv
   rw [hv'.bool_inv]
 · exact ⟨x.os, x.tape, x.output, x.size, fun m hm => x.same m hm (fun ho => by obtain ⟨b, hb⟩ := ho; cases hb)⟩
/- loops -/
section
variable {σ ω α β : Type}
def runL (step : β → α → β ⊕ Option ω) (fin : β → Option ω) : List α → β → Option ω
 | [], b => fin b
 | x :: xs, b => match step b x with
   | .inl b' => runL step fin xs b'
   | .inr r => r
theorem list_loopI {f : σ → (σ → Option ω) → Option ω} (xs : List α) (mk : β → Int → σ) (Inv : β → Int → Prop) (step : β → α → β ⊕ Option ω) (fin : β → Option ω) (hx : xs.length ≤ maxLen)
   (hend : ∀ (b : β) (next : σ → Option ω), Inv b (xs.length : Int) → f (mk b (xs.length : Int)) next = fin b)
   (hstep : ∀ (b : β) (z : Int) (x : α) (next : σ → Option ω), Inv b z → 0 ≤ z → z < (xs.length : Int) → xs[z.toNat]? = some x → IntKind.wrap .i64 (z + 1) = z + 1 → match step b x with | .inl b' => Inv b' (z + 1) ∧ f (mk b z) next = next (mk b' (z + 1)) | .inr r => f (mk b z) next = r) (b : β) (hb : Inv b 0) : LN LOOPS f (mk b 0) = runL step fin xs b := by
 have hml : maxLen = 9223372036854775807 := rfl
 have key : ∀ n, n < LOOPS → ∀ (i : Nat) (b : β), Inv b i → i + n = xs.length → ∀ m, n < m → loopN f m (mk b i) = runL step fin (xs.drop i) b := by
   intro n
   induction n with
   | zero =>
     intro _ i b hb hi m hm
     obtain ⟨m, rfl⟩ : ∃ m', m = m' + 1 := ⟨m - 1, by omega⟩
     simp only [loopN]
     have hi : i = xs.length := by omega
     subst hi
     rw [hend _ _ hb, List.drop_of_length_le (by omega)]
     rfl
   | succ n ih =>
     intro hn i b hb hi m hm
     obtain ⟨m, rfl⟩ : ∃ m', m = m' + 1 := ⟨m - 1, by omega⟩
     simp only [loopN]
     have hlt : i < xs.length := by omega
     have hs := hstep b i xs[i] (loopN f m) hb (by omega) (by omega) (by simp [hlt]) (wrap64 (by omega) (by omega))
     rw [List.drop_eq_getElem_cons hlt]
     simp only [runL]
     split
     · rename_i b' hb'
       rw [hb'] at hs
       obtain ⟨h1, h2⟩ := hs
       rw [h2]
       have := ih (by omega) (i + 1) b' (by simpa using h1) (by omega) m (by omega)
       simpa using this
     · rename_i r hr
       rw [hr] at hs
       exact hs
 have := key xs.length (by unfold LOOPS; omega) 0 b (by simpa using hb) (by omega) LOOPS (by unfold LOOPS; omega)
 simpa [LN] using this
theorem list_loop {f : σ → (σ → Option ω) → Option ω} (xs : List α) (mk : β → Int → σ) (step : β → α → β ⊕ Option ω) (fin : β → Option ω) (hx : xs.length ≤ maxLen)
   (hend : ∀ (b : β) (next : σ → Option ω), f (mk b (xs.length : Int)) next = fin b)
   (hstep : ∀ (b : β) (z : Int) (x : α) (next : σ → Option ω), 0 ≤ z → z < (xs.length : Int) → xs[z.toNat]? = some x → IntKind.wrap .i64 (z + 1) = z + 1 → f (mk b z) next = match step b x with | .inl b' => next (mk b' (z + 1)) | .inr r => r) (b : β) : LN LOOPS f (mk b 0) = runL step fin xs b :=
 list_loopI xs mk (fun _ _ => True) step fin hx (fun b next _ => hend b next) (fun b z x next _ h0 h1 h2 h3 => by
   have := hstep b z x next h0 h1 h2 h3
   split
   · rename_i b' hb; rw [hb] at this; exact ⟨trivial, this⟩
   · rename_i r hr; rw [hr] at this; exact this) b trivial
theorem all_loop {f : σ → (σ → Option Bool) → Option Bool} (xs : List α) (mk : Int → σ) (p : α → Bool) (q : Bool) (hx : xs.length ≤ maxLen) (hend : ∀ (next : σ → Option Bool), f (mk (xs.length : Int)) next = some q)
   (hstep : ∀ (z : Int) (x : α) (next : σ → Option Bool), 0 ≤ z → z < (xs.length : Int) → xs[z.toNat]? = some x → IntKind.wrap .i64 (z + 1) = z + 1 → f (mk z) next = cond (p x) (next (mk (z + 1))) (some false)) : LN LOOPS f (mk 0) = some (xs.all p && q) := by
 rw [list_loop (β := Unit) xs (fun _ => mk) (fun _ x => cond (p x) (.inl ()) (.inr (some false))) (fun _ => some q) hx (fun _ => hend) (fun b z x next h0 h1 h2 h3 => by rw [hstep z x next h0 h1 h2 h3]; cases p x <;> rfl) ()]
 clear hend hstep hx
 induction xs with
 | nil => rfl
 | cons x xs ih =>
   simp only [runL, List.all_cons]
   cases p x with
   | true => simpa using ih
   | false => rfl
end
@[simp] theorem cond_somes {α : Type} (c : Bool) (a b : α) : cond c (some a) (some b) = some (cond c a b) := by cases c <;> rfl
theorem cond_mk {α β : Type} (c : Bool) (a a' : α) (b b' : β) : cond c (a, b) (a', b') = (cond c a a', cond c b b') := by cases c <;> rfl
theorem cond_self {α : Type} (c : Bool) (a : α) : cond c a a = a := by cases c <;> rfl
theorem chk0 {σ : Type} (next : σ → Option Bool) (c : Bool) (x : σ) : cond c (some false) (next x) = cond (!c) (next x) (some false) := by cases c <;> rfl
theorem chk1 {c p : Bool} {K : Option Bool} : cond c (some false) (cond p K (some false)) = cond (!c && p) K (some false) := by cases c <;> cases p <;> rfl
theorem wi {x : Int} (h1 : -9223372036854775808 ≤ x) (h2 : x ≤ 9223372036854775807) : IntKind.wrap .i64 x = x := wrap64 h1 h2
end NM
end Go.Proofs.Ytfelhbeiegppgaa
end
section
namespace Go.Proofs.Ytfelhbeiegppgaa
namespace NM
open AM Go.RowKit
@[reducible] def sigC (t : Ty) : Sig := ⟨.cons (.v (.list t)) .nil, [], (.slw 0 (ops t).size, [.typed t]), []⟩
def emptyF {α : Type} (xs : List α) : Option (Unit × (List α × Unit)) := match xs with
 | [] => some ((), ([], ()))
 | _ :: _ => none
def cloneF {α : Type} (F : List α → Option (Unit × (List α × Unit))) (xs : List α) : Option (Unit × (List α × Unit)) := match xs with
 | [] => some ((), ([], ()))
 | x :: l => F (x :: l)
theorem NOk.clone {P : Program} {f : Nat} {t : Ty} {F : List (den t) → Option (Unit × (List (den t) × Unit))} (h : NOk P ⟨f, sigC t, fun x _ => F x.1⟩) (he : NOk P ⟨f, sigC t, fun x _ => emptyF x.1⟩) : NOk P ⟨f, sigC t, fun x _ => cloneF F x.1⟩ := by
 refine ⟨h.1, h.2.1, fun x hh y hy args ahp ha hb => ?_⟩
 obtain ⟨xs, u⟩ := x
 cases xs with
 | nil => exact he.2.2 ([], u) hh y hy args ahp ha hb
 | cons z zs => exact h.2.2 (z :: zs, u) hh y hy args ahp ha hb
theorem clone_empty {P : Program} {f : Nat} (t : Ty) (hent : Enters P f) (h : ∀ (A : Option Addr) (c : Nat) (w : World), Calls P f #[.slice A 0 c] w fun e w' => ∃ A', e = .returned (.slice A' 0 0) ∧ Below w.heap.size w w') (hg : sigGood (sigC t) = true := by rfl) : NOk P ⟨f, sigC t, fun x _ => emptyF x.1⟩ := by
 refine ⟨hent, hg, fun x hh y hy args ahp ha hb => ?_⟩
 obtain ⟨xs, u⟩ := x
 cases xs with
 | cons z zs => cases hy
 | nil =>
   cases hy
   intro μ w S cargs r0 hl hv
   have e0 : ahp = [] := A2.nil_inv hb
   subst e0
   simp only [puts, put, putV, Ty.isAgg] at ha
   obtain ⟨a, as', rfl, h1, h2⟩ := ha.cons_inv
   rw [h2.nil_inv] at hl hv
   obtain ⟨v, rfl⟩ : ∃ v, cargs = #[v] := by
     have : cargs.size = 1 := by simpa using hl.symm
     exact ⟨cargs[0], by apply Array.ext (by simp [this]); intro i h3 h4; have : i = 0 := by omega
                         subst this; simp⟩
   have hva := hv 0 a v rfl rfl
   have hsl : ∃ A c, v = .slice A 0 c := by
     have h1' : RI (.lst t []) a := (RT.v h1).lst_inv
     rcases h1'.lst_inv with ⟨ys, rfl, hy⟩ | ⟨rfl, _⟩
     · rw [hy.nil_inv] at hva
       cases hva with
       | imm _ _ h => cases h with
         | imm _ _ A cap g i1 i2 i3 i4 i5 => exact ⟨A, cap, rfl⟩
     · obtain ⟨A, rfl⟩ := hva.zsl_inv
       exact ⟨A, 0, rfl⟩
   obtain ⟨A, c, rfl⟩ := hsl
   refine (h A c w).mono fun e w' ⟨A', he, hbel⟩ => ?_
   refine ⟨_, fun b => if b = 0 then .void else .free, S, he, ?_, ?_, ?_, Nat.zero_le _, fun b hb => absurd hb (Nat.not_lt_zero _)⟩
   · refine ⟨fun b k hbk => ?_, fun b hbk => ?_, fun b hbk => ?_, fun b b' m hm => ?_, fun m ho => ?_, fun m hm => Nat.lt_of_lt_of_le (r0.inS m hm) hbel.size, r0.gl.mono (fun m hm => hbel.block m (r0.inS m hm)) (fun _ h => h)⟩
     · cases b with
       | zero => simp [yB, outB, canH, canS, Heap.get] at hbk; subst hbk; rfl
       | succ b => simp [yB, outB, canH, Heap.get] at hbk
     · cases b with
       | zero => simp [yB, outB, canH, canS, Heap.get] at hbk
       | succ b => exact .inl (by simp)
     · cases b with
       | zero => simp [yB, outB, canH, canS, Heap.isFree] at hbk
       | succ b => simp
     · split at hm <;> cases hm
     · obtain ⟨b, hb⟩ := ho
       simp only at hb
       split at hb <;> cases hb
   · refine ⟨hbel.os, hbel.tape, hbel.output, hbel.size, fun m hm ho => hbel.block m hm, fun _ h => h, fun m hm => .inl hm, fun m ho => ?_⟩
     obtain ⟨b, hb⟩ := ho
     simp only at hb
     split at hb <;> cases hb
   · have : yA (.slw 0 (ops t).size, [HS.typed t]) [] ((), (([] : List (den t)), ())) = .sl 0 0 0 (ops t).size := by
       simp [yA, outA, can, lensOf, putH, putS, nget, NBlk.len]
     show VR _ w' S (yA (.slw 0 (ops t).size, [HS.typed t]) [] ((), (([] : List (den t)), ()))) _
     rw [this]
     refine .sl _ _ _ _ _ ?_
     exact ⟨rfl, rfl, A', rfl⟩
theorem enters_of {P : Program} {f : Nat} {fn : Func} {nf : NFunc} (hf : P.funcs[f]? = some fn) (hc : chkNF P fn nf = true) : Enters P f := by
 refine ⟨fn, hf, ?_, ?_⟩
 · unfold chkNF at hc
   simp only [Bool.and_eq_true, Bool.not_eq_true'] at hc
   exact hc.1.2
 · unfold chkNF at hc
   simp only [Bool.and_eq_true] at hc
   cases hb : fn.body with
   | none => rw [hb] at hc; cases hc.2
   | some c => rfl
end NM
end Go.Proofs.Ytfelhbeiegppgaa
end
