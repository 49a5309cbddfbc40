/-
  What the proof of SpecTexts leans on, part 19. (Many texts laid together by program.)
-/
import Derived.Test.YtjngkfdclcgfhaaGreatDoorPkTr
import Derived.Test.YtjngkfdclcgfhaaGreatDoorProg
import Derived.WalkKit
import Derived.LoopTactic
import Derived.Lib.Hide
import Derived.Lib.LaidTab
import Derived.Laws.RangeAny
import Derived.Below
set_option linter.unnecessarySimpa false
set_option linter.unusedSimpArgs false
set_option linter.unusedVariables false
section
namespace Go.Proofs.YtjngkfdclcgfhaaGreatDoor
open AM
class Rng (α : Type) [Lay α] where
 P : α → Prop
 ok : ∀ {w : World} {B : Nat → Prop} {x : α} {cs : List Value}, Lay.R w B x cs → P x
instance : Rng Int := ⟨I64, fun h => h.2⟩
instance : Rng Bool := ⟨fun _ => True, fun _ => trivial⟩
instance : Rng UInt8 := ⟨fun _ => True, fun _ => trivial⟩
instance : Rng ByteArray := ⟨fun x => x.size ≤ maxLen, fun h => h.2⟩
instance {α : Type} [Lay α] [Rng α] : Rng (List α) := ⟨fun xs => xs.length ≤ maxLen ∧ ∀ x ∈ xs, Rng.P x, fun {w B xs cs} h => by
 obtain ⟨A, c, rfl, h1, h2, h3, h4⟩ := h
 refine ⟨by omega, fun x hx => ?_⟩
 obtain ⟨i, hi, rfl⟩ := List.getElem_of_mem hx
 obtain ⟨ad, cs, _, _, hr, _⟩ := h4 i _ (List.getElem?_eq_getElem hi)
 exact Rng.ok hr⟩
instance {α β : Type} [Lay α] [Lay β] [Rng α] [Rng β] : Rng (α × β) := ⟨fun x => Rng.P x.1 ∧ Rng.P x.2, fun {w B x cs} h => by
 obtain ⟨c, d, rfl, h1, h2⟩ := h
 exact ⟨Rng.ok h1, Rng.ok h2⟩⟩
@[reducible] def Rng.iso {α β : Type} [Lay β] [Rng β] (f : α → β) : @Rng α (Lay.iso f) :=
 @Rng.mk α (Lay.iso f) (fun x => Rng.P (f x)) (fun h => Rng.ok (α := β) h)
instance : Rng Res := Rng.iso Res.pr
instance : Rng Dep := Rng.iso Dep.pr
instance : Rng Queue := Rng.iso Queue.pr
instance : Rng Weights := Rng.iso Weights.pr
instance : Rng Spec := Rng.iso Spec.pr
instance : Rng Job := Rng.iso Job.pr
instance : Rng Share := Rng.iso Share.pr
instance : Rng Alloc := Rng.iso Alloc.pr
instance : Rng Run := Rng.iso Run.pr
instance : Rng Booking := Rng.iso Booking.pr
instance : Rng Step := Rng.iso Step.pr
instance : Rng Request := Rng.iso Request.pr
instance : Rng Reply := Rng.iso Reply.pr
instance : Rng Call := Rng.iso Call.pr
instance : Rng Entry := Rng.iso Entry.pr
instance : Rng Event := Rng.iso Event.pr
namespace NM
class NEnc (α : Type) [Lay α] [Enc α] (t : outParam Ty) where
 f : α → den t
 ok : ∀ x, A2 RI ((ops t).cells (f x)) (Enc.cells x)
 agg : Lay.agg α = t.isAgg
 size : Lay.n α = (ops t).size
instance : NEnc Int (.int .i64) := ⟨fun x => x, fun x => .single (.int _ _), rfl, rfl⟩
instance : NEnc Bool .bool := ⟨fun x => x, fun x => .single (.bool _), rfl, rfl⟩
instance : NEnc UInt8 (.int .u8) := ⟨fun x => (x.toNat : Int), fun x => .single (.int _ _), rfl, rfl⟩
instance : NEnc ByteArray .str := ⟨fun x => x.data.toList, fun x => .single (.str _), rfl, rfl⟩
theorem enc_list {α : Type} [Lay α] [Enc α] {t : Ty} {f : α → den t} (hf : ∀ x, A2 RI ((ops t).cells (f x)) (Enc.cells x)) (hn : Lay.n α = (ops t).size) (xs : List α) : RI (.lst t (xs.map f)) (.imm (Lay.n α) (xs.map Enc.cells)) := by
 rw [hn]
 refine .mk_lst ⟨by simp, fun i x y hx hy => ?_⟩
 rw [List.getElem?_map] at hx hy
 simp only [Option.map_eq_some_iff] at hx hy
 obtain ⟨u, hu, rfl⟩ := hx
 obtain ⟨v, hv, rfl⟩ := hy
 rw [hu] at hv
 cases hv
 exact hf u
instance {α : Type} [Lay α] [Enc α] {t : Ty} [NEnc α t] : NEnc (List α) (.list t) := ⟨fun xs => xs.map NEnc.f, fun xs => .single (enc_list NEnc.ok NEnc.size xs), rfl, rfl⟩
instance {α β : Type} [Lay α] [Lay β] [Enc α] [Enc β] {a b : Ty} [NEnc α a] [NEnc β b] : NEnc (α × β) (.pair a b) := ⟨fun x => (NEnc.f x.1, NEnc.f x.2), fun x => (NEnc.ok x.1).append (NEnc.ok x.2), rfl, by
 have h1 : Lay.n α = (ops a).size := NEnc.size
 have h2 : Lay.n β = (ops b).size := NEnc.size
 show Lay.n α + Lay.n β = (ops a).size + (ops b).size
 rw [h1, h2]⟩
theorem i64_ok (n : Int) : A2 RI (i64O.cells n) [AVal.int .i64 n] := .single (.int _ _)
theorem bool_ok (b : Bool) : A2 RI (boolO.cells b) [AVal.bool b] := .single (.bool _)
theorem list_ok {α : Type} [Lay α] [Enc α] {t : Ty} (f : α → den t) (hf : ∀ x, A2 RI ((ops t).cells (f x)) (Enc.cells x)) (hn : Lay.n α = (ops t).size) (xs : List α) (ys : List (den t)) (h : xs.map f = ys) : A2 RI ((listO t (ops t)).cells ys) [AVal.imm (Lay.n α) (xs.map Enc.cells)] := by
 subst h
 exact .single (enc_list hf hn xs)
theorem res_ok (x : Res) : A2 RI (resO.cells x) (Enc.cells x) := (i64_ok _).append ((i64_ok _).append ((i64_ok _).append (i64_ok _)))
instance : NEnc Res .res := ⟨fun x => x, res_ok, rfl, rfl⟩
theorem dep_ok (x : Dep) : A2 RI (depO.cells x) (Enc.cells x) := (i64_ok _).append (bool_ok _)
instance : NEnc Dep .dep := ⟨fun x => x, dep_ok, rfl, rfl⟩
theorem ints_ok (xs : List Int) : A2 RI (intsO.cells xs) [AVal.imm (Lay.n Int) (xs.map Enc.cells)] := list_ok (t := .int .i64) (fun x : Int => x) NEnc.ok NEnc.size xs xs (by simp)
theorem deps_ok (xs : List Dep) : A2 RI (depsO.cells xs) [AVal.imm (Lay.n Dep) (xs.map Enc.cells)] := list_ok (t := .dep) (fun x : Dep => x) NEnc.ok NEnc.size xs xs (by simp)
theorem queue_ok (x : Queue) : A2 RI (queueO.cells x) (Enc.cells x) := (i64_ok _).append ((ints_ok _).append ((i64_ok _).append ((i64_ok _).append ((i64_ok _).append (i64_ok _)))))
instance : NEnc Queue .queue := ⟨fun x => x, queue_ok, rfl, rfl⟩
theorem weights_ok (x : Weights) : A2 RI (weightsO.cells x) (Enc.cells x) := (i64_ok _).append ((i64_ok _).append ((i64_ok _).append (i64_ok _)))
instance : NEnc Weights .weights := ⟨fun x => x, weights_ok, rfl, rfl⟩
theorem intss_ok (xs : List (List Int)) : A2 RI ((listO (.list (.int .i64)) intsO).cells xs) [AVal.imm (Lay.n (List Int)) (xs.map Enc.cells)] := list_ok (t := .list (.int .i64)) (fun x : List Int => x) (fun x => ints_ok x) rfl xs xs (by simp)
theorem spec_ok (x : Spec) : A2 RI (specO.cells x) (Enc.cells x) :=
 (list_ok (t := .res) (fun x : Res => x) res_ok rfl _ _ (by simp)).append ((intss_ok _).append ((list_ok (t := .queue) (fun x : Queue => x) queue_ok rfl _ _ (by simp)).append ((i64_ok _).append ((weights_ok _).append ((i64_ok _).append ((i64_ok _).append ((i64_ok _).append ((i64_ok _).append ((i64_ok _).append ((i64_ok _).append ((i64_ok _).append ((i64_ok _).append ((i64_ok _).append (i64_ok _))))))))))))))
instance : NEnc Spec .spec := ⟨fun x => x, spec_ok, rfl, rfl⟩
theorem job_ok (x : Job) : A2 RI (jobO.cells x) (Enc.cells x) :=
 (i64_ok _).append ((i64_ok _).append ((i64_ok _).append ((i64_ok _).append ((res_ok _).append ((i64_ok _).append ((deps_ok _).append ((i64_ok _).append ((bool_ok _).append ((bool_ok _).append ((i64_ok _).append ((i64_ok _).append ((i64_ok _).append ((i64_ok _).append (i64_ok _))))))))))))))
instance : NEnc Job .job := ⟨fun x => x, job_ok, rfl, rfl⟩
theorem share_ok (x : Share) : A2 RI (shareO.cells x) (Enc.cells x) := (i64_ok _).append (i64_ok _)
instance : NEnc Share .share := ⟨fun x => x, share_ok, rfl, rfl⟩
theorem shares_ok (xs : List Share) : A2 RI ((listO .share shareO).cells xs) [AVal.imm (Lay.n Share) (xs.map Enc.cells)] := list_ok (t := .share) (fun x : Share => x) share_ok rfl xs xs (by simp)
theorem alloc_ok (x : Alloc) : A2 RI (allocO.cells x) (Enc.cells x) := (i64_ok _).append ((res_ok _).append (shares_ok _))
instance : NEnc Alloc .alloc := ⟨fun x => x, alloc_ok, rfl, rfl⟩
theorem run_ok (x : Run) : A2 RI (runO.cells x) (Enc.cells x) := (res_ok _).append ((shares_ok _).append (i64_ok _))
instance : NEnc Run .run := ⟨fun x => x, run_ok, rfl, rfl⟩
theorem booking_ok (x : Booking) : A2 RI (bookingO.cells x) (Enc.cells x) := (i64_ok _).append ((i64_ok _).append ((i64_ok _).append (i64_ok _)))
instance : NEnc Booking .booking := ⟨fun x => x, booking_ok, rfl, rfl⟩
theorem step_ok (x : Step) : A2 RI (stepO.cells x) (Enc.cells x) := (i64_ok _).append (res_ok _)
instance : NEnc Step .step := ⟨fun x => x, step_ok, rfl, rfl⟩
theorem request_ok (x : Request) : A2 RI (requestO.cells x) (Enc.cells x) :=
 (i64_ok _).append ((i64_ok _).append ((i64_ok _).append ((i64_ok _).append ((i64_ok _).append ((i64_ok _).append ((res_ok _).append ((i64_ok _).append ((i64_ok _).append ((deps_ok _).append ((i64_ok _).append ((i64_ok _).append ((i64_ok _).append (i64_ok _)))))))))))))
instance : NEnc Request .request := ⟨fun x => x, request_ok, rfl, rfl⟩
theorem reply_ok (x : Reply) : A2 RI (replyO.cells x) (Enc.cells x) := (i64_ok _).append ((i64_ok _).append ((i64_ok _).append ((i64_ok _).append (ints_ok _))))
instance : NEnc Reply .reply := ⟨fun x => x, reply_ok, rfl, rfl⟩
theorem call_ok (x : Call) : A2 RI (callO.cells x) (Enc.cells x) := (i64_ok _).append (request_ok _)
instance : NEnc Call .call := ⟨fun x => x, call_ok, rfl, rfl⟩
theorem entry_ok (x : Entry) : A2 RI (entryO.cells x) (Enc.cells x) := (i64_ok _).append ((i64_ok _).append ((request_ok _).append ((reply_ok _).append ((i64_ok _).append (bool_ok _)))))
instance : NEnc Entry .entry := ⟨fun x => x, entry_ok, rfl, rfl⟩
theorem enc_rv {α : Type} [Lay α] [Enc α] {t : Ty} [NEnc α t] {hp : NHeap} (x : α) : RV hp (putV t (NEnc.f x)) (encV x) := by
 have hok := NEnc.ok (t := t) x
 unfold putV encV
 have hagg : Lay.agg α = t.isAgg := NEnc.agg
 rw [hagg]
 cases ht : t.isAgg with
 | true =>
   simp only [if_true]
   exact .agg _ _ (hok.mono fun _ _ h => h.c)
 | false =>
   obtain ⟨c, d, h1, h2, h3, h4⟩ := one_cells ht (NEnc.f x)
   rw [h1] at hok ⊢
   obtain ⟨e, es, he, h5, h6⟩ := hok.cons_inv
   simp only [he]
   exact h5.rv
theorem arg_nil {hp : NHeap} : A2 (RV hp) (puts .nil ()) [] := by simp only [puts]; exact .nil
theorem arg_cons {α : Type} [Lay α] [Enc α] {t : Ty} [NEnc α t] {hp : NHeap} {l : Sh} (x : α) {y : l.den} {as' : List AVal} (h : A2 (RV hp) (puts l y) as') : A2 (RV hp) (puts (.cons (.v t) l) (NEnc.f x, y)) (encV x :: as') := by
 simp only [puts, put]
 exact .cons (enc_rv x) h
theorem nlaw_walk {P : Program} {f : Nat} {args : Sh} {F : args.den → denH [] → Option Bool} (h : NOk P ⟨f, ⟨args, [], (.v .bool, []), []⟩, F⟩) {x : args.den} (hF : F x () = some true) {as' : List AVal} {cargs : Array Value} {w : World} (ha : A2 (RV []) (puts args x) as') (hl : as'.length = cargs.size)
   (hv : ∀ (j : Nat) (a : AVal) (v : Value), as'[j]? = some a → cargs[j]? = some v → VR (fun _ => .free) w (Lt w.heap.size) a v) (hgl : GlobR w (Lt w.heap.size) := by exact GlobR.nil rfl) :
   Calls P f cargs w fun e w' => e = .returned (.bool true) ∧ Go.RowKit.Below w.heap.size w w' := by
 have r0 : HRep (fun _ => .free) w (fun m => m < w.heap.size) [] := by
   refine ⟨fun b k hb => ?_, fun _ _ => .inl rfl, fun _ _ => rfl, fun b b' m n n' e e' h => ?_, fun m ho => ?_, fun m hm => hm, hgl⟩
   · simp [Heap.get] at hb
   · cases h
   · obtain ⟨b, n, e, hb⟩ := ho; cases hb
 have hc := h.2.2 x () true hF as' [] ha .nil (fun _ => .free) w (fun m => m < w.heap.size) cargs r0 hl hv
 refine hc.mono fun e w' ⟨v, μ', S', he, _, x, hv, _⟩ => ⟨?_, ?_⟩
 · have hb : yA (.v .bool, []) [] true = .bool true := by
     obtain ⟨c, d, h1, h2, h3, h4⟩ := one_cells (t := .bool) rfl true
     simp only [yA, outA, can, Ty.isAgg, h2]
     have : c = .bool true := by cases h1; rfl
     subst this
     cases h3
     rfl
   rw [he]
   have hv' : VR μ' w' S' (.bool true) v := by rw [← hb]; exact hv
   rw [hv'.bool_inv]
 · exact ⟨x.os, x.tape, x.output, x.size, fun m hm => x.same m hm (fun ho => by obtain ⟨b, n, e, hb⟩ := ho; cases hb)⟩
/- loops -/
section
variable {σ ω α β : Type}
theorem loop_eq {f : σ → (σ → Option ω) → Option ω} (I : σ → Prop) (m : σ → Nat) (R : σ → Option ω) (h : ∀ s next, I s → (∀ s', I s' → m s' < m s → next s' = R s') → f s next = R s) {s : σ} (hs : I s) (hm : m s < LOOPS) : LN LOOPS f s = R s := by
 have key : ∀ n s, I s → m s < n → loopN f n s = R s := by
   intro n
   induction n with
   | zero => intro s _ h; omega
   | succ n ih =>
     intro s hs hn
     simp only [loopN]
     exact h s _ hs fun s' hs' hlt => ih s' hs' (by omega)
 exact key LOOPS s hs hm
def runL (step : β → α → β ⊕ Option ω) (fin : β → Option ω) : List α → β → Option ω
 | [], b => fin b
 | x :: xs, b => match step b x with
   | .inl b' => runL step fin xs b'
   | .inr r => r
theorem list_loopI {f : σ → (σ → Option ω) → Option ω} (xs : List α) (mk : β → Int → σ) (Inv : β → Int → Prop) (step : β → α → β ⊕ Option ω) (fin : β → Option ω) (hx : xs.length ≤ maxLen)
   (hend : ∀ (b : β) (next : σ → Option ω), Inv b (xs.length : Int) → f (mk b (xs.length : Int)) next = fin b)
   (hstep : ∀ (b : β) (z : Int) (x : α) (next : σ → Option ω), Inv b z → 0 ≤ z → z < (xs.length : Int) → xs[z.toNat]? = some x → IntKind.wrap .i64 (z + 1) = z + 1 → match step b x with | .inl b' => Inv b' (z + 1) ∧ f (mk b z) next = next (mk b' (z + 1)) | .inr r => f (mk b z) next = r) (b : β) (hb : Inv b 0) : LN LOOPS f (mk b 0) = runL step fin xs b := by
 have hml : maxLen = 9223372036854775807 := rfl
 have key : ∀ n, n < LOOPS → ∀ (i : Nat) (b : β), Inv b i → i + n = xs.length → ∀ m, n < m → loopN f m (mk b i) = runL step fin (xs.drop i) b := by
   intro n
   induction n with
   | zero =>
     intro _ i b hb hi m hm
     obtain ⟨m, rfl⟩ : ∃ m', m = m' + 1 := ⟨m - 1, by omega⟩
     simp only [loopN]
     have hi : i = xs.length := by omega
     subst hi
     rw [hend _ _ hb, List.drop_of_length_le (by omega)]
     rfl
   | succ n ih =>
     intro hn i b hb hi m hm
     obtain ⟨m, rfl⟩ : ∃ m', m = m' + 1 := ⟨m - 1, by omega⟩
     simp only [loopN]
     have hlt : i < xs.length := by omega
     have hs := hstep b i xs[i] (loopN f m) hb (by omega) (by omega) (by simp [hlt]) (wrap64 (by omega) (by omega))
     rw [List.drop_eq_getElem_cons hlt]
     simp only [runL]
     split
     · rename_i b' hb'
       rw [hb'] at hs
       obtain ⟨h1, h2⟩ := hs
       rw [h2]
       have := ih (by omega) (i + 1) b' (by simpa using h1) (by omega) m (by omega)
       simpa using this
     · rename_i r hr
       rw [hr] at hs
       exact hs
 have := key xs.length (by unfold LOOPS; omega) 0 b (by simpa using hb) (by omega) LOOPS (by unfold LOOPS; omega)
 simpa [LN] using this
theorem list_loop {f : σ → (σ → Option ω) → Option ω} (xs : List α) (mk : β → Int → σ) (step : β → α → β ⊕ Option ω) (fin : β → Option ω) (hx : xs.length ≤ maxLen)
   (hend : ∀ (b : β) (next : σ → Option ω), f (mk b (xs.length : Int)) next = fin b)
   (hstep : ∀ (b : β) (z : Int) (x : α) (next : σ → Option ω), 0 ≤ z → z < (xs.length : Int) → xs[z.toNat]? = some x → IntKind.wrap .i64 (z + 1) = z + 1 → f (mk b z) next = match step b x with | .inl b' => next (mk b' (z + 1)) | .inr r => r) (b : β) : LN LOOPS f (mk b 0) = runL step fin xs b :=
 list_loopI xs mk (fun _ _ => True) step fin hx (fun b next _ => hend b next) (fun b z x next _ h0 h1 h2 h3 => by
   have := hstep b z x next h0 h1 h2 h3
   split
   · rename_i b' hb; rw [hb] at this; exact ⟨trivial, this⟩
   · rename_i r hr; rw [hr] at this; exact this) b trivial
theorem all_loop {f : σ → (σ → Option Bool) → Option Bool} (xs : List α) (mk : Int → σ) (p : α → Bool) (q : Bool) (hx : xs.length ≤ maxLen) (hend : ∀ (next : σ → Option Bool), f (mk (xs.length : Int)) next = some q)
   (hstep : ∀ (z : Int) (x : α) (next : σ → Option Bool), 0 ≤ z → z < (xs.length : Int) → xs[z.toNat]? = some x → IntKind.wrap .i64 (z + 1) = z + 1 → f (mk z) next = cond (p x) (next (mk (z + 1))) (some false)) : LN LOOPS f (mk 0) = some (xs.all p && q) := by
 rw [list_loop (β := Unit) xs (fun _ => mk) (fun _ x => cond (p x) (.inl ()) (.inr (some false))) (fun _ => some q) hx (fun _ => hend) (fun b z x next h0 h1 h2 h3 => by rw [hstep z x next h0 h1 h2 h3]; cases p x <;> rfl) ()]
 clear hend hstep hx
 induction xs with
 | nil => rfl
 | cons x xs ih =>
   simp only [runL, List.all_cons]
   cases p x with
   | true => simpa using ih
   | false => rfl
end
@[simp] theorem cond_somes {α : Type} (c : Bool) (a b : α) : cond c (some a) (some b) = some (cond c a b) := by cases c <;> rfl
theorem cond_mk {α β : Type} (c : Bool) (a a' : α) (b b' : β) : cond c (a, b) (a', b') = (cond c a a', cond c b b') := by cases c <;> rfl
theorem cond_self {α : Type} (c : Bool) (a : α) : cond c a a = a := by cases c <;> rfl
theorem chk0 {σ : Type} (next : σ → Option Bool) (c : Bool) (x : σ) : cond c (some false) (next x) = cond (!c) (next x) (some false) := by cases c <;> rfl
theorem chk1 {c p : Bool} {K : Option Bool} : cond c (some false) (cond p K (some false)) = cond (!c && p) K (some false) := by cases c <;> cases p <;> rfl
theorem wi {x : Int} (h1 : -9223372036854775808 ≤ x) (h2 : x ≤ 9223372036854775807) : IntKind.wrap .i64 x = x := wrap64 h1 h2
end NM
end Go.Proofs.YtjngkfdclcgfhaaGreatDoor
end
section
namespace Go.Proofs.YtjngkfdclcgfhaaGreatDoor
namespace NM
open AM Go.RowKit
theorem enters_of {P : Program} {f : Nat} {fn : Func} {nf : NFunc} (hf : P.funcs[f]? = some fn) (hc : chkNF P fn nf = true) : AM.Enters P f := by
 refine ⟨fn, hf, ?_, ?_⟩
 · unfold chkNF at hc
   simp only [Bool.and_eq_true, Bool.not_eq_true'] at hc
   exact hc.1.2
 · unfold chkNF at hc
   simp only [Bool.and_eq_true] at hc
   cases hb : fn.body with
   | none => rw [hb] at hc; cases hc.2
   | some c => rfl
end NM
end Go.Proofs.YtjngkfdclcgfhaaGreatDoor
end
section
namespace Go.Proofs.YtjngkfdclcgfhaaGreatDoor
namespace NM
open AM Go.RowKit
section
variable {μ : Nat → AM.Loc} {w w' : World} {S : Nat → Prop} {hp : Heap}
theorem HRep.later (r : HRep μ w S hp) (h : Below w.heap.size w w') : HRep μ w' S hp ∧ Ext μ S w μ S w' := by
 refine ⟨⟨fun b k hb => ?_, r.gone, r.free, r.inj, r.apart, fun m hm => Nat.lt_of_lt_of_le (r.inS m hm) h.size, r.gl.mono (fun m hm => h.block m (r.inS m hm)) (fun _ h => h)⟩, ⟨h.os, h.tape, h.output, h.size, fun m hm _ => h.block m hm, fun _ h => h, fun m hm => .inl hm, fun m hm => .inl hm⟩⟩
 exact (r.live b k hb).mono (Up.refl _) (fun m hm => h.block m (r.inS m hm)) (fun m hm => hm) (fun m n e he => h.block m (r.lt ⟨b, n, e, he⟩))
end
theorem arr1 {cargs : Array Value} (h : cargs.size = 1) : ∃ a, cargs = #[a] := by
 refine ⟨cargs[0], ?_⟩
 apply Array.ext
 · simp [h]
 · intro i h1 h2
   have : i = 0 := by omega
   subst this; simp
theorem arr2 {cargs : Array Value} (h : cargs.size = 2) : ∃ a b, cargs = #[a, b] := by
 refine ⟨cargs[0], cargs[1], ?_⟩
 apply Array.ext
 · simp [h]
 · intro i h1 h2
   have : i = 0 ∨ i = 1 := by omega
   rcases this with rfl | rfl <;> simp
theorem ya_int (k : IntKind) (n : Int) : yA (.v (.int k), []) [] n = .int k n := by
 obtain ⟨c, d, h1, h2, h3, h4⟩ := one_cells (t := .int k) rfl n
 simp only [yA, outA, can, Ty.isAgg, h2]
 have : c = .int k n := by cases h1; rfl
 subst this
 cases h3
 rfl
theorem ya_str (s : List UInt8) : yA (.v .str, []) [] s = .str s := by
 obtain ⟨c, d, h1, h2, h3, h4⟩ := one_cells (t := .str) rfl s
 simp only [yA, outA, can, Ty.isAgg, h2]
 have : c = .str s := by cases h1; rfl
 subst this
 cases h3
 rfl
@[reducible] def sigS2I : Sig := ⟨.cons (.v .str) (.cons (.v .str) .nil), [], (.v (.int .i64), []), []⟩
def strIdx (s sep : List UInt8) : Option Int := match sep with
 | [c] => some (Lib.indexByte s c)
 | _ => none
theorem strIdx_inv {s sep : List UInt8} {y : Int} (h : strIdx s sep = some y) : ∃ c, sep = [c] ∧ y = Lib.indexByte s c := by
 unfold strIdx at h
 split at h
 · rename_i c; cases h; exact ⟨c, rfl, rfl⟩
 · cases h
theorem NOk.index {P : Program} {f : Nat} (hent : AM.Enters P f) (h : ∀ (s : ByteArray) (c : UInt8) (w : World), Calls P f #[.string s, .string ⟨#[c]⟩] w fun e w' => e = .returned (.int .i64 (Lib.indexByte s.data.toList c)) ∧ w' = w) :
   NOk P ⟨f, sigS2I, fun x _ => strIdx x.1 x.2.1⟩ := by
 refine ⟨hent, rfl, fun x hh y hy args ahp ha hb => ?_⟩
 obtain ⟨s, sep, u⟩ := x
 have e0 : ahp = [] := A2.nil_inv hb
 subst e0
 simp only [puts, put, putV, Ty.isAgg] at ha
 obtain ⟨a, as', rfl, h1, ha⟩ := ha.cons_inv
 obtain ⟨b, bs', rfl, h2, ha⟩ := ha.cons_inv
 rw [ha.nil_inv]
 have ha1 : a = .str s := (RT.v h1).str_inv
 have hb1 : b = .str sep := (RT.v h2).str_inv
 subst ha1; subst hb1
 have hy : strIdx s sep = some y := hy
 obtain ⟨c, rfl, rfl⟩ := strIdx_inv hy
 · skip
   intro μ w S cargs r0 hl hv
   obtain ⟨v0, v1, rfl⟩ := arr2 (by simpa using hl.symm)
   obtain ⟨s0, rfl, e1⟩ := (hv 0 _ v0 rfl rfl).str_inv
   obtain ⟨s2, rfl, e2⟩ := (hv 1 _ v1 rfl rfl).str_inv
   have hs2 : s2 = ⟨#[c]⟩ := by
     obtain ⟨d⟩ := s2
     have : d.toList = [c] := e2
     have : d = #[c] := by apply Array.toList_inj.1; simpa using this
     rw [this]
   subst hs2
   subst e1
   refine (h s0 c w).mono fun e w' ⟨he, hw⟩ => ?_
   subst hw
   exact ⟨_, μ, S, he, r0, Ext.refl _ _ _, (ya_int .i64 _).symm ▸ .imm _ _ (.int _ _), Nat.le_refl _, fun b hb _ => .inl rfl⟩
theorem ext56 : NOk Tryz.prog ⟨56, sigS2I, fun x _ => strIdx x.1 x.2.1⟩ :=
 NOk.index (P := Tryz.prog) ⟨_, Tryz.func56, rfl, rfl⟩ Tryz.stringslite_Index_one
end NM
end Go.Proofs.YtjngkfdclcgfhaaGreatDoor
end
section
namespace Go.Proofs.YtjngkfdclcgfhaaGreatDoor
namespace NM
open AM Go.RowKit
theorem tab_of {P : Program} {w : World} {S : Nat → Prop} {name : String} {g : Nat} {k : IntKind} {zs : List Int} (h : GlobR w S) (hg : P.globalNamed name = some g) (hz : globOf g globs = some (zs.map (AVal.int k))) : Lib.TabIs P w name k zs := by
 obtain ⟨h1, _, us, t, p, h3, h4⟩ := h.1 g _ hz
 unfold Lib.TabIs World.var?
 rw [hg]
 simp only [Option.bind_some, h3, Option.some.injEq]
 apply Array.ext
 · simp [h4]
 · intro i hi hi'
   have hl : i < zs.length := by simpa using hi'
   have hc : (zs.map (AVal.int k))[i]? = some (.int k zs[i]) := by simp [hl]
   cases h1 with
   | iptr cs off m o gv hm hcell hir =>
     have e1 := hcell i _ hc
     have e2 := hir i _ hc
     generalize gv i = v at e1 e2
     cases e2
     rw [Nat.zero_add] at e1
     simp only [World.cell?, h3] at e1
     have : us[i]? = some (Value.int k zs[i]) := by simpa using e1
     have := (Array.getElem?_eq_some_iff.1 this).2
     rw [this]
     simp
@[reducible] def sigI2S : Sig := ⟨.cons (.v (.int .i64)) .nil, [], (.v .str, []), []⟩
def itoaF (n : Int) : Option (List UInt8) := cond (decide (-9223372036854775808 ≤ n) && decide (n ≤ 9223372036854775807)) (some (Lib.itoa n)) none
theorem NOk.itoa {P : Program} {f : Nat} (hent : AM.Enters P f) (htab : ∀ {w : World} {S : Nat → Prop}, GlobR w S → Lib.TabIs P w "internal/strconv.uint64pow10" .u64 Lib.pow10Tab) (h : ∀ (n : Int) (h0 : -9223372036854775808 ≤ n) (h1 : n ≤ 9223372036854775807) (w : World) (htab : Lib.TabIs P w "internal/strconv.uint64pow10" .u64 Lib.pow10Tab), Calls P f #[.int .i64 n] w fun e w' => e = .returned (.string ⟨(Lib.itoa n).toArray⟩) ∧ Below w.heap.size w w') :
   NOk P ⟨f, sigI2S, fun x _ => itoaF x.1⟩ := by
 refine ⟨hent, rfl, fun x hh y hy args ahp ha hb => ?_⟩
 obtain ⟨n, u⟩ := x
 have e0 : ahp = [] := A2.nil_inv hb
 subst e0
 simp only [puts, put, putV, Ty.isAgg] at ha
 obtain ⟨a, as', rfl, h1, ha⟩ := ha.cons_inv
 rw [ha.nil_inv]
 have ha1 : a = .int .i64 n := (RT.v h1).int_inv
 subst ha1
 have hy : itoaF n = some y := hy
 unfold itoaF at hy
 cases hc : (decide (-9223372036854775808 ≤ n) && decide (n ≤ 9223372036854775807)) with
 | false => rw [hc] at hy; cases hy
 | true =>
   rw [hc] at hy
   cases hy
   simp only [Bool.and_eq_true, decide_eq_true_eq] at hc
   intro μ w S cargs r0 hl hv
   obtain ⟨v0, rfl⟩ := arr1 (by simpa using hl.symm)
   have e1 := (hv 0 _ v0 rfl rfl).int_inv
   subst e1
   refine (h n hc.1 hc.2 w (htab r0.gl)).mono fun e w' ⟨he, hw⟩ => ?_
   obtain ⟨r1, x1⟩ := HRep.later r0 hw
   exact ⟨_, μ, S, he, r1, x1, (ya_str _).symm ▸ .imm _ _ (.str ⟨(Lib.itoa n).toArray⟩), Nat.le_refl _, fun b hb _ => .inl rfl⟩
theorem ext27 : NOk Tryz.prog ⟨27, sigI2S, fun x _ => itoaF x.1⟩ :=
 NOk.itoa (P := Tryz.prog) ⟨_, Tryz.func27, rfl, rfl⟩ (fun h => tab_of (g := 1) h (by kernel_rfl) rfl) fun n h0 h1 w htab => (Tryz.strconv_Itoa n h0 h1 w htab).mono fun e w' ⟨he, k, os, hw⟩ => ⟨he, by rw [hw]; exact ⟨rfl, rfl, rfl, by simp [Go.Sort.grow, World.drewN], fun m hm => by simp [Go.Sort.grow, World.drewN, Array.getElem?_append, hm]⟩⟩
@[reducible] def sigL2S : Sig := ⟨.cons (.v (.list .str)) (.cons (.v .str) .nil), [], (.v .str, []), []⟩
def joinF (xs : List (List UInt8)) (sep : List UInt8) : Option (List UInt8) := match xs with
 | [] => none
 | x :: l => cond (decide ((x :: l).length ≤ 4294967296) && decide ((Lib.join (x :: l) sep).length ≤ 4294967296)) (some (Lib.join (x :: l) sep)) none
theorem joinF_inv {xs : List (List UInt8)} {sep y : List UInt8} (h : joinF xs sep = some y) : 0 < xs.length ∧ xs.length ≤ 4294967296 ∧ (Lib.join xs sep).length ≤ 4294967296 ∧ y = Lib.join xs sep := by
 unfold joinF at h
 split at h
 · cases h
 · rename_i x l
   cases hc : (decide ((x :: l).length ≤ 4294967296) && decide ((Lib.join (x :: l) sep).length ≤ 4294967296)) with
   | false => rw [hc] at h; cases h
   | true =>
     rw [hc] at h
     simp only [Bool.and_eq_true, decide_eq_true_eq] at hc
     cases h
     exact ⟨by simp, hc.1, hc.2, rfl⟩
theorem NOk.join {P : Program} {f : Nat} (hent : AM.Enters P f)
   (h : ∀ (bk o c : Nat) (xs : List ByteArray) (sep : ByteArray) (w : World), (∀ (j : Nat) x, xs[j]? = some x → w.cell? ⟨bk, o + j, none⟩ = some (.string x)) → bk < w.heap.size → xs.length ≤ 140737488355328 → xs.length ≤ c → (Lib.join (xs.map (·.data.toList)) sep.data.toList).length ≤ 140737488355328 →
     Calls P f #[.slice (some ⟨bk, o, none⟩) xs.length c, .string sep] w fun e w' => e = .returned (.string ⟨(Lib.join (xs.map (·.data.toList)) sep.data.toList).toArray⟩) ∧ Below w.heap.size w w') :
   NOk P ⟨f, sigL2S, fun x _ => joinF x.1 x.2.1⟩ := by
 refine ⟨hent, rfl, fun x hh y hy args ahp ha hb => ?_⟩
 obtain ⟨xs, sep, u⟩ := x
 have e0 : ahp = [] := A2.nil_inv hb
 subst e0
 simp only [puts, put, putV, Ty.isAgg] at ha
 obtain ⟨a, as', rfl, h1, ha⟩ := ha.cons_inv
 obtain ⟨b, bs', rfl, h2, ha⟩ := ha.cons_inv
 rw [ha.nil_inv]
 have hb1 : b = .str sep := (RT.v h2).str_inv
 subst hb1
 have hy : joinF xs sep = some y := hy
 obtain ⟨c0, c1, c2, rfl⟩ := joinF_inv hy
 intro μ w S cargs r0 hl hv
 obtain ⟨v0, v1, rfl⟩ := arr2 (by simpa using hl.symm)
 obtain ⟨s2, rfl, rfl⟩ := (hv 1 _ v1 rfl rfl).str_inv
 have hv0 := hv 0 _ v0 rfl rfl
 have h1' : RI (.lst .str xs) a := (RT.v h1).lst_inv
 rcases h1'.lst_inv with ⟨ys, rfl, hys⟩ | ⟨_, e0⟩
 · cases hv0 with
   | imm _ _ h3 =>
     cases h3 with
     | imm _ _ A cap g i1 i2 i3 i4 i5 =>
       have hlen : ys.length = xs.length := hys.1.symm
       have hat : ∀ (j : Nat) (s : List UInt8), xs[j]? = some s → ∃ m o, A = some ⟨m, o, none⟩ ∧ S m ∧ w.cell? ⟨m, o + j, none⟩ = some (.string ⟨s.toArray⟩) := fun j s hs => by
         have hj : j < ys.length := by have := (List.getElem?_eq_some_iff.1 hs).1; omega
         have hyj : ys[j]? = some ys[j] := by simp [hj]
         have hrow := hys.2 j s ys[j] hs hyj
         have hrow : A2 RI [.str s] ys[j] := hrow
         obtain ⟨d, ds, e1, hd, hds⟩ := hrow.cons_inv
         have e2 := hds.nil_inv
         rw [e2] at e1
         cases hd
         rw [e1] at hyj
         obtain ⟨m, o, hA, hm, hc⟩ := i4 j _ 0 _ hyj rfl
         have hir := i5 j _ 0 _ hyj rfl
         generalize g j 0 = gv at hc hir
         have hgv : gv = .string ⟨s.toArray⟩ := by
           cases hir with
           | str s' => congr 1
         have hsz : (ops Ty.str).size = 1 := rfl
         rw [hsz, Nat.mul_one, Nat.add_zero, hgv] at hc
         exact ⟨m, o, hA, hm, hc⟩
       obtain ⟨x0, hx0⟩ : ∃ x0, xs[0]? = some x0 := ⟨xs[0], by simp [c0]⟩
       obtain ⟨m, o, rfl, hm, _⟩ := hat 0 x0 hx0
       have hmap : (xs.map fun s => (⟨s.toArray⟩ : ByteArray)).map (·.data.toList) = xs := by
         rw [List.map_map]
         have : ((fun s : ByteArray => s.data.toList) ∘ fun s : List UInt8 => (⟨s.toArray⟩ : ByteArray)) = id := by funext s; simp
         rw [this, List.map_id]
       have hcall := h m o cap (xs.map fun s => (⟨s.toArray⟩ : ByteArray)) s2 w (fun j x hx => by
         rw [List.getElem?_map] at hx
         obtain ⟨s, hs, rfl⟩ := Option.map_eq_some_iff.1 hx
         obtain ⟨m', o', hA, _, hc⟩ := hat j s hs
         cases hA
         exact hc) (r0.inS m hm) (by rw [List.length_map]; omega) (by rw [List.length_map]; omega) (by rw [hmap]; omega)
       rw [hmap, List.length_map, ← hlen] at hcall
       refine hcall.mono fun e w' ⟨he, hw⟩ => ?_
       obtain ⟨r1, x1⟩ := HRep.later r0 hw
       exact ⟨_, μ, S, he, r1, x1, (ya_str _).symm ▸ .imm _ _ (.str ⟨(Lib.join xs s2.data.toList).toArray⟩), Nat.le_refl _, fun b hb _ => .inl rfl⟩
 · subst e0
   simp at c0
theorem ext28 : NOk Tryz.prog ⟨28, sigL2S, fun x _ => joinF x.1 x.2.1⟩ :=
 NOk.join (P := Tryz.prog) ⟨_, Tryz.func28, rfl, rfl⟩ fun bk o c xs sep w h1 h2 h3 h4 h5 => Tryz.strings_Join bk o c xs sep w h1 h2 h3 h4 h5
def numGo : List UInt8 → Bool → Int → Int
 | [], _, n => n
 | c :: l, first, n => if c.toNat < 48 ∨ 57 < c.toNat then 0 else if first = true ∧ c.toNat = 48 then 0 else if 1048576 < 10 * n + ((c.toNat : Int) - 48) then 0 else numGo l false (10 * n + ((c.toNat : Int) - 48))
theorem digit_bad (c : Nat) (h : c < 48 ∨ 57 < c) (w : World) : Calls Tryz.prog 71 #[.int .i32 (c : Int)] w fun e w' => e = .returned (.int .i64 (-1)) ∧ w' = w := by
 go_enter Tryz.func71, Tryz.ntmps71
 go_wp2
 all_goals first
   | (go_ret; exact ⟨rfl, rfl⟩)
   | (exfalso; omega)
   | fail
theorem digit_good (d : Nat) (h : d < 10) (w : World) : Calls Tryz.prog 71 #[.int .i32 ((48 + d : Nat) : Int)] w fun e w' => e = .returned (.int .i64 (d : Int)) ∧ w' = w := by
 have h1 : ¬ ((48 + d : Nat) : Int) < 48 := by omega
 have h2 : ¬ ((48 + d : Nat) : Int) > 57 := by omega
 go_enter Tryz.func71, Tryz.ntmps71
 go_wp2
 go_ret
 refine ⟨?_, rfl⟩
 show Ending.returned (Value.int .i64 (48 + (d : Int) - 48)) = _
 rw [show (48 + (d : Int) - 48) = (d : Int) by omega]
theorem digit_zero (w : World) : Calls Tryz.prog 71 #[.int .i32 48] w fun e w' => e = .returned (.int .i64 0) ∧ w' = w := digit_good 0 (by omega) w
set_option maxHeartbeats 4000000 in
set_option maxRecDepth 1000000 in
theorem num_walk (s : ByteArray) (w : World) : Calls Tryz.prog 58 #[.string s] w fun e w' => e = .returned (.int .i64 (numGo s.data.toList true 0)) ∧ Below w.heap.size w w' := by
 have hB : ∀ pos, Below w.heap.size w (w.iter s pos) := fun pos => (Below.refl _ _).alloc (Nat.le_refl _) _
 go_enter Tryz.func58, Tryz.ntmps58
 go_wp2
 go_loopw [3] (fun n w' => ∃ (pos : Nat) (acc : Int), w' = w.iter s pos ∧ n = .int .i64 acc ∧ 0 ≤ acc ∧ acc ≤ 1048576 ∧ pos ≤ s.size ∧ Hid (numGo (s.data.toList.drop pos) (decide (pos = 0)) acc = numGo s.data.toList true 0)) (fun _ w' => s.size - w'.iterPos w.heap.size)
 case atStart => exact ⟨0, 0, rfl, rfl, by omega, by omega, by omega, rfl⟩
 case round =>
   obtain ⟨pos, acc, rfl, rfl, h0, h1, h2, hspec⟩ := hrel
   by_cases hp : pos < s.size
   · have hnx : ∀ ty, (Instr.next (.pointer (some ⟨w.heap.size, 0, none⟩)) true ty).run Tryz.prog (w.iter s pos) = _ := fun ty => run_next_any w s pos ty hp
     obtain ⟨c, wd, hdec⟩ : ∃ c wd, Utf8.decode s pos = (c, wd) := ⟨_, _, rfl⟩
     rw [hdec] at hnx
     simp only at hnx
     have hfact : ((s[pos]'hp).toNat < 128 ∧ c = (s[pos]'hp).toNat ∧ wd = 1) ∨ (128 ≤ (s[pos]'hp).toNat ∧ 128 ≤ c ∧ 1 ≤ wd ∧ c ≤ 2147483647) := by
       by_cases ha : (s[pos]'hp).toNat < 128
       · have := decode_ascii s pos hp ha
         rw [hdec] at this
         cases this
         exact .inl ⟨ha, rfl, rfl⟩
       · have h3 := decode_high s pos hp (by omega)
         have h4 := decode_le s pos
         rw [hdec] at h3 h4
         exact .inr ⟨by omega, h3.1, h3.2, h4⟩
     have hlist : s.data.toList.drop pos = s[pos]'hp :: s.data.toList.drop (pos + 1) := by
       have hl : pos < s.data.toList.length := by simpa using hp
       rw [List.drop_eq_getElem_cons hl]
       rfl
     generalize hbg : s[pos]'hp = b at hfact hlist
     have HL := Go.Lib.hid hlist
     clear hlist hdec
     by_cases hbad : c < 48 ∨ 57 < c
     · have hsp : numGo s.data.toList true 0 = 0 := by
         have h3 := HL.out
         have h4 := hspec.out
         rw [h3] at h4
         rw [← h4]
         unfold numGo
         rw [if_pos (by omega)]
       clear hspec HL
       go_wp2_with (go_at_call 71; refine (digit_bad c hbad _).mono ?_; rintro e w' ⟨rfl, rfl⟩)
       go_ret
       exact ⟨by rw [hsp]; rfl, hB _⟩
     · obtain ⟨d, rfl⟩ : ∃ d, c = 48 + d := ⟨c - 48, by omega⟩
       have hd : d < 10 := by omega
       have hb : b.toNat = 48 + d ∧ wd = 1 := by omega
       obtain ⟨hb, rfl⟩ := hb
       have hsp : numGo s.data.toList true 0 = if pos = 0 ∧ d = 0 then 0 else if 1048576 < 10 * acc + (d : Int) then 0 else numGo (s.data.toList.drop (pos + 1)) false (10 * acc + (d : Int)) := by
         have h3 := HL.out
         have h4 := hspec.out
         rw [h3] at h4
         rw [← h4]
         rw [numGo, if_neg (by omega)]
         have e1 : ((b.toNat : Int) - 48) = (d : Int) := by omega
         rw [e1]
         by_cases hz : pos = 0 ∧ d = 0
         · rw [if_pos hz, if_pos ⟨by simp [hz.1], by omega⟩]
         · rw [if_neg hz, if_neg (fun h => hz ⟨by simpa using h.1, by omega⟩)]
       have HS := Go.Lib.hid hsp
       clear hsp hspec HL hfact hbad
       by_cases hd0 : d = 0
       · subst hd0
         have hnx0 : ∀ ty, (Instr.next (.pointer (some ⟨w.heap.size, 0, none⟩)) true ty).run Tryz.prog (w.iter s pos) = .ok (.tuple #[.bool true, .int .i64 (pos : Int), .int .i32 48]) (w.iter s (pos + 1)) := hnx
         clear hnx
         go_wp2_with (go_at_call 71; refine (digit_zero _).mono ?_; rintro e w' ⟨rfl, rfl⟩)
         all_goals (have hsp := HS.out)
         all_goals (rw [show (10 * acc + ((0 : Nat) : Int)) = 10 * acc by omega] at hsp)
         all_goals first
           | (refine ⟨⟨pos + 1, _, rfl, rfl, by omega, by omega, by omega, ?_⟩, by simp; omega⟩; rw [if_neg (by first | omega | (intro h; have := h.1; omega) | exact ⟨by omega, trivial⟩), if_neg (by omega)] at hsp; refine Go.Lib.hid ?_; rw [hsp, decide_eq_false (by omega)])
           | (have hpz : pos = 0 := (by assumption); subst hpz; refine ⟨⟨1, _, rfl, rfl, by omega, by omega, by omega, ?_⟩, by simp; omega⟩; rw [if_neg (by first | omega | (intro h; have := h.1; omega) | exact ⟨by omega, trivial⟩), if_neg (by omega)] at hsp; refine Go.Lib.hid ?_; rw [hsp, decide_eq_false (by omega)])
           | (go_ret; rw [if_pos (by first | omega | (intro h; have := h.1; omega) | exact ⟨by omega, trivial⟩)] at hsp; exact ⟨by rw [hsp]; rfl, hB _⟩)
           | (go_ret; rw [if_neg (by first | omega | (intro h; have := h.1; omega) | exact ⟨by omega, trivial⟩), if_pos (by omega)] at hsp; exact ⟨by rw [hsp]; rfl, hB _⟩)
           | fail
       · have hz : ((d : Int) == 0) = false := by simp [hd0]
         go_wp2_with (go_at_call 71; refine (digit_good d hd _).mono ?_; rintro e w' ⟨rfl, rfl⟩)
         all_goals (have hsp := HS.out)
         all_goals first
           | (refine ⟨⟨pos + 1, _, rfl, rfl, by omega, by omega, by omega, ?_⟩, by simp; omega⟩; rw [if_neg (by first | omega | (intro h; have := h.1; omega) | exact ⟨by omega, trivial⟩), if_neg (by omega)] at hsp; refine Go.Lib.hid ?_; rw [hsp, decide_eq_false (by omega)])
           | (have hpz : pos = 0 := (by assumption); subst hpz; refine ⟨⟨1, _, rfl, rfl, by omega, by omega, by omega, ?_⟩, by simp; omega⟩; rw [if_neg (by first | omega | (intro h; have := h.1; omega) | exact ⟨by omega, trivial⟩), if_neg (by omega)] at hsp; refine Go.Lib.hid ?_; rw [hsp, decide_eq_false (by omega)])
           | (go_ret; rw [if_pos (by first | omega | (intro h; have := h.1; omega) | exact ⟨by omega, trivial⟩)] at hsp; exact ⟨by rw [hsp]; rfl, hB _⟩)
           | (go_ret; rw [if_neg (by first | omega | (intro h; have := h.1; omega) | exact ⟨by omega, trivial⟩), if_pos (by omega)] at hsp; exact ⟨by rw [hsp]; rfl, hB _⟩)
           | fail
   · have hnx : ∀ ty, (Instr.next (.pointer (some ⟨w.heap.size, 0, none⟩)) true ty).run Tryz.prog (w.iter s pos) = _ := fun ty => run_next_end w s pos ty hp
     have hsp : numGo s.data.toList true 0 = acc := by
       have h4 := hspec.out
       rw [List.drop_of_length_le (by simp; omega)] at h4
       rw [← h4]
       unfold numGo
       rfl
     clear hspec
     go_wp2
     go_ret
     exact ⟨by rw [hsp]; rfl, hB _⟩
@[reducible] def sigS2I1 : Sig := ⟨.cons (.v .str) .nil, [], (.v (.int .i64), []), []⟩
def unitsNum (s : List UInt8) : Option Int := some (numGo s true 0)
theorem NOk.num {P : Program} {f : Nat} (hent : AM.Enters P f) (h : ∀ (s : ByteArray) (w : World), Calls P f #[.string s] w fun e w' => e = .returned (.int .i64 (numGo s.data.toList true 0)) ∧ Below w.heap.size w w') :
   NOk P ⟨f, sigS2I1, fun x _ => unitsNum x.1⟩ := by
 refine ⟨hent, rfl, fun x hh y hy args ahp ha hb => ?_⟩
 obtain ⟨s, u⟩ := x
 have e0 : ahp = [] := A2.nil_inv hb
 subst e0
 simp only [puts, put, putV, Ty.isAgg] at ha
 obtain ⟨a, as', rfl, h1, ha⟩ := ha.cons_inv
 rw [ha.nil_inv]
 have ha1 : a = .str s := (RT.v h1).str_inv
 subst ha1
 cases hy
 intro μ w S cargs r0 hl hv
 obtain ⟨v0, rfl⟩ := arr1 (by simpa using hl.symm)
 obtain ⟨s0, rfl, rfl⟩ := (hv 0 _ v0 rfl rfl).str_inv
 refine (h s0 w).mono fun e w' ⟨he, hw⟩ => ?_
 obtain ⟨r1, x1⟩ := HRep.later r0 hw
 exact ⟨_, μ, S, he, r1, x1, (ya_int .i64 _).symm ▸ .imm _ _ (.int _ _), Nat.le_refl _, fun b hb _ => .inl rfl⟩
theorem ext58 : NOk Tryz.prog ⟨58, sigS2I1, fun x _ => unitsNum x.1⟩ :=
 NOk.num (P := Tryz.prog) ⟨_, Tryz.func58, rfl, rfl⟩ num_walk
end NM
end Go.Proofs.YtjngkfdclcgfhaaGreatDoor
end
section
namespace Go.Proofs.YtjngkfdclcgfhaaGreatDoor
namespace NM
open AM Go.RowKit
def partsL : Nat → List UInt8 → List (List UInt8)
 | 0, s => [s]
 | k + 1, s => if Lib.indexByte s 32 < 0 then [s] else s.take (Lib.indexByte s 32).toNat :: partsL k (s.drop ((Lib.indexByte s 32).toNat + 1))
theorem pcs_data : ∀ (k : Nat) (s : ByteArray), (pcs k s).map (·.data.toList) = partsL k s.data.toList
 | 0, s => rfl
 | k + 1, s => by
   unfold pcs partsL
   by_cases h : Lib.indexByte s.data.toList 32 < 0
   · rw [if_pos h, if_pos h]; rfl
   · rw [if_neg h, if_neg h, List.map_cons, pcs_data k]
     have hd : (s.extract ((Lib.indexByte s.data.toList 32).toNat + 1) s.size).data.toList = s.data.toList.drop ((Lib.indexByte s.data.toList 32).toNat + 1) := by
       simp [ByteArray.data_extract, List.extract_eq_take_drop, ← ByteArray.size_data]
       exact List.take_of_length_le (by simp)
     have ht : (s.extract 0 (Lib.indexByte s.data.toList 32).toNat).data.toList = s.data.toList.take (Lib.indexByte s.data.toList 32).toNat := by
       simp [ByteArray.data_extract, List.extract_eq_take_drop]
     rw [hd, ht]
def numL (s : List UInt8) : Option Int := match Lib.atoiAll s with
 | .ok v => some v
 | _ => none
def numsL : List (List UInt8) → Option (List Int)
 | [] => some []
 | s :: l => match numL s, numsL l with
   | some v, some vs => some (v :: vs)
   | _, _ => none
theorem numsB_data : ∀ l : List ByteArray, numsB l = numsL (l.map (·.data.toList))
 | [] => rfl
 | s :: l => by
   simp only [numsB, List.map_cons, numsL, numsB_data l]
   rfl
def specNums (s : List UInt8) : Option (List Int × (Bool × Unit)) := cond (decide (s.length ≤ 1000000)) (some (match numsL (partsL s.length s) with
 | some zs => (zs, (true, ()))
 | none => ([], (false, ())))) none
@[reducible] def sigSN : Sig := ⟨.cons (.v .str) .nil, [], (.tup (.cons (.v (.list (.int .i64))) (.cons (.v .bool) .nil)), []), []⟩
theorem ya_boolD (b : Bool) : yA (.v .bool, []) [] b = .bool b := by
 obtain ⟨c, d, h1, h2, h3, h4⟩ := one_cells (t := .bool) rfl b
 simp only [yA, outA, can, Ty.isAgg, h2]
 have : c = .bool b := by cases h1; rfl
 subst this
 cases h3
 rfl
theorem ric_int {k : IntKind} {n : Int} {p : AVal} (h : RIc (.int k n) p) : p = .int k n := by
 cases h
 rfl
theorem NOk.specNums {P : Program} {f g1 g2 : Nat} {ti : TypeId} (hent : AM.Enters P f) (hg1 : g1 ∈ anyIfs) (hg2 : g2 ∈ anyIfs)
   (h : ∀ (s : ByteArray), s.size ≤ 1000000 → ∀ (w : World) (ev1 ev2 : Value), w.cell? ⟨g1, 0, none⟩ = some ev1 → w.cell? ⟨g2, 0, none⟩ = some ev2 → IfOk ev1 → IfOk ev2 → ∀ (R : Ending → World → Prop),
     (∀ zs v w', numsB (parts s) = some zs → Below w.heap.size w w' → w'.ownsRow (w.heap.size + 6) ti 1 v zs.length (zs.map fun z => .int .i64 z) → R (.returned (.tuple #[v, .bool true])) w') →
     (∀ w', numsB (parts s) = none → Below w.heap.size w w' → R (.returned (.tuple #[.slice none 0 0, .bool false])) w') → Calls P f #[.string s] w R) :
   NOk P ⟨f, sigSN, fun x _ => specNums x.1⟩ := by
 refine ⟨hent, rfl, fun x hh y hy args ahp ha hb => ?_⟩
 obtain ⟨s, u⟩ := x
 have e0 : ahp = [] := A2.nil_inv hb
 subst e0
 simp only [puts, put, putV, Ty.isAgg] at ha
 obtain ⟨a, as', rfl, h1, ha⟩ := ha.cons_inv
 rw [ha.nil_inv]
 have ha1 : a = .str s := (RT.v h1).str_inv
 subst ha1
 have hy : NM.specNums s = some y := hy
 unfold NM.specNums at hy
 cases hc : decide (s.length ≤ 1000000) with
 | false => rw [hc] at hy; cases hy
 | true =>
   rw [hc] at hy
   have hc := of_decide_eq_true hc
   simp only [cond_true, Option.some.injEq] at hy
   intro μ w S cargs r0 hl hv
   obtain ⟨v0, rfl⟩ := arr1 (by simpa using hl.symm)
   obtain ⟨s1, rfl, rfl⟩ := (hv 0 _ v0 rfl rfl).str_inv
   obtain ⟨_, ev1, t1, p1, c1, i1⟩ := r0.gl.2.2 g1 hg1
   obtain ⟨_, ev2, t2, p2, c2, i2⟩ := r0.gl.2.2 g2 hg2
   have k1 : w.cell? ⟨g1, 0, none⟩ = some ev1 := by simp [World.cell?, c1]
   have k2 : w.cell? ⟨g2, 0, none⟩ = some ev2 := by simp [World.cell?, c2]
   have hn : numsB (parts s1) = numsL (partsL s1.data.toList.length s1.data.toList) := by
     rw [numsB_data, parts, pcs_data, size_toList]
   have hfree : ∀ b, μ b = .free := fun b => r0.free b (.inr (Nat.zero_le _))
   refine h s1 (by simpa using hc) w ev1 ev2 k1 k2 i1 i2 _ (fun zs v w' hz hbel hrow => ?_) (fun w' hz hbel => ?_)
   · rw [hn] at hz
     rw [hz] at hy
     subst hy
     obtain ⟨c, d, j1, j2, j3, j4⟩ := one_cells (t := .list (.int .i64)) rfl zs
     have hbl := ya_boolD true
     have hya : yA (.tup (.cons (.v (.list (.int .i64))) (.cons (.v .bool) .nil)), []) [] (zs, (true, ())) = .tup [d, .bool true] := by
       simp only [yA, outA, can, cans, Ty.isAgg, j2] at hbl ⊢
       rw [hbl]
       rfl
     have hcl : c = .lst (.int .i64) zs := by cases j1; rfl
     subst hcl
     cases j3 with
     | lst _ _ e ys he2 hl2 hr hc2 =>
       have he2 : e = 1 := he2
       subst he2
       have row : ∀ (i : Nat) (x : List AVal), ys[i]? = some x → ∃ z : Int, zs[i]? = some z ∧ x = [.int .i64 z] := fun i x hi => by
         have hil := (List.getElem?_eq_some_iff.1 hi).1
         have hz : zs[i]? = some (zs[i]'(by omega)) := List.getElem?_eq_getElem _
         refine ⟨_, hz, ?_⟩
         have hx1 : x.length = 1 := (hr i _ x hz hi).symm
         obtain ⟨p0, rfl⟩ : ∃ p0, x = [p0] := by
           match x, hx1 with
           | [p0], _ => exact ⟨p0, rfl⟩
         have r1 : RIc (.int .i64 (zs[i]'(by omega))) p0 := hc2 i _ [p0] 0 _ p0 hz hi rfl rfl
         rw [ric_int r1]
       rcases hrow.2 with ⟨rfl, hz0⟩ | ⟨g, cap, cur, rfl, hbg, hg, hcap, hmax, hcs, htk⟩
       · obtain ⟨r1, x1⟩ := HRep.later r0 hbel
         refine ⟨_, μ, S, rfl, r1, x1, ?_, Nat.le_refl _, fun b hb _ => .inl rfl⟩
         show VR μ w' S (yA (.tup (.cons (.v (.list (.int .i64))) (.cons (.v .bool) .nil)), []) [] (zs, (true, ()))) _
         rw [hya]
         have hy0 : ys = [] := List.eq_nil_of_length_eq_zero (by rw [← hl2]; exact hz0)
         subst hy0
         refine .tup _ _ rfl fun j c v hc hv => ?_
         match j with
         | 0 => cases hc; cases hv; exact .imm _ _ (.imm 1 [] none 0 (fun _ _ => .bool true) (Nat.le_refl _) (fun _ => rfl) (fun i x hi => by simp at hi) (fun i x j c hi hj => by simp at hi) (fun i x j c hi hj => by simp at hi))
         | 1 => cases hc; cases hv; exact .imm _ _ (.bool _)
         | j + 2 => simp at hc
       · have hgl : w.heap.size ≤ g := by omega
         have hglt : g < w'.heap.size := (Array.getElem?_eq_some_iff.1 hg).1
         have hgR := r0.gl.mono (w' := w') (S' := fun j => S j ∨ j = g) (fun m hm => hbel.block m (r0.inS m hm)) (fun _ h => .inl h)
         have htk : cur.toList.take zs.length = zs.map fun z => .int .i64 z := by simpa using htk
         refine ⟨_, μ, fun j => S j ∨ j = g, rfl, ?_, ⟨hbel.os, hbel.tape, hbel.output, hbel.size, fun m hm _ => hbel.block m hm, fun _ h => .inl h, fun m hm => ?_, fun m ho => .inl ho⟩, ?_, Nat.le_refl _, fun b hb => absurd hb (Nat.not_lt_zero _)⟩
         · show HRep μ _ _ []
           refine ⟨fun b k hbk => ?_, fun b _ => .inl (hfree b), fun b _ => hfree b, r0.inj, fun m ho => ?_, fun m hm => ?_, hgR⟩
           · unfold Heap.get at hbk
             simp at hbk
           · obtain ⟨b, n, e, hb⟩ := ho
             rw [hfree b] at hb
             cases hb
           · rcases hm with hm | rfl
             · exact Nat.lt_of_lt_of_le (r0.inS m hm) hbel.size
             · exact hglt
         · rcases hm with hm | rfl
           · exact .inl hm
           · exact .inr (.inr hgl)
         · show VR μ w' (fun j => S j ∨ j = g) (yA (.tup (.cons (.v (.list (.int .i64))) (.cons (.v .bool) .nil)), []) [] (zs, (true, ()))) _
           rw [hya]
           refine .tup _ _ rfl fun j c v hc hv => ?_
           match j with
           | 1 => cases hc; cases hv; exact .imm _ _ (.bool _)
           | j + 2 => simp at hc
           | 0 =>
             cases hc
             cases hv
             rw [hl2] at hcap ⊢
             refine .imm _ _ (.imm 1 ys (some ⟨g, 0, none⟩) cap (fun i _ => .int .i64 (zs.getD i 0)) hcap (fun h => by cases h) (fun i x hi => ?_) (fun i x j c hi hj => ?_) (fun i x j c hi hj => ?_))
             · obtain ⟨z, _, rfl⟩ := row i x hi
               rfl
             · obtain ⟨z, hz, rfl⟩ := row i x hi
               have hj0 : j = 0 := by
                 match j with
                 | 0 => rfl
                 | j + 1 => simp at hj
               subst hj0
               refine ⟨g, 0, rfl, .inr rfl, ?_⟩
               have hcu : cur[i]? = some (.int .i64 z) := by
                 have h1 : (cur.toList.take zs.length)[i]? = some (.int .i64 z) := by rw [htk, List.getElem?_map, hz]; rfl
                 have hlt : i < zs.length := (List.getElem?_eq_some_iff.1 hz).1
                 rw [List.getElem?_take_of_lt hlt] at h1
                 simpa using h1
               simp only [World.cell?, hg]
               simp [hcu, hz]
             · obtain ⟨z, hz, rfl⟩ := row i x hi
               match j with
               | j + 1 => simp at hj
               | 0 =>
                 cases hj
                 have : zs.getD i 0 = z := by simp [hz]
                 simp only [this]
                 exact .int _ _
   · rw [hn] at hz
     rw [hz] at hy
     subst hy
     obtain ⟨c, d, j1, j2, j3, j4⟩ := one_cells (t := .list (.int .i64)) rfl ([] : List Int)
     have hbl := ya_boolD false
     have hya : yA (.tup (.cons (.v (.list (.int .i64))) (.cons (.v .bool) .nil)), []) [] (([] : List Int), (false, ())) = .tup [d, .bool false] := by
       simp only [yA, outA, can, cans, Ty.isAgg, j2] at hbl ⊢
       rw [hbl]
       rfl
     have hcl : c = .lst (.int .i64) ([] : List Int) := by cases j1; rfl
     subst hcl
     cases j3 with
     | lst _ _ e ys he2 hl2 hr hc2 =>
       obtain ⟨r1, x1⟩ := HRep.later r0 hbel
       refine ⟨_, μ, S, rfl, r1, x1, ?_, Nat.le_refl _, fun b hb _ => .inl rfl⟩
       show VR μ w' S (yA (.tup (.cons (.v (.list (.int .i64))) (.cons (.v .bool) .nil)), []) [] (([] : List Int), (false, ()))) _
       rw [hya]
       have hy0 : ys = [] := List.eq_nil_of_length_eq_zero (by rw [← hl2]; rfl)
       subst hy0
       refine .tup _ _ rfl fun j c v hc hv => ?_
       match j with
       | 0 => cases hc; cases hv; exact .imm _ _ (.imm e [] none 0 (fun _ _ => .bool true) (Nat.le_refl _) (fun _ => rfl) (fun i x hi => by simp at hi) (fun i x j c hi hj => by simp at hi) (fun i x j c hi hj => by simp at hi))
       | 1 => cases hc; cases hv; exact .imm _ _ (.bool _)
       | j + 2 => simp at hc
theorem ext35 : NOk Tryz.prog ⟨35, sigSN, fun x _ => specNums x.1⟩ :=
 NOk.specNums (P := Tryz.prog) (g1 := 2) (g2 := 3) ⟨_, Tryz.func35, rfl, rfl⟩ (by decide) (by decide) fun s hs w ev1 ev2 he1 he2 hi1 hi2 R hR1 hR2 => numbers_c s hs w ev1 ev2 he1 he2 hi1 hi2 R hR1 hR2
end NM
end Go.Proofs.YtjngkfdclcgfhaaGreatDoor
end
