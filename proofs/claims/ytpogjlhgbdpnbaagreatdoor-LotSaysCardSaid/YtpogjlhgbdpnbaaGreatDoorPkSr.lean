/-
  What the proof of LotSays leans on, part 18. (Many texts laid together by program.)
-/
import Derived.Test.YtpogjlhgbdpnbaaGreatDoorPkSq
import Derived.Test.YtpogjlhgbdpnbaaGreatDoorProg
import Derived.WalkKit
import Derived.LoopTactic
import Derived.Lib.Hide
import Derived.Shelf.Strings.OnBuilder
import Derived.Shelf.Small.Strs
import Derived.Shelf.Small.Wraps
import Derived.Shelf.LaysM
import Derived.Shelf.Strconv.Itoa3
import Derived.Shelf.Strings.Search1
import Derived.Shelf.Strings.Search2
import Derived.Shelf.Strings.Prefix
import Derived.Shelf.Strings.Split
import Derived.Shelf.Bytes.SlEqualAll
import Derived.Lib.LaidTab
import Derived.Laws.RangeAny
import Derived.Below
set_option linter.unnecessarySimpa false
set_option linter.unusedSimpArgs false
set_option linter.unusedVariables false
section
namespace Go.Proofs.YtpogjlhgbdpnbaaGreatDoor
open AM
class Rng (α : Type) [Lay α] where
 P : α → Prop
 ok : ∀ {w : World} {B : Nat → Prop} {x : α} {cs : List Value}, Lay.R w B x cs → P x
instance : Rng Int := ⟨I64, fun h => h.2⟩
instance : Rng Bool := ⟨fun _ => True, fun _ => trivial⟩
instance : Rng UInt8 := ⟨fun _ => True, fun _ => trivial⟩
instance : Rng ByteArray := ⟨fun x => x.size ≤ maxLen, fun h => h.2⟩
instance {α : Type} [Lay α] [Rng α] : Rng (List α) := ⟨fun xs => xs.length ≤ maxLen ∧ ∀ x ∈ xs, Rng.P x, fun {w B xs cs} h => by
 obtain ⟨A, c, rfl, h1, h2, h3, h4⟩ := h
 refine ⟨by omega, fun x hx => ?_⟩
 obtain ⟨i, hi, rfl⟩ := List.getElem_of_mem hx
 obtain ⟨ad, cs, _, _, hr, _⟩ := h4 i _ (List.getElem?_eq_getElem hi)
 exact Rng.ok hr⟩
instance {α β : Type} [Lay α] [Lay β] [Rng α] [Rng β] : Rng (α × β) := ⟨fun x => Rng.P x.1 ∧ Rng.P x.2, fun {w B x cs} h => by
 obtain ⟨c, d, rfl, h1, h2⟩ := h
 exact ⟨Rng.ok h1, Rng.ok h2⟩⟩
@[reducible] def Rng.iso {α β : Type} [Lay β] [Rng β] (f : α → β) : @Rng α (Lay.iso f) :=
 @Rng.mk α (Lay.iso f) (fun x => Rng.P (f x)) (fun h => Rng.ok (α := β) h)
instance : Rng Res := Rng.iso Res.pr
instance : Rng Dep := Rng.iso Dep.pr
instance : Rng Queue := Rng.iso Queue.pr
instance : Rng Weights := Rng.iso Weights.pr
instance : Rng Spec := Rng.iso Spec.pr
instance : Rng Job := Rng.iso Job.pr
instance : Rng Share := Rng.iso Share.pr
instance : Rng Alloc := Rng.iso Alloc.pr
instance : Rng Run := Rng.iso Run.pr
instance : Rng Booking := Rng.iso Booking.pr
instance : Rng Step := Rng.iso Step.pr
instance : Rng Request := Rng.iso Request.pr
instance : Rng Reply := Rng.iso Reply.pr
instance : Rng Call := Rng.iso Call.pr
instance : Rng Entry := Rng.iso Entry.pr
instance : Rng Event := Rng.iso Event.pr
namespace NM
class NEnc (α : Type) [Lay α] [Enc α] (t : outParam Ty) where
 f : α → den t
 ok : ∀ x, A2 RI ((ops t).cells (f x)) (Enc.cells x)
 agg : Lay.agg α = t.isAgg
 size : Lay.n α = (ops t).size
instance : NEnc Int (.int .i64) := ⟨fun x => x, fun x => .single (.int _ _), rfl, rfl⟩
instance : NEnc Bool .bool := ⟨fun x => x, fun x => .single (.bool _), rfl, rfl⟩
instance : NEnc UInt8 (.int .u8) := ⟨fun x => (x.toNat : Int), fun x => .single (.int _ _), rfl, rfl⟩
instance : NEnc ByteArray .str := ⟨fun x => x.data.toList, fun x => .single (.str _), rfl, rfl⟩
theorem enc_list {α : Type} [Lay α] [Enc α] {t : Ty} {f : α → den t} (hf : ∀ x, A2 RI ((ops t).cells (f x)) (Enc.cells x)) (hn : Lay.n α = (ops t).size) (xs : List α) : RI (.lst t (xs.map f)) (.imm (Lay.n α) (xs.map Enc.cells)) := by
 rw [hn]
 refine .mk_lst ⟨by simp, fun i x y hx hy => ?_⟩
 rw [List.getElem?_map] at hx hy
 simp only [Option.map_eq_some_iff] at hx hy
 obtain ⟨u, hu, rfl⟩ := hx
 obtain ⟨v, hv, rfl⟩ := hy
 rw [hu] at hv
 cases hv
 exact hf u
instance {α : Type} [Lay α] [Enc α] {t : Ty} [NEnc α t] : NEnc (List α) (.list t) := ⟨fun xs => xs.map NEnc.f, fun xs => .single (enc_list NEnc.ok NEnc.size xs), rfl, rfl⟩
instance {α β : Type} [Lay α] [Lay β] [Enc α] [Enc β] {a b : Ty} [NEnc α a] [NEnc β b] : NEnc (α × β) (.pair a b) := ⟨fun x => (NEnc.f x.1, NEnc.f x.2), fun x => (NEnc.ok x.1).append (NEnc.ok x.2), rfl, by
 have h1 : Lay.n α = (ops a).size := NEnc.size
 have h2 : Lay.n β = (ops b).size := NEnc.size
 show Lay.n α + Lay.n β = (ops a).size + (ops b).size
 rw [h1, h2]⟩
theorem i64_ok (n : Int) : A2 RI (i64O.cells n) [AVal.int .i64 n] := .single (.int _ _)
theorem bool_ok (b : Bool) : A2 RI (boolO.cells b) [AVal.bool b] := .single (.bool _)
theorem list_ok {α : Type} [Lay α] [Enc α] {t : Ty} (f : α → den t) (hf : ∀ x, A2 RI ((ops t).cells (f x)) (Enc.cells x)) (hn : Lay.n α = (ops t).size) (xs : List α) (ys : List (den t)) (h : xs.map f = ys) : A2 RI ((listO t (ops t)).cells ys) [AVal.imm (Lay.n α) (xs.map Enc.cells)] := by
 subst h
 exact .single (enc_list hf hn xs)
theorem res_ok (x : Res) : A2 RI (resO.cells x) (Enc.cells x) := (i64_ok _).append ((i64_ok _).append ((i64_ok _).append (i64_ok _)))
instance : NEnc Res .res := ⟨fun x => x, res_ok, rfl, rfl⟩
theorem dep_ok (x : Dep) : A2 RI (depO.cells x) (Enc.cells x) := (i64_ok _).append (bool_ok _)
instance : NEnc Dep .dep := ⟨fun x => x, dep_ok, rfl, rfl⟩
theorem ints_ok (xs : List Int) : A2 RI (intsO.cells xs) [AVal.imm (Lay.n Int) (xs.map Enc.cells)] := list_ok (t := .int .i64) (fun x : Int => x) NEnc.ok NEnc.size xs xs (by simp)
theorem deps_ok (xs : List Dep) : A2 RI (depsO.cells xs) [AVal.imm (Lay.n Dep) (xs.map Enc.cells)] := list_ok (t := .dep) (fun x : Dep => x) NEnc.ok NEnc.size xs xs (by simp)
theorem queue_ok (x : Queue) : A2 RI (queueO.cells x) (Enc.cells x) := (i64_ok _).append ((ints_ok _).append ((i64_ok _).append ((i64_ok _).append ((i64_ok _).append (i64_ok _)))))
instance : NEnc Queue .queue := ⟨fun x => x, queue_ok, rfl, rfl⟩
theorem weights_ok (x : Weights) : A2 RI (weightsO.cells x) (Enc.cells x) := (i64_ok _).append ((i64_ok _).append ((i64_ok _).append (i64_ok _)))
instance : NEnc Weights .weights := ⟨fun x => x, weights_ok, rfl, rfl⟩
theorem intss_ok (xs : List (List Int)) : A2 RI ((listO (.list (.int .i64)) intsO).cells xs) [AVal.imm (Lay.n (List Int)) (xs.map Enc.cells)] := list_ok (t := .list (.int .i64)) (fun x : List Int => x) (fun x => ints_ok x) rfl xs xs (by simp)
theorem spec_ok (x : Spec) : A2 RI (specO.cells x) (Enc.cells x) :=
 (list_ok (t := .res) (fun x : Res => x) res_ok rfl _ _ (by simp)).append ((intss_ok _).append ((list_ok (t := .queue) (fun x : Queue => x) queue_ok rfl _ _ (by simp)).append ((i64_ok _).append ((weights_ok _).append ((i64_ok _).append ((i64_ok _).append ((i64_ok _).append ((i64_ok _).append ((i64_ok _).append ((i64_ok _).append ((i64_ok _).append ((i64_ok _).append ((i64_ok _).append (i64_ok _))))))))))))))
instance : NEnc Spec .spec := ⟨fun x => x, spec_ok, rfl, rfl⟩
theorem job_ok (x : Job) : A2 RI (jobO.cells x) (Enc.cells x) :=
 (i64_ok _).append ((i64_ok _).append ((i64_ok _).append ((i64_ok _).append ((res_ok _).append ((i64_ok _).append ((deps_ok _).append ((i64_ok _).append ((bool_ok _).append ((bool_ok _).append ((i64_ok _).append ((i64_ok _).append ((i64_ok _).append ((i64_ok _).append (i64_ok _))))))))))))))
instance : NEnc Job .job := ⟨fun x => x, job_ok, rfl, rfl⟩
theorem share_ok (x : Share) : A2 RI (shareO.cells x) (Enc.cells x) := (i64_ok _).append (i64_ok _)
instance : NEnc Share .share := ⟨fun x => x, share_ok, rfl, rfl⟩
theorem shares_ok (xs : List Share) : A2 RI ((listO .share shareO).cells xs) [AVal.imm (Lay.n Share) (xs.map Enc.cells)] := list_ok (t := .share) (fun x : Share => x) share_ok rfl xs xs (by simp)
theorem alloc_ok (x : Alloc) : A2 RI (allocO.cells x) (Enc.cells x) := (i64_ok _).append ((res_ok _).append (shares_ok _))
instance : NEnc Alloc .alloc := ⟨fun x => x, alloc_ok, rfl, rfl⟩
theorem run_ok (x : Run) : A2 RI (runO.cells x) (Enc.cells x) := (res_ok _).append ((shares_ok _).append (i64_ok _))
instance : NEnc Run .run := ⟨fun x => x, run_ok, rfl, rfl⟩
theorem booking_ok (x : Booking) : A2 RI (bookingO.cells x) (Enc.cells x) := (i64_ok _).append ((i64_ok _).append ((i64_ok _).append (i64_ok _)))
instance : NEnc Booking .booking := ⟨fun x => x, booking_ok, rfl, rfl⟩
theorem step_ok (x : Step) : A2 RI (stepO.cells x) (Enc.cells x) := (i64_ok _).append (res_ok _)
instance : NEnc Step .step := ⟨fun x => x, step_ok, rfl, rfl⟩
theorem request_ok (x : Request) : A2 RI (requestO.cells x) (Enc.cells x) :=
 (i64_ok _).append ((i64_ok _).append ((i64_ok _).append ((i64_ok _).append ((i64_ok _).append ((i64_ok _).append ((res_ok _).append ((i64_ok _).append ((i64_ok _).append ((deps_ok _).append ((i64_ok _).append ((i64_ok _).append ((i64_ok _).append (i64_ok _)))))))))))))
instance : NEnc Request .request := ⟨fun x => x, request_ok, rfl, rfl⟩
theorem reply_ok (x : Reply) : A2 RI (replyO.cells x) (Enc.cells x) := (i64_ok _).append ((i64_ok _).append ((i64_ok _).append ((i64_ok _).append (ints_ok _))))
instance : NEnc Reply .reply := ⟨fun x => x, reply_ok, rfl, rfl⟩
theorem call_ok (x : Call) : A2 RI (callO.cells x) (Enc.cells x) := (i64_ok _).append (request_ok _)
instance : NEnc Call .call := ⟨fun x => x, call_ok, rfl, rfl⟩
theorem entry_ok (x : Entry) : A2 RI (entryO.cells x) (Enc.cells x) := (i64_ok _).append ((i64_ok _).append ((request_ok _).append ((reply_ok _).append ((i64_ok _).append (bool_ok _)))))
instance : NEnc Entry .entry := ⟨fun x => x, entry_ok, rfl, rfl⟩
theorem enc_rv {α : Type} [Lay α] [Enc α] {t : Ty} [NEnc α t] {hp : NHeap} (x : α) : RV hp (putV t (NEnc.f x)) (encV x) := by
 have hok := NEnc.ok (t := t) x
 unfold putV encV
 have hagg : Lay.agg α = t.isAgg := NEnc.agg
 rw [hagg]
 cases ht : t.isAgg with
 | true =>
   simp only [if_true]
   exact .agg _ _ (hok.mono fun _ _ h => h.c)
 | false =>
   obtain ⟨c, d, h1, h2, h3, h4⟩ := one_cells ht (NEnc.f x)
   rw [h1] at hok ⊢
   obtain ⟨e, es, he, h5, h6⟩ := hok.cons_inv
   simp only [he]
   exact h5.rv
theorem arg_nil {hp : NHeap} : A2 (RV hp) (puts .nil ()) [] := by simp only [puts]; exact .nil
theorem arg_cons {α : Type} [Lay α] [Enc α] {t : Ty} [NEnc α t] {hp : NHeap} {l : Sh} (x : α) {y : l.den} {as' : List AVal} (h : A2 (RV hp) (puts l y) as') : A2 (RV hp) (puts (.cons (.v t) l) (NEnc.f x, y)) (encV x :: as') := by
 simp only [puts, put]
 exact .cons (enc_rv x) h
theorem nlaw_walk {P : Program} {f : Nat} {args : Sh} {F : args.den → denH [] → Option Bool} (h : NOk P ⟨f, ⟨args, [], (.v .bool, []), []⟩, F⟩) {x : args.den} (hF : F x () = some true) {as' : List AVal} {cargs : Array Value} {w : World} (ha : A2 (RV []) (puts args x) as') (hl : as'.length = cargs.size)
   (hv : ∀ (j : Nat) (a : AVal) (v : Value), as'[j]? = some a → cargs[j]? = some v → VR (fun _ => .free) w (Lt w.heap.size) a v) (hgl : GlobR w (Lt w.heap.size) := by exact GlobR.nil rfl) :
   Calls P f cargs w fun e w' => e = .returned (.bool true) ∧ Go.RowKit.Below w.heap.size w w' := by
 have r0 : HRep (fun _ => .free) w (fun m => m < w.heap.size) [] := by
   refine ⟨fun b k hb => ?_, fun _ _ => .inl rfl, fun _ _ => rfl, fun b b' m n n' e e' h => ?_, fun m ho => ?_, fun m hm => hm, hgl⟩
   · simp [Heap.get] at hb
   · cases h
   · obtain ⟨b, n, e, hb⟩ := ho; cases hb
 have hc := h.2.2 x () true hF as' [] ha .nil (fun _ => .free) w (fun m => m < w.heap.size) cargs r0 hl hv
 refine hc.mono fun e w' ⟨v, μ', S', he, _, x, hv, _⟩ => ⟨?_, ?_⟩
 · have hb : yA (.v .bool, []) [] true = .bool true := by
     obtain ⟨c, d, h1, h2, h3, h4⟩ := one_cells (t := .bool) rfl true
     simp only [yA, outA, can, Ty.isAgg, h2]
     have : c = .bool true := by cases h1; rfl
     subst this
     cases h3
     rfl
   rw [he]
   have hv' : VR μ' w' S' (.bool true) v := by rw [← hb]; exact hv
   rw [hv'.bool_inv]
 · exact ⟨x.os, x.tape, x.output, x.size, fun m hm => x.same m hm (fun ho => by obtain ⟨b, n, e, hb⟩ := ho; cases hb)⟩
/- loops -/
section
variable {σ ω α β : Type}
theorem loop_eq {f : σ → (σ → Option ω) → Option ω} (I : σ → Prop) (m : σ → Nat) (R : σ → Option ω) (h : ∀ s next, I s → (∀ s', I s' → m s' < m s → next s' = R s') → f s next = R s) {s : σ} (hs : I s) (hm : m s < LOOPS) : LN LOOPS f s = R s := by
 have key : ∀ n s, I s → m s < n → loopN f n s = R s := by
   intro n
   induction n with
   | zero => intro s _ h; omega
   | succ n ih =>
     intro s hs hn
     simp only [loopN]
     exact h s _ hs fun s' hs' hlt => ih s' hs' (by omega)
 exact key LOOPS s hs hm
def runL (step : β → α → β ⊕ Option ω) (fin : β → Option ω) : List α → β → Option ω
 | [], b => fin b
 | x :: xs, b => match step b x with
   | .inl b' => runL step fin xs b'
   | .inr r => r
theorem list_loopI {f : σ → (σ → Option ω) → Option ω} (xs : List α) (mk : β → Int → σ) (Inv : β → Int → Prop) (step : β → α → β ⊕ Option ω) (fin : β → Option ω) (hx : xs.length ≤ maxLen)
   (hend : ∀ (b : β) (next : σ → Option ω), Inv b (xs.length : Int) → f (mk b (xs.length : Int)) next = fin b)
   (hstep : ∀ (b : β) (z : Int) (x : α) (next : σ → Option ω), Inv b z → 0 ≤ z → z < (xs.length : Int) → xs[z.toNat]? = some x → IntKind.wrap .i64 (z + 1) = z + 1 → match step b x with | .inl b' => Inv b' (z + 1) ∧ f (mk b z) next = next (mk b' (z + 1)) | .inr r => f (mk b z) next = r) (b : β) (hb : Inv b 0) : LN LOOPS f (mk b 0) = runL step fin xs b := by
 have hml : maxLen = 9223372036854775807 := rfl
 have key : ∀ n, n < LOOPS → ∀ (i : Nat) (b : β), Inv b i → i + n = xs.length → ∀ m, n < m → loopN f m (mk b i) = runL step fin (xs.drop i) b := by
   intro n
   induction n with
   | zero =>
     intro _ i b hb hi m hm
     obtain ⟨m, rfl⟩ : ∃ m', m = m' + 1 := ⟨m - 1, by omega⟩
     simp only [loopN]
     have hi : i = xs.length := by omega
     subst hi
     rw [hend _ _ hb, List.drop_of_length_le (by omega)]
     rfl
   | succ n ih =>
     intro hn i b hb hi m hm
     obtain ⟨m, rfl⟩ : ∃ m', m = m' + 1 := ⟨m - 1, by omega⟩
     simp only [loopN]
     have hlt : i < xs.length := by omega
     have hs := hstep b i xs[i] (loopN f m) hb (by omega) (by omega) (by simp [hlt]) (wrap64 (by omega) (by omega))
     rw [List.drop_eq_getElem_cons hlt]
     simp only [runL]
     split
     · rename_i b' hb'
       rw [hb'] at hs
       obtain ⟨h1, h2⟩ := hs
       rw [h2]
       have := ih (by omega) (i + 1) b' (by simpa using h1) (by omega) m (by omega)
       simpa using this
     · rename_i r hr
       rw [hr] at hs
       exact hs
 have := key xs.length (by unfold LOOPS; omega) 0 b (by simpa using hb) (by omega) LOOPS (by unfold LOOPS; omega)
 simpa [LN] using this
theorem list_loop {f : σ → (σ → Option ω) → Option ω} (xs : List α) (mk : β → Int → σ) (step : β → α → β ⊕ Option ω) (fin : β → Option ω) (hx : xs.length ≤ maxLen)
   (hend : ∀ (b : β) (next : σ → Option ω), f (mk b (xs.length : Int)) next = fin b)
   (hstep : ∀ (b : β) (z : Int) (x : α) (next : σ → Option ω), 0 ≤ z → z < (xs.length : Int) → xs[z.toNat]? = some x → IntKind.wrap .i64 (z + 1) = z + 1 → f (mk b z) next = match step b x with | .inl b' => next (mk b' (z + 1)) | .inr r => r) (b : β) : LN LOOPS f (mk b 0) = runL step fin xs b :=
 list_loopI xs mk (fun _ _ => True) step fin hx (fun b next _ => hend b next) (fun b z x next _ h0 h1 h2 h3 => by
   have := hstep b z x next h0 h1 h2 h3
   split
   · rename_i b' hb; rw [hb] at this; exact ⟨trivial, this⟩
   · rename_i r hr; rw [hr] at this; exact this) b trivial
theorem all_loop {f : σ → (σ → Option Bool) → Option Bool} (xs : List α) (mk : Int → σ) (p : α → Bool) (q : Bool) (hx : xs.length ≤ maxLen) (hend : ∀ (next : σ → Option Bool), f (mk (xs.length : Int)) next = some q)
   (hstep : ∀ (z : Int) (x : α) (next : σ → Option Bool), 0 ≤ z → z < (xs.length : Int) → xs[z.toNat]? = some x → IntKind.wrap .i64 (z + 1) = z + 1 → f (mk z) next = cond (p x) (next (mk (z + 1))) (some false)) : LN LOOPS f (mk 0) = some (xs.all p && q) := by
 rw [list_loop (β := Unit) xs (fun _ => mk) (fun _ x => cond (p x) (.inl ()) (.inr (some false))) (fun _ => some q) hx (fun _ => hend) (fun b z x next h0 h1 h2 h3 => by rw [hstep z x next h0 h1 h2 h3]; cases p x <;> rfl) ()]
 clear hend hstep hx
 induction xs with
 | nil => rfl
 | cons x xs ih =>
   simp only [runL, List.all_cons]
   cases p x with
   | true => simpa using ih
   | false => rfl
theorem zip_loop {γ : Type} {f : σ → (σ → Option Bool) → Option Bool} (xs : List α) (ys : List γ) (hl : xs.length = ys.length) (mk : Int → σ) (p : α → γ → Bool) (q : Bool) (hx : xs.length ≤ maxLen) (hend : ∀ (next : σ → Option Bool), f (mk (xs.length : Int)) next = some q)
   (hstep : ∀ (z : Int) (x : α) (y : γ) (next : σ → Option Bool), 0 ≤ z → z < (xs.length : Int) → xs[z.toNat]? = some x → ys[z.toNat]? = some y → IntKind.wrap .i64 (z + 1) = z + 1 → f (mk z) next = cond (p x y) (next (mk (z + 1))) (some false)) : LN LOOPS f (mk 0) = some ((xs.zip ys).all (fun a => p a.1 a.2) && q) := by
 have hz : (xs.zip ys).length = xs.length := by simp [hl]
 refine all_loop (xs.zip ys) mk (fun a => p a.1 a.2) q (by omega) (by rw [hz]; exact hend) fun z x next h0 h1 h2 h3 => ?_
 rw [hz] at h1
 rw [List.getElem?_zip_eq_some] at h2
 exact hstep z x.1 x.2 next h0 h1 h2.1 h2.2 h3
theorem runL_fold {g : β → α → β} {fin : β → Option ω} : ∀ (xs : List α) (b : β), runL (fun b x => .inl (g b x)) fin xs b = fin (xs.foldl g b)
 | [], b => rfl
 | x :: xs, b => by simp only [runL, List.foldl_cons]; exact runL_fold xs _
theorem fold_loop {f : σ → (σ → Option ω) → Option ω} (xs : List α) (mk : β → Int → σ) (g : β → α → β) (fin : β → Option ω) (hx : xs.length ≤ maxLen)
   (hend : ∀ (b : β) (next : σ → Option ω), f (mk b (xs.length : Int)) next = fin b)
   (hstep : ∀ (b : β) (z : Int) (x : α) (next : σ → Option ω), 0 ≤ z → z < (xs.length : Int) → xs[z.toNat]? = some x → IntKind.wrap .i64 (z + 1) = z + 1 → f (mk b z) next = next (mk (g b x) (z + 1))) (b : β) : LN LOOPS f (mk b 0) = fin (xs.foldl g b) := by
 rw [list_loop xs mk (fun b x => .inl (g b x)) fin hx hend hstep b, runL_fold]
end
@[simp] theorem cond_somes {α : Type} (c : Bool) (a b : α) : cond c (some a) (some b) = some (cond c a b) := by cases c <;> rfl
theorem wi {x : Int} (h1 : -9223372036854775808 ≤ x) (h2 : x ≤ 9223372036854775807) : IntKind.wrap .i64 x = x := wrap64 h1 h2
end NM
end Go.Proofs.YtpogjlhgbdpnbaaGreatDoor
end
section
namespace Go.Proofs.YtpogjlhgbdpnbaaGreatDoor
namespace NM
open AM Go.RowKit
end NM
end Go.Proofs.YtpogjlhgbdpnbaaGreatDoor
end
section
namespace Go.Proofs
open Go.Shelf
def Tryz.lays156_ren : Go.Shelf.Ren := ⟨fun | 156 => 26 | 165 => 60 | 166 => 61 | 169 => 62 | 240 => 98 | 241 => 99 | 276 => 129 | 277 => 130 | n => n, fun | 31 => 63 | 9 => 9 | 3 => 3 | 4 => 4 | 0 => 0 | 20 => 20 | 72 => 100 | 76 => 104 | 70 => 98 | 37 => 27 | 75 => 103 | 127 => 141 | 164 => 158 | 5 => 5 | 80 => 106 | n => n, fun | n => n⟩
theorem Tryz.lays156 : Go.Proofs.Lays.n156 Tryz.prog Tryz.lays156_ren := {
 mixed := by kernel_rfl
 f156 := Tryz.func26.trans (congrArg some (by kernel_rfl))
 f165 := Tryz.func60.trans (congrArg some (by kernel_rfl))
 f166 := Tryz.func61.trans (congrArg some (by kernel_rfl))
 f169 := Tryz.func62.trans (congrArg some (by kernel_rfl))
 f240 := Tryz.func98.trans (congrArg some (by kernel_rfl))
 f241 := Tryz.func99.trans (congrArg some (by kernel_rfl))
 f276 := Tryz.func129.trans (congrArg some (by kernel_rfl))
 f277 := Tryz.func130.trans (congrArg some (by kernel_rfl))
 t0 := Tryz.underlying0
 a0 := Tryz.isAgg0
 z0 := Tryz.sizeOf0
 v0 := Tryz.zeroValue0
 t3 := Tryz.underlying3
 a3 := Tryz.isAgg3
 z3 := Tryz.sizeOf3
 v3 := Tryz.zeroValue3
 t4 := Tryz.underlying4
 a4 := Tryz.isAgg4
 z4 := Tryz.sizeOf4
 v4 := Tryz.zeroValue4
 t9 := Tryz.underlying9
 a9 := Tryz.isAgg9
 z9 := Tryz.sizeOf9
 v9 := Tryz.zeroValue9
 t20 := Tryz.underlying20
 a20 := Tryz.isAgg20
 z20 := Tryz.sizeOf20
 v20 := Tryz.zeroValue20
 t31 := Tryz.underlying63
 a31 := Tryz.isAgg63
 z31 := Tryz.sizeOf63
 v31 := Tryz.zeroValue63
 t37 := Tryz.underlying27
 a37 := Tryz.isAgg27
 z37 := Tryz.sizeOf27
 v37 := Tryz.zeroValue27
 t70 := Tryz.underlying98
 a70 := Tryz.isAgg98
 z70 := Tryz.sizeOf98
 v70 := Tryz.zeroValue98
 t72 := Tryz.underlying100
 a72 := Tryz.isAgg100
 z72 := Tryz.sizeOf100
 v72 := Tryz.zeroValue100
 t75 := Tryz.underlying103
 a75 := Tryz.isAgg103
 z75 := Tryz.sizeOf103
 v75 := Tryz.zeroValue103
 t76 := Tryz.underlying104
 a76 := Tryz.isAgg104
 z76 := Tryz.sizeOf104
 v76 := Tryz.zeroValue104
 t127 := Tryz.underlying141
 a127 := Tryz.isAgg141
 z127 := Tryz.sizeOf141
 v127 := Tryz.zeroValue141
 t164 := Tryz.underlying158
 a164 := Tryz.isAgg158
 z164 := Tryz.sizeOf158
 v164 := Tryz.zeroValue158 }
theorem Tryz.Builder_Extra_156 : Builder.Extra Tryz.prog Tryz.lays156_ren := {
 sizeBuilder := by kernel_rfl
 liesBuilder := by kernel_rfl
 t5 := Tryz.underlying5
 a5 := Tryz.isAgg5
 z5 := Tryz.sizeOf5
 v5 := Tryz.zeroValue5
 infoByte := by kernel_rfl
 cellsByte := by kernel_rfl
 sizeByte := by kernel_rfl
 neB5 := by decide }
open Go.RowKit in
theorem Tryz.strings_Join (bk o c : Nat) (xs : List ByteArray) (sep : ByteArray) (w : World) (hcells : ∀ (j : Nat) x, xs[j]? = some x → w.cell? ⟨bk, o + j, none⟩ = some (.string x)) (hbk : bk < w.heap.size) (hN : xs.length ≤ 140737488355328) (hcap : xs.length ≤ c) (hlen : (Lib.join (xs.map (·.data.toList)) sep.data.toList).length ≤ 140737488355328) :
   Calls Tryz.prog 26 #[.slice (some ⟨bk, o, none⟩) xs.length c, .string sep] w fun e w' => e = .returned (.string ⟨(Lib.join (xs.map (·.data.toList)) sep.data.toList).toArray⟩) ∧ Below w.heap.size w w' := Any.strings_Join Tryz.lays156 Tryz.Builder_Extra_156 bk o c xs sep w hcells hbk hN hcap hlen
def Tryz.lays137_ren : Go.Shelf.Ren := ⟨fun | 137 => 109 | 217 => 137 | 266 => 156 | n => n, fun | 9 => 9 | 5 => 5 | 3 => 3 | n => n, fun | n => n⟩
theorem Tryz.lays137 : Go.Proofs.Lays.n137 Tryz.prog Tryz.lays137_ren := {
 mixed := by kernel_rfl
 f137 := Tryz.func109.trans (congrArg some (by kernel_rfl))
 f217 := Tryz.func137.trans (congrArg some (by kernel_rfl))
 f266 := Tryz.func156.trans (congrArg some (by kernel_rfl))
 t3 := Tryz.underlying3
 a3 := Tryz.isAgg3
 z3 := Tryz.sizeOf3
 v3 := Tryz.zeroValue3
 t5 := Tryz.underlying5
 a5 := Tryz.isAgg5
 z5 := Tryz.sizeOf5
 v5 := Tryz.zeroValue5
 t9 := Tryz.underlying9
 a9 := Tryz.isAgg9
 z9 := Tryz.sizeOf9
 v9 := Tryz.zeroValue9 }
open Go.RowKit in
theorem Tryz.strings_IndexByte (s : ByteArray) (c : Int) (w : World) :
   Calls Tryz.prog 109 #[.string s, .int .u8 c] w fun e w' => e = .returned (.int .i64 (Lib.indexByte s.data.toList c.toNat.toUInt8)) ∧ w' = w := Any.strings_IndexByte Tryz.lays137 s c w
def Tryz.lays104_ren : Go.Shelf.Ren := ⟨fun | 104 => 136 | 211 => 155 | 207 => 169 | n => n, fun | 9 => 9 | 4 => 4 | 24 => 166 | 3 => 3 | n => n, fun | n => n⟩
theorem Tryz.lays104 : Go.Proofs.Lays.n104 Tryz.prog Tryz.lays104_ren := {
 mixed := by kernel_rfl
 f104 := Tryz.func136.trans (congrArg some (by kernel_rfl))
 f207 := Tryz.func169.trans (congrArg some (by kernel_rfl))
 f211 := Tryz.func155.trans (congrArg some (by kernel_rfl))
 t3 := Tryz.underlying3
 a3 := Tryz.isAgg3
 z3 := Tryz.sizeOf3
 v3 := Tryz.zeroValue3
 t4 := Tryz.underlying4
 a4 := Tryz.isAgg4
 z4 := Tryz.sizeOf4
 v4 := Tryz.zeroValue4
 t9 := Tryz.underlying9
 a9 := Tryz.isAgg9
 z9 := Tryz.sizeOf9
 v9 := Tryz.zeroValue9
 t24 := Tryz.underlying166
 a24 := Tryz.isAgg166
 z24 := Tryz.sizeOf166
 v24 := Tryz.zeroValue166 }
open Go.RowKit in
theorem Tryz.strings_CutSuffix (s p : ByteArray) (w : World) (hs : s.size ≤ 9223372036854775807) :
   Calls Tryz.prog 136 #[.string s, .string p] w fun e w' => e = .returned (.tuple #[.string ⟨(Lib.trimSuffix s.data.toList p.data.toList).toArray⟩, .bool (Lib.hasSuffix s.data.toList p.data.toList)]) ∧ w' = w := Any.strings_CutSuffix Tryz.lays104 s p w hs
def Tryz.laysM171_ren : Go.Shelf.Ren := ⟨fun | 171 => 82 | 243 => 122 | 246 => 142 | 283 => 157 | 284 => 158 | 285 => 159 | 286 => 160 | 129 => 171 | 317 => 170 | 318 => 172 | 319 => 173 | 320 => 174 | 337 => 179 | 338 => 180 | n => n, fun | 3 => 3 | 9 => 9 | 2 => 2 | 4 => 4 | 171 => 177 | 0 => 0 | 53 => 54 | 37 => 27 | 5 => 5 | 173 => 180 | 212 => 197 | 51 => 182 | 20 => 20 | 213 => 198 | 46 => 135 | 232 => 212 | 233 => 213 | n => n, fun | 17 => 5 | 18 => 8 | 19 => 9 | n => n⟩
theorem Tryz.laysM171 : Go.Proofs.LaysM.n171 Tryz.prog Tryz.laysM171_ren := {
 mixed := by kernel_rfl
 f129 := Tryz.func171.trans (congrArg some (by kernel_rfl))
 f171 := Tryz.func82.trans (congrArg some (by kernel_rfl))
 f243 := Tryz.func122.trans (congrArg some (by kernel_rfl))
 f246 := Tryz.func142.trans (congrArg some (by kernel_rfl))
 f283 := Tryz.func157.trans (congrArg some (by kernel_rfl))
 f284 := Tryz.func158.trans (congrArg some (by kernel_rfl))
 f285 := Tryz.func159.trans (congrArg some (by kernel_rfl))
 f286 := Tryz.func160.trans (congrArg some (by kernel_rfl))
 f317 := Tryz.func170.trans (congrArg some (by kernel_rfl))
 f318 := Tryz.func172.trans (congrArg some (by kernel_rfl))
 f319 := Tryz.func173.trans (congrArg some (by kernel_rfl))
 f320 := Tryz.func174.trans (congrArg some (by kernel_rfl))
 f337 := Tryz.func179.trans (congrArg some (by kernel_rfl))
 f338 := Tryz.func180.trans (congrArg some (by kernel_rfl))
 t0 := Tryz.underlying0
 a0 := Tryz.isAgg0
 z0 := Tryz.sizeOf0
 v0 := Tryz.zeroValue0
 t2 := Tryz.underlying2
 a2 := Tryz.isAgg2
 z2 := Tryz.sizeOf2
 v2 := Tryz.zeroValue2
 t3 := Tryz.underlying3
 a3 := Tryz.isAgg3
 z3 := Tryz.sizeOf3
 v3 := Tryz.zeroValue3
 t4 := Tryz.underlying4
 a4 := Tryz.isAgg4
 z4 := Tryz.sizeOf4
 v4 := Tryz.zeroValue4
 t5 := Tryz.underlying5
 a5 := Tryz.isAgg5
 z5 := Tryz.sizeOf5
 v5 := Tryz.zeroValue5
 t9 := Tryz.underlying9
 a9 := Tryz.isAgg9
 z9 := Tryz.sizeOf9
 v9 := Tryz.zeroValue9
 t20 := Tryz.underlying20
 a20 := Tryz.isAgg20
 z20 := Tryz.sizeOf20
 v20 := Tryz.zeroValue20
 t37 := Tryz.underlying27
 a37 := Tryz.isAgg27
 z37 := Tryz.sizeOf27
 v37 := Tryz.zeroValue27
 t46 := Tryz.underlying135
 a46 := Tryz.isAgg135
 z46 := Tryz.sizeOf135
 v46 := Tryz.zeroValue135
 t51 := Tryz.underlying182
 a51 := Tryz.isAgg182
 z51 := Tryz.sizeOf182
 v51 := Tryz.zeroValue182
 t53 := Tryz.underlying54
 a53 := Tryz.isAgg54
 z53 := Tryz.sizeOf54
 v53 := Tryz.zeroValue54
 t171 := Tryz.underlying177
 a171 := Tryz.isAgg177
 z171 := Tryz.sizeOf177
 v171 := Tryz.zeroValue177
 t173 := Tryz.underlying180
 a173 := Tryz.isAgg180
 z173 := Tryz.sizeOf180
 v173 := Tryz.zeroValue180
 t212 := Tryz.underlying197
 a212 := Tryz.isAgg197
 z212 := Tryz.sizeOf197
 v212 := Tryz.zeroValue197
 t213 := Tryz.underlying198
 a213 := Tryz.isAgg198
 z213 := Tryz.sizeOf198
 t232 := Tryz.underlying212
 a232 := Tryz.isAgg212
 z232 := Tryz.sizeOf212
 v232 := Tryz.zeroValue212
 t233 := Tryz.underlying213
 a233 := Tryz.isAgg213
 z233 := Tryz.sizeOf213
 v233 := Tryz.zeroValue213
 g17 := by kernel_rfl
 g18 := by kernel_rfl
 g19 := by kernel_rfl
 i0 := by kernel_rfl
 i2 := by kernel_rfl
 i3 := by kernel_rfl
 i4 := by kernel_rfl
 i5 := by kernel_rfl
 i9 := by kernel_rfl
 i20 := by kernel_rfl
 i37 := by kernel_rfl
 i46 := by kernel_rfl
 i51 := by kernel_rfl
 i53 := by kernel_rfl
 i171 := by kernel_rfl
 i173 := by kernel_rfl
 i212 := by kernel_rfl
 i232 := by kernel_rfl
 i233 := by kernel_rfl
 m17 := by kernel_rfl
 m18 := by kernel_rfl
 m19 := by kernel_rfl }
open Go.RowKit Go.Sort Go.Lib in
theorem Tryz.strconv_Itoa (n : Int) (h0 : -9223372036854775808 ≤ n) (h1 : n ≤ 9223372036854775807) (w : World) (htab : Lib.TabIs Tryz.prog w "internal/strconv.uint64pow10" .u64 Lib.pow10Tab) :
   Calls Tryz.prog 82 #[.int .i64 n] w fun e w' => e = .returned (.string ⟨(Lib.itoa n).toArray⟩) ∧ ∃ k os, w' = grow (w.drewN k) os := Any.strconv_Itoa Tryz.laysM171 n h0 h1 w htab
def Tryz.lays219_ren : Go.Shelf.Ren := ⟨fun | 219 => 124 | 217 => 137 | 225 => 143 | 224 => 144 | 267 => 145 | 266 => 156 | 314 => 161 | n => n, fun | 9 => 9 | 3 => 3 | 4 => 4 | 5 => 5 | 46 => 135 | 146 => 183 | 51 => 182 | n => n, fun | 1 => 2 | n => n⟩
theorem Tryz.lays219 : Go.Proofs.Lays.n219 Tryz.prog Tryz.lays219_ren := {
 mixed := by kernel_rfl
 f217 := Tryz.func137.trans (congrArg some (by kernel_rfl))
 f219 := Tryz.func124.trans (congrArg some (by kernel_rfl))
 f224 := Tryz.func144.trans (congrArg some (by kernel_rfl))
 f225 := Tryz.func143.trans (congrArg some (by kernel_rfl))
 f266 := Tryz.func156.trans (congrArg some (by kernel_rfl))
 f267 := Tryz.func145.trans (congrArg some (by kernel_rfl))
 f314 := Tryz.func161.trans (congrArg some (by kernel_rfl))
 t3 := Tryz.underlying3
 a3 := Tryz.isAgg3
 z3 := Tryz.sizeOf3
 v3 := Tryz.zeroValue3
 t4 := Tryz.underlying4
 a4 := Tryz.isAgg4
 z4 := Tryz.sizeOf4
 v4 := Tryz.zeroValue4
 t5 := Tryz.underlying5
 a5 := Tryz.isAgg5
 z5 := Tryz.sizeOf5
 v5 := Tryz.zeroValue5
 t9 := Tryz.underlying9
 a9 := Tryz.isAgg9
 z9 := Tryz.sizeOf9
 v9 := Tryz.zeroValue9
 t46 := Tryz.underlying135
 a46 := Tryz.isAgg135
 z46 := Tryz.sizeOf135
 v46 := Tryz.zeroValue135
 t51 := Tryz.underlying182
 a51 := Tryz.isAgg182
 z51 := Tryz.sizeOf182
 v51 := Tryz.zeroValue182
 t146 := Tryz.underlying183
 a146 := Tryz.isAgg183
 z146 := Tryz.sizeOf183
 v146 := Tryz.zeroValue183
 g1 := by kernel_rfl }
open Go.RowKit Go.Lib in
theorem Tryz.stringslite_Index_one (s : ByteArray) (c : UInt8) (w : World) :
   Calls Tryz.prog 124 #[.string s, .string ⟨#[c]⟩] w fun e w' => e = .returned (.int .i64 (Lib.indexByte s.data.toList c)) ∧ w' = w := Any.stringslite_Index_one Tryz.lays219 s c w
def Tryz.lays146_ren : Go.Shelf.Ren := ⟨fun | 146 => 36 | 221 => 70 | 268 => 101 | 138 => 102 | 143 => 103 | 195 => 132 | 197 => 133 | 218 => 134 | 219 => 124 | 260 => 153 | 217 => 137 | 225 => 143 | 224 => 144 | 267 => 145 | 266 => 156 | 314 => 161 | n => n, fun | 9 => 9 | 31 => 63 | 3 => 3 | 4 => 4 | 0 => 0 | 105 => 162 | 21 => 21 | 5 => 5 | 46 => 135 | 119 => 191 | 139 => 194 | 138 => 193 | 146 => 183 | 51 => 182 | n => n, fun | 1 => 2 | 3 => 3 | 4 => 4 | n => n⟩
theorem Tryz.lays146 : Go.Proofs.Lays.n146 Tryz.prog Tryz.lays146_ren := {
 mixed := by kernel_rfl
 f138 := Tryz.func102.trans (congrArg some (by kernel_rfl))
 f143 := Tryz.func103.trans (congrArg some (by kernel_rfl))
 f146 := Tryz.func36.trans (congrArg some (by kernel_rfl))
 f195 := Tryz.func132.trans (congrArg some (by kernel_rfl))
 f197 := Tryz.func133.trans (congrArg some (by kernel_rfl))
 f217 := Tryz.func137.trans (congrArg some (by kernel_rfl))
 f218 := Tryz.func134.trans (congrArg some (by kernel_rfl))
 f219 := Tryz.func124.trans (congrArg some (by kernel_rfl))
 f221 := Tryz.func70.trans (congrArg some (by kernel_rfl))
 f224 := Tryz.func144.trans (congrArg some (by kernel_rfl))
 f225 := Tryz.func143.trans (congrArg some (by kernel_rfl))
 f260 := Tryz.func153.trans (congrArg some (by kernel_rfl))
 f266 := Tryz.func156.trans (congrArg some (by kernel_rfl))
 f267 := Tryz.func145.trans (congrArg some (by kernel_rfl))
 f268 := Tryz.func101.trans (congrArg some (by kernel_rfl))
 f314 := Tryz.func161.trans (congrArg some (by kernel_rfl))
 t0 := Tryz.underlying0
 a0 := Tryz.isAgg0
 z0 := Tryz.sizeOf0
 v0 := Tryz.zeroValue0
 t3 := Tryz.underlying3
 a3 := Tryz.isAgg3
 z3 := Tryz.sizeOf3
 v3 := Tryz.zeroValue3
 t4 := Tryz.underlying4
 a4 := Tryz.isAgg4
 z4 := Tryz.sizeOf4
 v4 := Tryz.zeroValue4
 t5 := Tryz.underlying5
 a5 := Tryz.isAgg5
 z5 := Tryz.sizeOf5
 v5 := Tryz.zeroValue5
 t9 := Tryz.underlying9
 a9 := Tryz.isAgg9
 z9 := Tryz.sizeOf9
 v9 := Tryz.zeroValue9
 t21 := Tryz.underlying21
 a21 := Tryz.isAgg21
 z21 := Tryz.sizeOf21
 v21 := Tryz.zeroValue21
 t31 := Tryz.underlying63
 a31 := Tryz.isAgg63
 z31 := Tryz.sizeOf63
 v31 := Tryz.zeroValue63
 t46 := Tryz.underlying135
 a46 := Tryz.isAgg135
 z46 := Tryz.sizeOf135
 v46 := Tryz.zeroValue135
 t51 := Tryz.underlying182
 a51 := Tryz.isAgg182
 z51 := Tryz.sizeOf182
 v51 := Tryz.zeroValue182
 t105 := Tryz.underlying162
 a105 := Tryz.isAgg162
 z105 := Tryz.sizeOf162
 v105 := Tryz.zeroValue162
 t119 := Tryz.underlying191
 a119 := Tryz.isAgg191
 z119 := Tryz.sizeOf191
 t138 := Tryz.underlying193
 a138 := Tryz.isAgg193
 z138 := Tryz.sizeOf193
 v138 := Tryz.zeroValue193
 t139 := Tryz.underlying194
 a139 := Tryz.isAgg194
 z139 := Tryz.sizeOf194
 v139 := Tryz.zeroValue194
 t146 := Tryz.underlying183
 a146 := Tryz.isAgg183
 z146 := Tryz.sizeOf183
 v146 := Tryz.zeroValue183
 g1 := by kernel_rfl
 g3 := by kernel_rfl
 g4 := by kernel_rfl }
open Go.RowKit Go.Lib in
theorem Tryz.strings_Split (s sep : ByteArray) (m : Int) (w : World) (hs : s.size < 4294967281) (hm : w.cell? ⟨2, 0, none⟩ = some (.int .i64 m)) (h1 : 1 ≤ sep.size) :
   Calls Tryz.prog 36 #[.string s, .string sep] w fun e w' =>
     e = .returned (.slice (some ⟨w.heap.size, 0, none⟩) (Lib.countB s sep + 1) (Lib.countB s sep + 1)) ∧ w' = w.alloc (.cells ((Lib.splitB sep 0 (Lib.countB s sep) s).map Value.string).toArray 9) := Any.strings_Split Tryz.lays146 (by kernel_rfl) s sep m w hs hm h1
def Tryz.laysnb115_ren : Go.Shelf.Ren := ⟨fun | 115 => 28 | n => n, fun | 37 => 27 | 4 => 4 | 9 => 9 | 5 => 5 | n => n, fun | n => n⟩
theorem Tryz.laysnb115 : Go.Proofs.Lays.nb115 Tryz.prog Tryz.laysnb115_ren := {
 mixed := by kernel_rfl
 f115 := Tryz.func28.trans (congrArg some (by kernel_rfl))
 t4 := Tryz.underlying4
 a4 := Tryz.isAgg4
 z4 := Tryz.sizeOf4
 v4 := Tryz.zeroValue4
 t9 := Tryz.underlying9
 a9 := Tryz.isAgg9
 z9 := Tryz.sizeOf9
 v9 := Tryz.zeroValue9
 t37 := Tryz.underlying27
 a37 := Tryz.isAgg27
 z37 := Tryz.sizeOf27
 v37 := Tryz.zeroValue27
 t5 := Tryz.underlying5
 a5 := Tryz.isAgg5
 z5 := Tryz.sizeOf5
 v5 := Tryz.zeroValue5 }
theorem Tryz.bytes_Equal_all (p1 p2 : Option Addr) (n c m d : Nat) (xs ys : List Int) (w : World) (hx : xs.length = n) (hy : ys.length = m) (h1 : Lib.BytesIn w p1 n xs) (h2 : Lib.BytesIn w p2 m ys) :
   Calls Tryz.prog 28 #[.slice p1 n c, .slice p2 m d] w fun e w' => e = .returned (.bool (Lib.bytesOf xs == Lib.bytesOf ys)) ∧ w' = w := Any.bytes_Equal_all Tryz.laysnb115 p1 p2 n c m d xs ys w hx hy h1 h2
end Go.Proofs
end
section
namespace Go.Proofs.YtpogjlhgbdpnbaaGreatDoor
namespace NM
open AM Go.RowKit
section
variable {μ : Nat → AM.Loc} {w w' : World} {S : Nat → Prop} {hp : Heap}
theorem HRep.later (r : HRep μ w S hp) (h : Below w.heap.size w w') : HRep μ w' S hp ∧ Ext μ S w μ S w' := by
 refine ⟨⟨fun b k hb => ?_, r.gone, r.free, r.inj, r.apart, fun m hm => Nat.lt_of_lt_of_le (r.inS m hm) h.size, r.gl.mono (fun m hm => h.block m (r.inS m hm)) (fun _ h => h)⟩, ⟨h.os, h.tape, h.output, h.size, fun m hm _ => h.block m hm, fun _ h => h, fun m hm => .inl hm, fun m hm => .inl hm⟩⟩
 exact (r.live b k hb).mono (Up.refl _) (fun m hm => h.block m (r.inS m hm)) (fun m hm => hm) (fun m n e he => h.block m (r.lt ⟨b, n, e, he⟩))
end
theorem arr1 {cargs : Array Value} (h : cargs.size = 1) : ∃ a, cargs = #[a] := by
 refine ⟨cargs[0], ?_⟩
 apply Array.ext
 · simp [h]
 · intro i h1 h2
   have : i = 0 := by omega
   subst this; simp
theorem arr2 {cargs : Array Value} (h : cargs.size = 2) : ∃ a b, cargs = #[a, b] := by
 refine ⟨cargs[0], cargs[1], ?_⟩
 apply Array.ext
 · simp [h]
 · intro i h1 h2
   have : i = 0 ∨ i = 1 := by omega
   rcases this with rfl | rfl <;> simp
theorem ya_int (k : IntKind) (n : Int) : yA (.v (.int k), []) [] n = .int k n := by
 obtain ⟨c, d, h1, h2, h3, h4⟩ := one_cells (t := .int k) rfl n
 simp only [yA, outA, can, Ty.isAgg, h2]
 have : c = .int k n := by cases h1; rfl
 subst this
 cases h3
 rfl
theorem ya_str (s : List UInt8) : yA (.v .str, []) [] s = .str s := by
 obtain ⟨c, d, h1, h2, h3, h4⟩ := one_cells (t := .str) rfl s
 simp only [yA, outA, can, Ty.isAgg, h2]
 have : c = .str s := by cases h1; rfl
 subst this
 cases h3
 rfl
@[reducible] def sigS2I : Sig := ⟨.cons (.v .str) (.cons (.v .str) .nil), [], (.v (.int .i64), []), []⟩
def strIdx (s sep : List UInt8) : Option Int := match sep with
 | [c] => some (Lib.indexByte s c)
 | _ => none
theorem strIdx_inv {s sep : List UInt8} {y : Int} (h : strIdx s sep = some y) : ∃ c, sep = [c] ∧ y = Lib.indexByte s c := by
 unfold strIdx at h
 split at h
 · rename_i c; cases h; exact ⟨c, rfl, rfl⟩
 · cases h
theorem NOk.index {P : Program} {f : Nat} (hent : AM.Enters P f) (h : ∀ (s : ByteArray) (c : UInt8) (w : World), Calls P f #[.string s, .string ⟨#[c]⟩] w fun e w' => e = .returned (.int .i64 (Lib.indexByte s.data.toList c)) ∧ w' = w) :
   NOk P ⟨f, sigS2I, fun x _ => strIdx x.1 x.2.1⟩ := by
 refine ⟨hent, rfl, fun x hh y hy args ahp ha hb => ?_⟩
 obtain ⟨s, sep, u⟩ := x
 have e0 : ahp = [] := A2.nil_inv hb
 subst e0
 simp only [puts, put, putV, Ty.isAgg] at ha
 obtain ⟨a, as', rfl, h1, ha⟩ := ha.cons_inv
 obtain ⟨b, bs', rfl, h2, ha⟩ := ha.cons_inv
 rw [ha.nil_inv]
 have ha1 : a = .str s := (RT.v h1).str_inv
 have hb1 : b = .str sep := (RT.v h2).str_inv
 subst ha1; subst hb1
 have hy : strIdx s sep = some y := hy
 obtain ⟨c, rfl, rfl⟩ := strIdx_inv hy
 · skip
   intro μ w S cargs r0 hl hv
   obtain ⟨v0, v1, rfl⟩ := arr2 (by simpa using hl.symm)
   obtain ⟨s0, rfl, e1⟩ := (hv 0 _ v0 rfl rfl).str_inv
   obtain ⟨s2, rfl, e2⟩ := (hv 1 _ v1 rfl rfl).str_inv
   have hs2 : s2 = ⟨#[c]⟩ := by
     obtain ⟨d⟩ := s2
     have : d.toList = [c] := e2
     have : d = #[c] := by apply Array.toList_inj.1; simpa using this
     rw [this]
   subst hs2
   subst e1
   refine (h s0 c w).mono fun e w' ⟨he, hw⟩ => ?_
   subst hw
   exact ⟨_, μ, S, he, r0, Ext.refl _ _ _, (ya_int .i64 _).symm ▸ .imm _ _ (.int _ _), Nat.le_refl _, fun b hb _ => .inl rfl⟩
theorem ext124 : NOk Tryz.prog ⟨124, sigS2I, fun x _ => strIdx x.1 x.2.1⟩ :=
 NOk.index (P := Tryz.prog) ⟨_, Tryz.func124, rfl, rfl⟩ Tryz.stringslite_Index_one
end NM
end Go.Proofs.YtpogjlhgbdpnbaaGreatDoor
end
section
namespace Go.Proofs.YtpogjlhgbdpnbaaGreatDoor
namespace NM
open AM Go.RowKit
theorem tab_of {P : Program} {w : World} {S : Nat → Prop} {name : String} {g : Nat} {k : IntKind} {zs : List Int} (h : GlobR w S) (hg : P.globalNamed name = some g) (hz : globOf g globs = some (zs.map (AVal.int k))) : Lib.TabIs P w name k zs := by
 obtain ⟨h1, _, us, t, p, h3, h4⟩ := h.1 g _ hz
 unfold Lib.TabIs World.var?
 rw [hg]
 simp only [Option.bind_some, h3, Option.some.injEq]
 apply Array.ext
 · simp [h4]
 · intro i hi hi'
   have hl : i < zs.length := by simpa using hi'
   have hc : (zs.map (AVal.int k))[i]? = some (.int k zs[i]) := by simp [hl]
   cases h1 with
   | iptr cs off m o gv hm hcell hir =>
     have e1 := hcell i _ hc
     have e2 := hir i _ hc
     generalize gv i = v at e1 e2
     cases e2
     rw [Nat.zero_add] at e1
     simp only [World.cell?, h3] at e1
     have : us[i]? = some (Value.int k zs[i]) := by simpa using e1
     have := (Array.getElem?_eq_some_iff.1 this).2
     rw [this]
     simp
@[reducible] def sigI2S : Sig := ⟨.cons (.v (.int .i64)) .nil, [], (.v .str, []), []⟩
def itoaF (n : Int) : Option (List UInt8) := cond (decide (-9223372036854775808 ≤ n) && decide (n ≤ 9223372036854775807)) (some (Lib.itoa n)) none
theorem NOk.itoa {P : Program} {f : Nat} (hent : AM.Enters P f) (htab : ∀ {w : World} {S : Nat → Prop}, GlobR w S → Lib.TabIs P w "internal/strconv.uint64pow10" .u64 Lib.pow10Tab) (h : ∀ (n : Int) (h0 : -9223372036854775808 ≤ n) (h1 : n ≤ 9223372036854775807) (w : World) (htab : Lib.TabIs P w "internal/strconv.uint64pow10" .u64 Lib.pow10Tab), Calls P f #[.int .i64 n] w fun e w' => e = .returned (.string ⟨(Lib.itoa n).toArray⟩) ∧ Below w.heap.size w w') :
   NOk P ⟨f, sigI2S, fun x _ => itoaF x.1⟩ := by
 refine ⟨hent, rfl, fun x hh y hy args ahp ha hb => ?_⟩
 obtain ⟨n, u⟩ := x
 have e0 : ahp = [] := A2.nil_inv hb
 subst e0
 simp only [puts, put, putV, Ty.isAgg] at ha
 obtain ⟨a, as', rfl, h1, ha⟩ := ha.cons_inv
 rw [ha.nil_inv]
 have ha1 : a = .int .i64 n := (RT.v h1).int_inv
 subst ha1
 have hy : itoaF n = some y := hy
 unfold itoaF at hy
 cases hc : (decide (-9223372036854775808 ≤ n) && decide (n ≤ 9223372036854775807)) with
 | false => rw [hc] at hy; cases hy
 | true =>
   rw [hc] at hy
   cases hy
   simp only [Bool.and_eq_true, decide_eq_true_eq] at hc
   intro μ w S cargs r0 hl hv
   obtain ⟨v0, rfl⟩ := arr1 (by simpa using hl.symm)
   have e1 := (hv 0 _ v0 rfl rfl).int_inv
   subst e1
   refine (h n hc.1 hc.2 w (htab r0.gl)).mono fun e w' ⟨he, hw⟩ => ?_
   obtain ⟨r1, x1⟩ := HRep.later r0 hw
   exact ⟨_, μ, S, he, r1, x1, (ya_str _).symm ▸ .imm _ _ (.str ⟨(Lib.itoa n).toArray⟩), Nat.le_refl _, fun b hb _ => .inl rfl⟩
theorem ext82 : NOk Tryz.prog ⟨82, sigI2S, fun x _ => itoaF x.1⟩ :=
 NOk.itoa (P := Tryz.prog) ⟨_, Tryz.func82, rfl, rfl⟩ (fun h => tab_of (g := 5) h (by kernel_rfl) rfl) fun n h0 h1 w htab => (Tryz.strconv_Itoa n h0 h1 w htab).mono fun e w' ⟨he, k, os, hw⟩ => ⟨he, by rw [hw]; exact ⟨rfl, rfl, rfl, by simp [Go.Sort.grow, World.drewN], fun m hm => by simp [Go.Sort.grow, World.drewN, Array.getElem?_append, hm]⟩⟩
@[reducible] def sigL2S : Sig := ⟨.cons (.v (.list .str)) (.cons (.v .str) .nil), [], (.v .str, []), []⟩
def joinF (xs : List (List UInt8)) (sep : List UInt8) : Option (List UInt8) := match xs with
 | [] => none
 | x :: l => cond (decide ((x :: l).length ≤ 4294967296) && decide ((Lib.join (x :: l) sep).length ≤ 4294967296)) (some (Lib.join (x :: l) sep)) none
theorem joinF_inv {xs : List (List UInt8)} {sep y : List UInt8} (h : joinF xs sep = some y) : 0 < xs.length ∧ xs.length ≤ 4294967296 ∧ (Lib.join xs sep).length ≤ 4294967296 ∧ y = Lib.join xs sep := by
 unfold joinF at h
 split at h
 · cases h
 · rename_i x l
   cases hc : (decide ((x :: l).length ≤ 4294967296) && decide ((Lib.join (x :: l) sep).length ≤ 4294967296)) with
   | false => rw [hc] at h; cases h
   | true =>
     rw [hc] at h
     simp only [Bool.and_eq_true, decide_eq_true_eq] at hc
     cases h
     exact ⟨by simp, hc.1, hc.2, rfl⟩
theorem NOk.join {P : Program} {f : Nat} (hent : AM.Enters P f)
   (h : ∀ (bk o c : Nat) (xs : List ByteArray) (sep : ByteArray) (w : World), (∀ (j : Nat) x, xs[j]? = some x → w.cell? ⟨bk, o + j, none⟩ = some (.string x)) → bk < w.heap.size → xs.length ≤ 140737488355328 → xs.length ≤ c → (Lib.join (xs.map (·.data.toList)) sep.data.toList).length ≤ 140737488355328 →
     Calls P f #[.slice (some ⟨bk, o, none⟩) xs.length c, .string sep] w fun e w' => e = .returned (.string ⟨(Lib.join (xs.map (·.data.toList)) sep.data.toList).toArray⟩) ∧ Below w.heap.size w w') :
   NOk P ⟨f, sigL2S, fun x _ => joinF x.1 x.2.1⟩ := by
 refine ⟨hent, rfl, fun x hh y hy args ahp ha hb => ?_⟩
 obtain ⟨xs, sep, u⟩ := x
 have e0 : ahp = [] := A2.nil_inv hb
 subst e0
 simp only [puts, put, putV, Ty.isAgg] at ha
 obtain ⟨a, as', rfl, h1, ha⟩ := ha.cons_inv
 obtain ⟨b, bs', rfl, h2, ha⟩ := ha.cons_inv
 rw [ha.nil_inv]
 have hb1 : b = .str sep := (RT.v h2).str_inv
 subst hb1
 have hy : joinF xs sep = some y := hy
 obtain ⟨c0, c1, c2, rfl⟩ := joinF_inv hy
 intro μ w S cargs r0 hl hv
 obtain ⟨v0, v1, rfl⟩ := arr2 (by simpa using hl.symm)
 obtain ⟨s2, rfl, rfl⟩ := (hv 1 _ v1 rfl rfl).str_inv
 have hv0 := hv 0 _ v0 rfl rfl
 have h1' : RI (.lst .str xs) a := (RT.v h1).lst_inv
 rcases h1'.lst_inv with ⟨ys, rfl, hys⟩ | ⟨_, e0⟩
 · cases hv0 with
   | imm _ _ h3 =>
     cases h3 with
     | imm _ _ A cap g i1 i2 i3 i4 i5 =>
       have hlen : ys.length = xs.length := hys.1.symm
       have hat : ∀ (j : Nat) (s : List UInt8), xs[j]? = some s → ∃ m o, A = some ⟨m, o, none⟩ ∧ S m ∧ w.cell? ⟨m, o + j, none⟩ = some (.string ⟨s.toArray⟩) := fun j s hs => by
         have hj : j < ys.length := by have := (List.getElem?_eq_some_iff.1 hs).1; omega
         have hyj : ys[j]? = some ys[j] := by simp [hj]
         have hrow := hys.2 j s ys[j] hs hyj
         have hrow : A2 RI [.str s] ys[j] := hrow
         obtain ⟨d, ds, e1, hd, hds⟩ := hrow.cons_inv
         have e2 := hds.nil_inv
         rw [e2] at e1
         cases hd
         rw [e1] at hyj
         obtain ⟨m, o, hA, hm, hc⟩ := i4 j _ 0 _ hyj rfl
         have hir := i5 j _ 0 _ hyj rfl
         generalize g j 0 = gv at hc hir
         have hgv : gv = .string ⟨s.toArray⟩ := by
           cases hir with
           | str s' => congr 1
         have hsz : (ops Ty.str).size = 1 := rfl
         rw [hsz, Nat.mul_one, Nat.add_zero, hgv] at hc
         exact ⟨m, o, hA, hm, hc⟩
       obtain ⟨x0, hx0⟩ : ∃ x0, xs[0]? = some x0 := ⟨xs[0], by simp [c0]⟩
       obtain ⟨m, o, rfl, hm, _⟩ := hat 0 x0 hx0
       have hmap : (xs.map fun s => (⟨s.toArray⟩ : ByteArray)).map (·.data.toList) = xs := by
         rw [List.map_map]
         have : ((fun s : ByteArray => s.data.toList) ∘ fun s : List UInt8 => (⟨s.toArray⟩ : ByteArray)) = id := by funext s; simp
         rw [this, List.map_id]
       have hcall := h m o cap (xs.map fun s => (⟨s.toArray⟩ : ByteArray)) s2 w (fun j x hx => by
         rw [List.getElem?_map] at hx
         obtain ⟨s, hs, rfl⟩ := Option.map_eq_some_iff.1 hx
         obtain ⟨m', o', hA, _, hc⟩ := hat j s hs
         cases hA
         exact hc) (r0.inS m hm) (by rw [List.length_map]; omega) (by rw [List.length_map]; omega) (by rw [hmap]; omega)
       rw [hmap, List.length_map, ← hlen] at hcall
       refine hcall.mono fun e w' ⟨he, hw⟩ => ?_
       obtain ⟨r1, x1⟩ := HRep.later r0 hw
       exact ⟨_, μ, S, he, r1, x1, (ya_str _).symm ▸ .imm _ _ (.str ⟨(Lib.join xs s2.data.toList).toArray⟩), Nat.le_refl _, fun b hb _ => .inl rfl⟩
 · subst e0
   simp at c0
theorem ext26 : NOk Tryz.prog ⟨26, sigL2S, fun x _ => joinF x.1 x.2.1⟩ :=
 NOk.join (P := Tryz.prog) ⟨_, Tryz.func26, rfl, rfl⟩ fun bk o c xs sep w h1 h2 h3 h4 h5 => Tryz.strings_Join bk o c xs sep w h1 h2 h3 h4 h5
def numGo : List UInt8 → Bool → Int → Int
 | [], _, n => n
 | c :: l, first, n => if c.toNat < 48 ∨ 57 < c.toNat then 0 else if first = true ∧ c.toNat = 48 then 0 else if 1048576 < 10 * n + ((c.toNat : Int) - 48) then 0 else numGo l false (10 * n + ((c.toNat : Int) - 48))
theorem digit_bad (c : Nat) (h : c < 48 ∨ 57 < c) (w : World) : Calls Tryz.prog 146 #[.int .i32 (c : Int)] w fun e w' => e = .returned (.int .i64 (-1)) ∧ w' = w := by
 go_enter Tryz.func146, Tryz.ntmps146
 go_wp2
 all_goals first
   | (go_ret; exact ⟨rfl, rfl⟩)
   | (exfalso; omega)
   | fail
theorem digit_good (d : Nat) (h : d < 10) (w : World) : Calls Tryz.prog 146 #[.int .i32 ((48 + d : Nat) : Int)] w fun e w' => e = .returned (.int .i64 (d : Int)) ∧ w' = w := by
 have h1 : ¬ ((48 + d : Nat) : Int) < 48 := by omega
 have h2 : ¬ ((48 + d : Nat) : Int) > 57 := by omega
 go_enter Tryz.func146, Tryz.ntmps146
 go_wp2
 go_ret
 refine ⟨?_, rfl⟩
 show Ending.returned (Value.int .i64 (48 + (d : Int) - 48)) = _
 rw [show (48 + (d : Int) - 48) = (d : Int) by omega]
theorem digit_zero (w : World) : Calls Tryz.prog 146 #[.int .i32 48] w fun e w' => e = .returned (.int .i64 0) ∧ w' = w := digit_good 0 (by omega) w
set_option maxHeartbeats 4000000 in
set_option maxRecDepth 1000000 in
theorem num_walk (s : ByteArray) (w : World) : Calls Tryz.prog 126 #[.string s] w fun e w' => e = .returned (.int .i64 (numGo s.data.toList true 0)) ∧ Below w.heap.size w w' := by
 have hB : ∀ pos, Below w.heap.size w (w.iter s pos) := fun pos => (Below.refl _ _).alloc (Nat.le_refl _) _
 go_enter Tryz.func126, Tryz.ntmps126
 go_wp2
 go_loopw [3] (fun n w' => ∃ (pos : Nat) (acc : Int), w' = w.iter s pos ∧ n = .int .i64 acc ∧ 0 ≤ acc ∧ acc ≤ 1048576 ∧ pos ≤ s.size ∧ Hid (numGo (s.data.toList.drop pos) (decide (pos = 0)) acc = numGo s.data.toList true 0)) (fun _ w' => s.size - w'.iterPos w.heap.size)
 case atStart => exact ⟨0, 0, rfl, rfl, by omega, by omega, by omega, rfl⟩
 case round =>
   obtain ⟨pos, acc, rfl, rfl, h0, h1, h2, hspec⟩ := hrel
   by_cases hp : pos < s.size
   · have hnx : ∀ ty, (Instr.next (.pointer (some ⟨w.heap.size, 0, none⟩)) true ty).run Tryz.prog (w.iter s pos) = _ := fun ty => run_next_any w s pos ty hp
     obtain ⟨c, wd, hdec⟩ : ∃ c wd, Utf8.decode s pos = (c, wd) := ⟨_, _, rfl⟩
     rw [hdec] at hnx
     simp only at hnx
     have hfact : ((s[pos]'hp).toNat < 128 ∧ c = (s[pos]'hp).toNat ∧ wd = 1) ∨ (128 ≤ (s[pos]'hp).toNat ∧ 128 ≤ c ∧ 1 ≤ wd ∧ c ≤ 2147483647) := by
       by_cases ha : (s[pos]'hp).toNat < 128
       · have := decode_ascii s pos hp ha
         rw [hdec] at this
         cases this
         exact .inl ⟨ha, rfl, rfl⟩
       · have h3 := decode_high s pos hp (by omega)
         have h4 := decode_le s pos
         rw [hdec] at h3 h4
         exact .inr ⟨by omega, h3.1, h3.2, h4⟩
     have hlist : s.data.toList.drop pos = s[pos]'hp :: s.data.toList.drop (pos + 1) := by
       have hl : pos < s.data.toList.length := by simpa using hp
       rw [List.drop_eq_getElem_cons hl]
       rfl
     generalize hbg : s[pos]'hp = b at hfact hlist
     have HL := Go.Lib.hid hlist
     clear hlist hdec
     by_cases hbad : c < 48 ∨ 57 < c
     · have hsp : numGo s.data.toList true 0 = 0 := by
         have h3 := HL.out
         have h4 := hspec.out
         rw [h3] at h4
         rw [← h4]
         unfold numGo
         rw [if_pos (by omega)]
       clear hspec HL
       go_wp2_with (go_at_call 146; refine (digit_bad c hbad _).mono ?_; rintro e w' ⟨rfl, rfl⟩)
       go_ret
       exact ⟨by rw [hsp]; rfl, hB _⟩
     · obtain ⟨d, rfl⟩ : ∃ d, c = 48 + d := ⟨c - 48, by omega⟩
       have hd : d < 10 := by omega
       have hb : b.toNat = 48 + d ∧ wd = 1 := by omega
       obtain ⟨hb, rfl⟩ := hb
       have hsp : numGo s.data.toList true 0 = if pos = 0 ∧ d = 0 then 0 else if 1048576 < 10 * acc + (d : Int) then 0 else numGo (s.data.toList.drop (pos + 1)) false (10 * acc + (d : Int)) := by
         have h3 := HL.out
         have h4 := hspec.out
         rw [h3] at h4
         rw [← h4]
         rw [numGo, if_neg (by omega)]
         have e1 : ((b.toNat : Int) - 48) = (d : Int) := by omega
         rw [e1]
         by_cases hz : pos = 0 ∧ d = 0
         · rw [if_pos hz, if_pos ⟨by simp [hz.1], by omega⟩]
         · rw [if_neg hz, if_neg (fun h => hz ⟨by simpa using h.1, by omega⟩)]
       have HS := Go.Lib.hid hsp
       clear hsp hspec HL hfact hbad
       by_cases hd0 : d = 0
       · subst hd0
         have hnx0 : ∀ ty, (Instr.next (.pointer (some ⟨w.heap.size, 0, none⟩)) true ty).run Tryz.prog (w.iter s pos) = .ok (.tuple #[.bool true, .int .i64 (pos : Int), .int .i32 48]) (w.iter s (pos + 1)) := hnx
         clear hnx
         go_wp2_with (go_at_call 146; refine (digit_zero _).mono ?_; rintro e w' ⟨rfl, rfl⟩)
         all_goals (have hsp := HS.out)
         all_goals (rw [show (10 * acc + ((0 : Nat) : Int)) = 10 * acc by omega] at hsp)
         all_goals first
           | (refine ⟨⟨pos + 1, _, rfl, rfl, by omega, by omega, by omega, ?_⟩, by simp; omega⟩; rw [if_neg (by first | omega | (intro h; have := h.1; omega) | exact ⟨by omega, trivial⟩), if_neg (by omega)] at hsp; refine Go.Lib.hid ?_; rw [hsp, decide_eq_false (by omega)])
           | (have hpz : pos = 0 := (by assumption); subst hpz; refine ⟨⟨1, _, rfl, rfl, by omega, by omega, by omega, ?_⟩, by simp; omega⟩; rw [if_neg (by first | omega | (intro h; have := h.1; omega) | exact ⟨by omega, trivial⟩), if_neg (by omega)] at hsp; refine Go.Lib.hid ?_; rw [hsp, decide_eq_false (by omega)])
           | (go_ret; rw [if_pos (by first | omega | (intro h; have := h.1; omega) | exact ⟨by omega, trivial⟩)] at hsp; exact ⟨by rw [hsp]; rfl, hB _⟩)
           | (go_ret; rw [if_neg (by first | omega | (intro h; have := h.1; omega) | exact ⟨by omega, trivial⟩), if_pos (by omega)] at hsp; exact ⟨by rw [hsp]; rfl, hB _⟩)
           | fail
       · have hz : ((d : Int) == 0) = false := by simp [hd0]
         go_wp2_with (go_at_call 146; refine (digit_good d hd _).mono ?_; rintro e w' ⟨rfl, rfl⟩)
         all_goals (have hsp := HS.out)
         all_goals first
           | (refine ⟨⟨pos + 1, _, rfl, rfl, by omega, by omega, by omega, ?_⟩, by simp; omega⟩; rw [if_neg (by first | omega | (intro h; have := h.1; omega) | exact ⟨by omega, trivial⟩), if_neg (by omega)] at hsp; refine Go.Lib.hid ?_; rw [hsp, decide_eq_false (by omega)])
           | (have hpz : pos = 0 := (by assumption); subst hpz; refine ⟨⟨1, _, rfl, rfl, by omega, by omega, by omega, ?_⟩, by simp; omega⟩; rw [if_neg (by first | omega | (intro h; have := h.1; omega) | exact ⟨by omega, trivial⟩), if_neg (by omega)] at hsp; refine Go.Lib.hid ?_; rw [hsp, decide_eq_false (by omega)])
           | (go_ret; rw [if_pos (by first | omega | (intro h; have := h.1; omega) | exact ⟨by omega, trivial⟩)] at hsp; exact ⟨by rw [hsp]; rfl, hB _⟩)
           | (go_ret; rw [if_neg (by first | omega | (intro h; have := h.1; omega) | exact ⟨by omega, trivial⟩), if_pos (by omega)] at hsp; exact ⟨by rw [hsp]; rfl, hB _⟩)
           | fail
   · have hnx : ∀ ty, (Instr.next (.pointer (some ⟨w.heap.size, 0, none⟩)) true ty).run Tryz.prog (w.iter s pos) = _ := fun ty => run_next_end w s pos ty hp
     have hsp : numGo s.data.toList true 0 = acc := by
       have h4 := hspec.out
       rw [List.drop_of_length_le (by simp; omega)] at h4
       rw [← h4]
       unfold numGo
       rfl
     clear hspec
     go_wp2
     go_ret
     exact ⟨by rw [hsp]; rfl, hB _⟩
@[reducible] def sigS2I1 : Sig := ⟨.cons (.v .str) .nil, [], (.v (.int .i64), []), []⟩
def unitsNum (s : List UInt8) : Option Int := some (numGo s true 0)
theorem NOk.num {P : Program} {f : Nat} (hent : AM.Enters P f) (h : ∀ (s : ByteArray) (w : World), Calls P f #[.string s] w fun e w' => e = .returned (.int .i64 (numGo s.data.toList true 0)) ∧ Below w.heap.size w w') :
   NOk P ⟨f, sigS2I1, fun x _ => unitsNum x.1⟩ := by
 refine ⟨hent, rfl, fun x hh y hy args ahp ha hb => ?_⟩
 obtain ⟨s, u⟩ := x
 have e0 : ahp = [] := A2.nil_inv hb
 subst e0
 simp only [puts, put, putV, Ty.isAgg] at ha
 obtain ⟨a, as', rfl, h1, ha⟩ := ha.cons_inv
 rw [ha.nil_inv]
 have ha1 : a = .str s := (RT.v h1).str_inv
 subst ha1
 cases hy
 intro μ w S cargs r0 hl hv
 obtain ⟨v0, rfl⟩ := arr1 (by simpa using hl.symm)
 obtain ⟨s0, rfl, rfl⟩ := (hv 0 _ v0 rfl rfl).str_inv
 refine (h s0 w).mono fun e w' ⟨he, hw⟩ => ?_
 obtain ⟨r1, x1⟩ := HRep.later r0 hw
 exact ⟨_, μ, S, he, r1, x1, (ya_int .i64 _).symm ▸ .imm _ _ (.int _ _), Nat.le_refl _, fun b hb _ => .inl rfl⟩
theorem ext126 : NOk Tryz.prog ⟨126, sigS2I1, fun x _ => unitsNum x.1⟩ :=
 NOk.num (P := Tryz.prog) ⟨_, Tryz.func126, rfl, rfl⟩ num_walk
end NM
end Go.Proofs.YtpogjlhgbdpnbaaGreatDoor
end
