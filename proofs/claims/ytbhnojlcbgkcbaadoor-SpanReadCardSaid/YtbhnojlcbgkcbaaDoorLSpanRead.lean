/-
  The statement SpanRead about plain data, and its call.
-/
import Derived.Test.YtbhnojlcbgkcbaaDoorPSpan
import Derived.KernelRfl
set_option linter.unusedVariables false
set_option linter.unusedSimpArgs false
namespace Go.Proofs.YtbhnojlcbgkcbaaDoor
namespace spanRead
open NM AM
theorem walk (x0 : ByteArray) (v0 : Value) (W : World) (hgl : GlobR W (Lt W.heap.size)) (h0 : V W (Lt W.heap.size) x0 v0) :
    Calls Tryd.prog 4 #[v0] W fun e w' => e = .returned (.bool true) ∧ Go.RowKit.Below W.heap.size W w' :=
  nlaw_walk NM.ok4 (x := (NEnc.f x0, ())) (law_SpanRead _ (Rng.ok h0.1)) (arg_cons x0 arg_nil) rfl (fun j a v ha hv => by
    match j with
    | 0 => simp at ha hv; subst ha; subst hv; exact h0.vr (fun _ h => h) _) hgl
end spanRead
end Go.Proofs.YtbhnojlcbgkcbaaDoor
