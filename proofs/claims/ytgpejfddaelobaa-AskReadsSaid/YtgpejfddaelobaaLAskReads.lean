/-
  The statement AskReads about plain data.
-/
import Derived.Test.YtgpejfddaelobaaPAskE
import Derived.KernelRfl
set_option linter.unusedVariables false
set_option linter.unusedSimpArgs false
namespace Go.Proofs.Ytgpejfddaelobaa
namespace NM
open AM
theorem awake08 : f13 = some true := by kernel_rfl
theorem _root_.Go.Proofs.Ytgpejfddaelobaa.askReads.plain (b : List Int) (hb : Bytes8 b) : f6 b = some true := by
  unfold f6 F6
  simp only [awake08, Option.bind_some, Bool.not_true, cond_false]
  by_cases h300 : (300 : Int) < (b.length : Int)
  · simp [h300]
  · have hl : b.length ≤ 300 := by omega
    have hlen : (rdQ b).after.length ≤ 4294967295 := by
      by_cases h : Be b = 0
      · obtain ⟨h1, _⟩ := ask_ends hb hl h
        obtain ⟨_, _, _, _, h5, _, _⟩ := right_kind h1
        omega
      · rw [rd_bad hb hl h]; simp [zQ]
    have hs : sameQ (rdQ b) (rdQ b) = true := (sameQ_iff _ _).2 rfl
    simp only [h300, decide_false, cond_false, p_readAsk hb hl, r_readAsk hb hl, Option.bind_some, decide_true, Bool.not_true, r_sameAsk _ _ hlen, hs, p_writeAsk, p_rightAsk]
    by_cases h : Be b = 0
    · obtain ⟨h1, h2⟩ := ask_ends hb hl h
      simp only [h, decide_true, Bool.not_true, cond_false, h1, h2, if_true, cond_true, r_BytesEq b b (by omega), Option.bind_some]
    · simp [h]
end NM
namespace askReads
open NM AM
theorem walk (x0 : List UInt8) (v0 : Value) (W : World) (h0 : V W (Lt W.heap.size) x0 v0) :
    Calls Try.prog 6 #[v0] W fun e w' => e = .returned (.bool true) ∧ Go.RowKit.Below W.heap.size W w' :=
  nlaw_walk NM.ok6 (x := (NEnc.f x0, ())) (plain _ u8_all) (arg_cons x0 arg_nil) rfl fun j a v ha hv => by
    match j with
    | 0 => simp at ha hv; subst ha; subst hv; exact h0.vr (fun _ h => h) _
end askReads
end Go.Proofs.Ytgpejfddaelobaa
