/-
  No cell of these rows narrows 'for every input' (looked for: loops, veiled, ifaces, maps, wideKeys, modest, calm, conditions, laid).
  DERIVED. THE GIVEN ROWS OF THIS SEAT. 12 by the template 'for every input the law returns true; each argument reads behind the call as it read before'; 0 by the template 'total and deterministic' (their statements: YtofboijlcjgnnaaTotals.lean).
  GIVEN WITH THE SEED: the statements are not yours to turn. If you find one false, say at which input.
  Laid BY PROGRAM, IN A SANDBOX (cutbox-rows.mjs): the forced cells as the released guide's own fill.sh prints them over the translation 511cdc2a0b557518… (all of the seat's roots in one cut). By AI agents, Wed Nov 11 2026. No macro, syntax, notation, axiom, sorry.
-/
import Derived.Test.YtofboijlcjgnnaaChecked
import GoSem.Claim
import GoSem.ClaimJoined
import GoSem.ClaimMapViews
import Derived.JoinedTies
import Derived.KernelRfl
namespace Go.Proofs.Ytofboijlcjgnnaa
/- THE CELL 'sum', in the pinned program and in every row, IS THE sha256 OF THE DUMP (.gsa) THAT YtofboijlcjgnnaaProg.lean LOADS. Nothing in Lean hashes anything: it is a label: what it is worth is what the hold of that sum in a sandbox is worth. -/
noncomputable def Try.pinned : Pinned := { name := "ytofboijlcjgnnaa", sum := "511cdc2a0b5575186ed3eef0ea8a43c8681db79435db13463dfcfd424d97c486", checked := Try.checked }
namespace Rows
def none {H : Type} : Left H := { results := [], args := [] }

/-- 'drayagelaw20.ShareOrder': WHATEVER THE INPUT: true; the input reads as it did. -/
def shareOrderSpec : ChangeSpec := { name := "shareOrder", fn := fun _ => fun
  | [d1, d2, d3] => { results := [.lit (.bool true)], args := [d1, d2, d3] }
  | _ => none }
def shareOrderRow : OpenClaim := { program := "ytofboijlcjgnnaa", sum := "511cdc2a0b5575186ed3eef0ea8a43c8681db79435db13463dfcfd424d97c486", func := "drayage/drayagelaw20.ShareOrder", spec := "shareOrder", apart := false }
def ShareOrderSaid : Prop := shareOrderRow.holds Try.pinned (OpenSpec.ofChange shareOrderSpec)

/-- ITS FALSE NEIGHBOUR: 'it returns false'. Refute it at one input. -/
def shareOrderWrong : ChangeSpec := { name := "shareOrder", fn := fun _ => fun
  | [d1, d2, d3] => { results := [.lit (.bool false)], args := [d1, d2, d3] }
  | _ => none }
def ShareOrderWrongFalsely : Prop := shareOrderRow.holds Try.pinned (OpenSpec.ofChange shareOrderWrong)

/-- 'drayagelaw15.LifeNext': WHATEVER THE INPUT: true; the input reads as it did. -/
def lifeNextSpec : ChangeSpec := { name := "lifeNext", fn := fun _ => fun
  | [d1, d2] => { results := [.lit (.bool true)], args := [d1, d2] }
  | _ => none }
def lifeNextRow : OpenClaim := { program := "ytofboijlcjgnnaa", sum := "511cdc2a0b5575186ed3eef0ea8a43c8681db79435db13463dfcfd424d97c486", func := "drayage/drayagelaw15.LifeNext", spec := "lifeNext", apart := false }
def LifeNextSaid : Prop := lifeNextRow.holds Try.pinned (OpenSpec.ofChange lifeNextSpec)

/-- ITS FALSE NEIGHBOUR: 'it returns false'. Refute it at one input. -/
def lifeNextWrong : ChangeSpec := { name := "lifeNext", fn := fun _ => fun
  | [d1, d2] => { results := [.lit (.bool false)], args := [d1, d2] }
  | _ => none }
def LifeNextWrongFalsely : Prop := lifeNextRow.holds Try.pinned (OpenSpec.ofChange lifeNextWrong)

/-- 'drayagelaw09.ReplyRefuses': WHATEVER THE INPUT: true; the input reads as it did. -/
def replyRefusesSpec : ChangeSpec := { name := "replyRefuses", fn := fun _ => fun
  | [d1, d2] => { results := [.lit (.bool true)], args := [d1, d2] }
  | _ => none }
def replyRefusesRow : OpenClaim := { program := "ytofboijlcjgnnaa", sum := "511cdc2a0b5575186ed3eef0ea8a43c8681db79435db13463dfcfd424d97c486", func := "drayage/drayagelaw09.ReplyRefuses", spec := "replyRefuses", apart := false }
def ReplyRefusesSaid : Prop := replyRefusesRow.holds Try.pinned (OpenSpec.ofChange replyRefusesSpec)

/-- ITS FALSE NEIGHBOUR: 'it returns false'. Refute it at one input. -/
def replyRefusesWrong : ChangeSpec := { name := "replyRefuses", fn := fun _ => fun
  | [d1, d2] => { results := [.lit (.bool false)], args := [d1, d2] }
  | _ => none }
def ReplyRefusesWrongFalsely : Prop := replyRefusesRow.holds Try.pinned (OpenSpec.ofChange replyRefusesWrong)

/-- 'drayagelaw05.CodecOnce': WHATEVER THE INPUT: true; the input reads as it did. -/
def codecOnceSpec : ChangeSpec := { name := "codecOnce", fn := fun _ => fun
  | [d] => { results := [.lit (.bool true)], args := [d] }
  | _ => none }
def codecOnceRow : OpenClaim := { program := "ytofboijlcjgnnaa", sum := "511cdc2a0b5575186ed3eef0ea8a43c8681db79435db13463dfcfd424d97c486", func := "drayage/drayagelaw05.CodecOnce", spec := "codecOnce", apart := false }
def CodecOnceSaid : Prop := codecOnceRow.holds Try.pinned (OpenSpec.ofChange codecOnceSpec)

/-- ITS FALSE NEIGHBOUR: 'it returns false'. Refute it at one input. -/
def codecOnceWrong : ChangeSpec := { name := "codecOnce", fn := fun _ => fun
  | [d] => { results := [.lit (.bool false)], args := [d] }
  | _ => none }
def CodecOnceWrongFalsely : Prop := codecOnceRow.holds Try.pinned (OpenSpec.ofChange codecOnceWrong)

/-- 'drayagelaw40.BoxNone': WHATEVER THE INPUT: true; the input reads as it did. -/
def boxNoneSpec : ChangeSpec := { name := "boxNone", fn := fun _ => fun
  | [d] => { results := [.lit (.bool true)], args := [d] }
  | _ => none }
def boxNoneRow : OpenClaim := { program := "ytofboijlcjgnnaa", sum := "511cdc2a0b5575186ed3eef0ea8a43c8681db79435db13463dfcfd424d97c486", func := "drayage/drayagelaw40.BoxNone", spec := "boxNone", apart := false }
def BoxNoneSaid : Prop := boxNoneRow.holds Try.pinned (OpenSpec.ofChange boxNoneSpec)

/-- ITS FALSE NEIGHBOUR: 'it returns false'. Refute it at one input. -/
def boxNoneWrong : ChangeSpec := { name := "boxNone", fn := fun _ => fun
  | [d] => { results := [.lit (.bool false)], args := [d] }
  | _ => none }
def BoxNoneWrongFalsely : Prop := boxNoneRow.holds Try.pinned (OpenSpec.ofChange boxNoneWrong)

/-- 'drayagelaw05.CodecPuts': WHATEVER THE INPUT: true; the input reads as it did. -/
def codecPutsSpec : ChangeSpec := { name := "codecPuts", fn := fun _ => fun
  | [d1, d2] => { results := [.lit (.bool true)], args := [d1, d2] }
  | _ => none }
def codecPutsRow : OpenClaim := { program := "ytofboijlcjgnnaa", sum := "511cdc2a0b5575186ed3eef0ea8a43c8681db79435db13463dfcfd424d97c486", func := "drayage/drayagelaw05.CodecPuts", spec := "codecPuts", recurses := true, apart := false }
def CodecPutsSaid : Prop := codecPutsRow.holds Try.pinned (OpenSpec.ofChange codecPutsSpec)

/-- ITS FALSE NEIGHBOUR: 'it returns false'. Refute it at one input. -/
def codecPutsWrong : ChangeSpec := { name := "codecPuts", fn := fun _ => fun
  | [d1, d2] => { results := [.lit (.bool false)], args := [d1, d2] }
  | _ => none }
def CodecPutsWrongFalsely : Prop := codecPutsRow.holds Try.pinned (OpenSpec.ofChange codecPutsWrong)

/-- 'drayagelaw48.LotDraws': WHATEVER THE INPUT: true; the input reads as it did. -/
def lotDrawsSpec : ChangeSpec := { name := "lotDraws", fn := fun _ => fun
  | [d1, d2, d3] => { results := [.lit (.bool true)], args := [d1, d2, d3] }
  | _ => none }
def lotDrawsRow : OpenClaim := { program := "ytofboijlcjgnnaa", sum := "511cdc2a0b5575186ed3eef0ea8a43c8681db79435db13463dfcfd424d97c486", func := "drayage/drayagelaw48.LotDraws", spec := "lotDraws", apart := false }
def LotDrawsSaid : Prop := lotDrawsRow.holds Try.pinned (OpenSpec.ofChange lotDrawsSpec)

/-- ITS FALSE NEIGHBOUR: 'it returns false'. Refute it at one input. -/
def lotDrawsWrong : ChangeSpec := { name := "lotDraws", fn := fun _ => fun
  | [d1, d2, d3] => { results := [.lit (.bool false)], args := [d1, d2, d3] }
  | _ => none }
def LotDrawsWrongFalsely : Prop := lotDrawsRow.holds Try.pinned (OpenSpec.ofChange lotDrawsWrong)

/-- 'drayagelaw08.AskSame': WHATEVER THE INPUT: true; the input reads as it did. -/
def askSameSpec : ChangeSpec := { name := "askSame", fn := fun _ => fun
  | [d1, d2] => { results := [.lit (.bool true)], args := [d1, d2] }
  | _ => none }
def askSameRow : OpenClaim := { program := "ytofboijlcjgnnaa", sum := "511cdc2a0b5575186ed3eef0ea8a43c8681db79435db13463dfcfd424d97c486", func := "drayage/drayagelaw08.AskSame", spec := "askSame", apart := false }
def AskSameSaid : Prop := askSameRow.holds Try.pinned (OpenSpec.ofChange askSameSpec)

/-- ITS FALSE NEIGHBOUR: 'it returns false'. Refute it at one input. -/
def askSameWrong : ChangeSpec := { name := "askSame", fn := fun _ => fun
  | [d1, d2] => { results := [.lit (.bool false)], args := [d1, d2] }
  | _ => none }
def AskSameWrongFalsely : Prop := askSameRow.holds Try.pinned (OpenSpec.ofChange askSameWrong)

/-- 'drayagelaw19.QuotaCounts': WHATEVER THE INPUT: true; the input reads as it did. -/
def quotaCountsSpec : ChangeSpec := { name := "quotaCounts", fn := fun _ => fun
  | [d1, d2, d3] => { results := [.lit (.bool true)], args := [d1, d2, d3] }
  | _ => none }
def quotaCountsRow : OpenClaim := { program := "ytofboijlcjgnnaa", sum := "511cdc2a0b5575186ed3eef0ea8a43c8681db79435db13463dfcfd424d97c486", func := "drayage/drayagelaw19.QuotaCounts", spec := "quotaCounts", unfollowed := true, recurses := true, apart := false }
def QuotaCountsSaid : Prop := quotaCountsRow.holds Try.pinned (OpenSpec.ofChange quotaCountsSpec)

/-- ITS FALSE NEIGHBOUR: 'it returns false'. Refute it at one input. -/
def quotaCountsWrong : ChangeSpec := { name := "quotaCounts", fn := fun _ => fun
  | [d1, d2, d3] => { results := [.lit (.bool false)], args := [d1, d2, d3] }
  | _ => none }
def QuotaCountsWrongFalsely : Prop := quotaCountsRow.holds Try.pinned (OpenSpec.ofChange quotaCountsWrong)

/-- 'drayagelaw21.PrioOrder': WHATEVER THE INPUT: true; the input reads as it did. -/
def prioOrderSpec : ChangeSpec := { name := "prioOrder", fn := fun _ => fun
  | [d1, d2, d3] => { results := [.lit (.bool true)], args := [d1, d2, d3] }
  | _ => none }
def prioOrderRow : OpenClaim := { program := "ytofboijlcjgnnaa", sum := "511cdc2a0b5575186ed3eef0ea8a43c8681db79435db13463dfcfd424d97c486", func := "drayage/drayagelaw21.PrioOrder", spec := "prioOrder", unfollowed := true, recurses := true, apart := false }
def PrioOrderSaid : Prop := prioOrderRow.holds Try.pinned (OpenSpec.ofChange prioOrderSpec)

/-- ITS FALSE NEIGHBOUR: 'it returns false'. Refute it at one input. -/
def prioOrderWrong : ChangeSpec := { name := "prioOrder", fn := fun _ => fun
  | [d1, d2, d3] => { results := [.lit (.bool false)], args := [d1, d2, d3] }
  | _ => none }
def PrioOrderWrongFalsely : Prop := prioOrderRow.holds Try.pinned (OpenSpec.ofChange prioOrderWrong)

/-- 'drayagelaw09.ReplyReads': WHATEVER THE INPUT: true; the input reads as it did. -/
def replyReadsSpec : ChangeSpec := { name := "replyReads", fn := fun _ => fun
  | [d] => { results := [.lit (.bool true)], args := [d] }
  | _ => none }
def replyReadsRow : OpenClaim := { program := "ytofboijlcjgnnaa", sum := "511cdc2a0b5575186ed3eef0ea8a43c8681db79435db13463dfcfd424d97c486", func := "drayage/drayagelaw09.ReplyReads", spec := "replyReads", recurses := true, apart := false }
def ReplyReadsSaid : Prop := replyReadsRow.holds Try.pinned (OpenSpec.ofChange replyReadsSpec)

/-- ITS FALSE NEIGHBOUR: 'it returns false'. Refute it at one input. -/
def replyReadsWrong : ChangeSpec := { name := "replyReads", fn := fun _ => fun
  | [d] => { results := [.lit (.bool false)], args := [d] }
  | _ => none }
def ReplyReadsWrongFalsely : Prop := replyReadsRow.holds Try.pinned (OpenSpec.ofChange replyReadsWrong)

/-- 'drayagelaw09.ReplyWrites': WHATEVER THE INPUT: true; the input reads as it did. -/
def replyWritesSpec : ChangeSpec := { name := "replyWrites", fn := fun _ => fun
  | [d1, d2] => { results := [.lit (.bool true)], args := [d1, d2] }
  | _ => none }
def replyWritesRow : OpenClaim := { program := "ytofboijlcjgnnaa", sum := "511cdc2a0b5575186ed3eef0ea8a43c8681db79435db13463dfcfd424d97c486", func := "drayage/drayagelaw09.ReplyWrites", spec := "replyWrites", recurses := true, apart := false }
def ReplyWritesSaid : Prop := replyWritesRow.holds Try.pinned (OpenSpec.ofChange replyWritesSpec)

/-- ITS FALSE NEIGHBOUR: 'it returns false'. Refute it at one input. -/
def replyWritesWrong : ChangeSpec := { name := "replyWrites", fn := fun _ => fun
  | [d1, d2] => { results := [.lit (.bool false)], args := [d1, d2] }
  | _ => none }
def ReplyWritesWrongFalsely : Prop := replyWritesRow.holds Try.pinned (OpenSpec.ofChange replyWritesWrong)

/- THE SECOND FORM. 'bulk': how many values and letters a reading holds, each counted each time it is reached (what is shared counts as often as it is met; a slice's spare places count too). A statement '..UptoSaid' is the law's where the arguments, and the package variables that the reading takes, are together of bulk at most 1048576: NARROWER than '..Said'. Prove '..Said' where nothing that the law and all that it calls make is longer than what came in: it says more and counts as full. Else prove '..UptoSaid'. A law counts once. -/
mutual
def uptoBulk {H : Type} : DataW H → Nat
  | .lit (.string bytes) => bytes.length + 1
  | .lit _ => 1
  | .nil => 1
  | .ptr d => uptoBulk d + 1
  | .slice elems spare => uptoBulkAll elems + uptoBulkAll spare + 1
  | .agg parts => uptoBulkAll parts + 1
  | .iface _ d => uptoBulk d + 1
  | .map entries => uptoBulkEntries entries + 1
  | .held _ => 1
def uptoBulkAll {H : Type} : List (DataW H) → Nat
  | [] => 0
  | d :: r => uptoBulk d + uptoBulkAll r
def uptoBulkEntries {H : Type} : List (Lit × DataW H) → Nat
  | [] => 0
  | x :: r => uptoBulkEntry x + uptoBulkEntries r
def uptoBulkEntry {H : Type} : Lit × DataW H → Nat
  | (.string bytes, d) => bytes.length + uptoBulk d + 1
  | (_, d) => uptoBulk d + 1
 end
def uptoSmall : (H : Type) → List (DataW H) → Bool := fun _ ds => decide (uptoBulkAll ds ≤ 1048576)
def OpenSpec.upto (s : _root_.Go.ChangeSpec) : _root_.Go.OpenSpec := { _root_.Go.OpenSpec.ofChange s with cond := some uptoSmall }

/-- 'drayagelaw20.ShareOrder', WHERE WHAT IT READS IS OF BULK AT MOST 1048576: true; the input reads as it did. -/
def shareOrderUptoRow : OpenClaim := { program := "ytofboijlcjgnnaa", sum := "511cdc2a0b5575186ed3eef0ea8a43c8681db79435db13463dfcfd424d97c486", func := "drayage/drayagelaw20.ShareOrder", spec := "shareOrder", apart := false, narrowed := true }
def ShareOrderUptoSaid : Prop := shareOrderUptoRow.holds Try.pinned (OpenSpec.upto shareOrderSpec)

/-- 'drayagelaw15.LifeNext', WHERE WHAT IT READS IS OF BULK AT MOST 1048576: true; the input reads as it did. -/
def lifeNextUptoRow : OpenClaim := { program := "ytofboijlcjgnnaa", sum := "511cdc2a0b5575186ed3eef0ea8a43c8681db79435db13463dfcfd424d97c486", func := "drayage/drayagelaw15.LifeNext", spec := "lifeNext", apart := false, narrowed := true }
def LifeNextUptoSaid : Prop := lifeNextUptoRow.holds Try.pinned (OpenSpec.upto lifeNextSpec)

/-- 'drayagelaw09.ReplyRefuses', WHERE WHAT IT READS IS OF BULK AT MOST 1048576: true; the input reads as it did. -/
def replyRefusesUptoRow : OpenClaim := { program := "ytofboijlcjgnnaa", sum := "511cdc2a0b5575186ed3eef0ea8a43c8681db79435db13463dfcfd424d97c486", func := "drayage/drayagelaw09.ReplyRefuses", spec := "replyRefuses", apart := false, narrowed := true }
def ReplyRefusesUptoSaid : Prop := replyRefusesUptoRow.holds Try.pinned (OpenSpec.upto replyRefusesSpec)

/-- 'drayagelaw05.CodecOnce', WHERE WHAT IT READS IS OF BULK AT MOST 1048576: true; the input reads as it did. -/
def codecOnceUptoRow : OpenClaim := { program := "ytofboijlcjgnnaa", sum := "511cdc2a0b5575186ed3eef0ea8a43c8681db79435db13463dfcfd424d97c486", func := "drayage/drayagelaw05.CodecOnce", spec := "codecOnce", apart := false, narrowed := true }
def CodecOnceUptoSaid : Prop := codecOnceUptoRow.holds Try.pinned (OpenSpec.upto codecOnceSpec)

/-- 'drayagelaw40.BoxNone', WHERE WHAT IT READS IS OF BULK AT MOST 1048576: true; the input reads as it did. -/
def boxNoneUptoRow : OpenClaim := { program := "ytofboijlcjgnnaa", sum := "511cdc2a0b5575186ed3eef0ea8a43c8681db79435db13463dfcfd424d97c486", func := "drayage/drayagelaw40.BoxNone", spec := "boxNone", apart := false, narrowed := true }
def BoxNoneUptoSaid : Prop := boxNoneUptoRow.holds Try.pinned (OpenSpec.upto boxNoneSpec)

/-- 'drayagelaw05.CodecPuts', WHERE WHAT IT READS IS OF BULK AT MOST 1048576: true; the input reads as it did. -/
def codecPutsUptoRow : OpenClaim := { program := "ytofboijlcjgnnaa", sum := "511cdc2a0b5575186ed3eef0ea8a43c8681db79435db13463dfcfd424d97c486", func := "drayage/drayagelaw05.CodecPuts", spec := "codecPuts", recurses := true, apart := false, narrowed := true }
def CodecPutsUptoSaid : Prop := codecPutsUptoRow.holds Try.pinned (OpenSpec.upto codecPutsSpec)

/-- 'drayagelaw48.LotDraws', WHERE WHAT IT READS IS OF BULK AT MOST 1048576: true; the input reads as it did. -/
def lotDrawsUptoRow : OpenClaim := { program := "ytofboijlcjgnnaa", sum := "511cdc2a0b5575186ed3eef0ea8a43c8681db79435db13463dfcfd424d97c486", func := "drayage/drayagelaw48.LotDraws", spec := "lotDraws", apart := false, narrowed := true }
def LotDrawsUptoSaid : Prop := lotDrawsUptoRow.holds Try.pinned (OpenSpec.upto lotDrawsSpec)

/-- 'drayagelaw08.AskSame', WHERE WHAT IT READS IS OF BULK AT MOST 1048576: true; the input reads as it did. -/
def askSameUptoRow : OpenClaim := { program := "ytofboijlcjgnnaa", sum := "511cdc2a0b5575186ed3eef0ea8a43c8681db79435db13463dfcfd424d97c486", func := "drayage/drayagelaw08.AskSame", spec := "askSame", apart := false, narrowed := true }
def AskSameUptoSaid : Prop := askSameUptoRow.holds Try.pinned (OpenSpec.upto askSameSpec)

/-- 'drayagelaw19.QuotaCounts', WHERE WHAT IT READS IS OF BULK AT MOST 1048576: true; the input reads as it did. -/
def quotaCountsUptoRow : OpenClaim := { program := "ytofboijlcjgnnaa", sum := "511cdc2a0b5575186ed3eef0ea8a43c8681db79435db13463dfcfd424d97c486", func := "drayage/drayagelaw19.QuotaCounts", spec := "quotaCounts", unfollowed := true, recurses := true, apart := false, narrowed := true }
def QuotaCountsUptoSaid : Prop := quotaCountsUptoRow.holds Try.pinned (OpenSpec.upto quotaCountsSpec)

/-- 'drayagelaw21.PrioOrder', WHERE WHAT IT READS IS OF BULK AT MOST 1048576: true; the input reads as it did. -/
def prioOrderUptoRow : OpenClaim := { program := "ytofboijlcjgnnaa", sum := "511cdc2a0b5575186ed3eef0ea8a43c8681db79435db13463dfcfd424d97c486", func := "drayage/drayagelaw21.PrioOrder", spec := "prioOrder", unfollowed := true, recurses := true, apart := false, narrowed := true }
def PrioOrderUptoSaid : Prop := prioOrderUptoRow.holds Try.pinned (OpenSpec.upto prioOrderSpec)

/-- 'drayagelaw09.ReplyReads', WHERE WHAT IT READS IS OF BULK AT MOST 1048576: true; the input reads as it did. -/
def replyReadsUptoRow : OpenClaim := { program := "ytofboijlcjgnnaa", sum := "511cdc2a0b5575186ed3eef0ea8a43c8681db79435db13463dfcfd424d97c486", func := "drayage/drayagelaw09.ReplyReads", spec := "replyReads", recurses := true, apart := false, narrowed := true }
def ReplyReadsUptoSaid : Prop := replyReadsUptoRow.holds Try.pinned (OpenSpec.upto replyReadsSpec)

/-- 'drayagelaw09.ReplyWrites', WHERE WHAT IT READS IS OF BULK AT MOST 1048576: true; the input reads as it did. -/
def replyWritesUptoRow : OpenClaim := { program := "ytofboijlcjgnnaa", sum := "511cdc2a0b5575186ed3eef0ea8a43c8681db79435db13463dfcfd424d97c486", func := "drayage/drayagelaw09.ReplyWrites", spec := "replyWrites", recurses := true, apart := false, narrowed := true }
def ReplyWritesUptoSaid : Prop := replyWritesUptoRow.holds Try.pinned (OpenSpec.upto replyWritesSpec)

end Rows
end Go.Proofs.Ytofboijlcjgnnaa
