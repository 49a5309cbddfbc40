/-
  No cell of these rows narrows 'for every input' (looked for: loops, veiled, ifaces, maps, wideKeys, modest, calm, conditions, laid).
  DERIVED. THE GIVEN ROWS OF THIS SEAT. 10 by the template 'for every input the law returns true; each argument reads behind the call as it read before'; 0 by the template 'total and deterministic' (their statements: YtgpejfddaelobaaTotals.lean).
  GIVEN WITH THE SEED: the statements are not yours to turn. If you find one false, say at which input.
  Laid BY PROGRAM, IN A SANDBOX (cutbox-rows.mjs): the forced cells as the released guide's own fill.sh prints them over the translation 160afd6a1a384d84… (all of the seat's roots in one cut). By AI agents, Wed Nov 11 2026. No macro, syntax, notation, axiom, sorry.
-/
import Derived.Test.YtgpejfddaelobaaChecked
import GoSem.Claim
import GoSem.ClaimJoined
import GoSem.ClaimMapViews
import Derived.JoinedTies
import Derived.KernelRfl
namespace Go.Proofs.Ytgpejfddaelobaa
/- THE CELL 'sum', in the pinned program and in every row, IS THE sha256 OF THE DUMP (.gsa) THAT YtgpejfddaelobaaProg.lean LOADS. Nothing in Lean hashes anything: it is a label: what it is worth is what the hold of that sum in a sandbox is worth. -/
noncomputable def Try.pinned : Pinned := { name := "ytgpejfddaelobaa", sum := "160afd6a1a384d84fa9dbd94ab479ebd122834de21d0abd63296b2f269cdbe76", checked := Try.checked }
namespace Rows
def none {H : Type} : Left H := { results := [], args := [] }

/-- 'drayagelaw08.AskSame': WHATEVER THE INPUT: true; the input reads as it did. -/
def askSameSpec : ChangeSpec := { name := "askSame", fn := fun _ => fun
  | [d1, d2] => { results := [.lit (.bool true)], args := [d1, d2] }
  | _ => none }
def askSameRow : OpenClaim := { program := "ytgpejfddaelobaa", sum := "160afd6a1a384d84fa9dbd94ab479ebd122834de21d0abd63296b2f269cdbe76", func := "drayage/drayagelaw08.AskSame", spec := "askSame", apart := false }
def AskSameSaid : Prop := askSameRow.holds Try.pinned (OpenSpec.ofChange askSameSpec)

/-- ITS FALSE NEIGHBOUR: 'it returns false'. Refute it at one input. -/
def askSameWrong : ChangeSpec := { name := "askSame", fn := fun _ => fun
  | [d1, d2] => { results := [.lit (.bool false)], args := [d1, d2] }
  | _ => none }
def AskSameWrongFalsely : Prop := askSameRow.holds Try.pinned (OpenSpec.ofChange askSameWrong)

/-- 'drayagelaw09.ReplyReads': WHATEVER THE INPUT: true; the input reads as it did. -/
def replyReadsSpec : ChangeSpec := { name := "replyReads", fn := fun _ => fun
  | [d] => { results := [.lit (.bool true)], args := [d] }
  | _ => none }
def replyReadsRow : OpenClaim := { program := "ytgpejfddaelobaa", sum := "160afd6a1a384d84fa9dbd94ab479ebd122834de21d0abd63296b2f269cdbe76", func := "drayage/drayagelaw09.ReplyReads", spec := "replyReads", recurses := true, apart := false }
def ReplyReadsSaid : Prop := replyReadsRow.holds Try.pinned (OpenSpec.ofChange replyReadsSpec)

/-- ITS FALSE NEIGHBOUR: 'it returns false'. Refute it at one input. -/
def replyReadsWrong : ChangeSpec := { name := "replyReads", fn := fun _ => fun
  | [d] => { results := [.lit (.bool false)], args := [d] }
  | _ => none }
def ReplyReadsWrongFalsely : Prop := replyReadsRow.holds Try.pinned (OpenSpec.ofChange replyReadsWrong)

/-- 'drayagelaw08.AskWrites': WHATEVER THE INPUT: true; the input reads as it did. -/
def askWritesSpec : ChangeSpec := { name := "askWrites", fn := fun _ => fun
  | [d] => { results := [.lit (.bool true)], args := [d] }
  | _ => none }
def askWritesRow : OpenClaim := { program := "ytgpejfddaelobaa", sum := "160afd6a1a384d84fa9dbd94ab479ebd122834de21d0abd63296b2f269cdbe76", func := "drayage/drayagelaw08.AskWrites", spec := "askWrites", recurses := true, apart := false }
def AskWritesSaid : Prop := askWritesRow.holds Try.pinned (OpenSpec.ofChange askWritesSpec)

/-- ITS FALSE NEIGHBOUR: 'it returns false'. Refute it at one input. -/
def askWritesWrong : ChangeSpec := { name := "askWrites", fn := fun _ => fun
  | [d] => { results := [.lit (.bool false)], args := [d] }
  | _ => none }
def AskWritesWrongFalsely : Prop := askWritesRow.holds Try.pinned (OpenSpec.ofChange askWritesWrong)

/-- 'drayagelaw08.AskReads': WHATEVER THE INPUT: true; the input reads as it did. -/
def askReadsSpec : ChangeSpec := { name := "askReads", fn := fun _ => fun
  | [d] => { results := [.lit (.bool true)], args := [d] }
  | _ => none }
def askReadsRow : OpenClaim := { program := "ytgpejfddaelobaa", sum := "160afd6a1a384d84fa9dbd94ab479ebd122834de21d0abd63296b2f269cdbe76", func := "drayage/drayagelaw08.AskReads", spec := "askReads", recurses := true, apart := false }
def AskReadsSaid : Prop := askReadsRow.holds Try.pinned (OpenSpec.ofChange askReadsSpec)

/-- ITS FALSE NEIGHBOUR: 'it returns false'. Refute it at one input. -/
def askReadsWrong : ChangeSpec := { name := "askReads", fn := fun _ => fun
  | [d] => { results := [.lit (.bool false)], args := [d] }
  | _ => none }
def AskReadsWrongFalsely : Prop := askReadsRow.holds Try.pinned (OpenSpec.ofChange askReadsWrong)

/-- 'drayagelaw10.StepsOrder': WHATEVER THE INPUT: true; the input reads as it did. -/
def stepsOrderSpec : ChangeSpec := { name := "stepsOrder", fn := fun _ => fun
  | [d1, d2] => { results := [.lit (.bool true)], args := [d1, d2] }
  | _ => none }
def stepsOrderRow : OpenClaim := { program := "ytgpejfddaelobaa", sum := "160afd6a1a384d84fa9dbd94ab479ebd122834de21d0abd63296b2f269cdbe76", func := "drayage/drayagelaw10.StepsOrder", spec := "stepsOrder", inPlace := ["slices.overlaps[drayage/api.Step]"], unfollowed := true, recurses := true, apart := false }
def StepsOrderSaid : Prop := stepsOrderRow.holds Try.pinned (OpenSpec.ofChange stepsOrderSpec)

/-- ITS FALSE NEIGHBOUR: 'it returns false'. Refute it at one input. -/
def stepsOrderWrong : ChangeSpec := { name := "stepsOrder", fn := fun _ => fun
  | [d1, d2] => { results := [.lit (.bool false)], args := [d1, d2] }
  | _ => none }
def StepsOrderWrongFalsely : Prop := stepsOrderRow.holds Try.pinned (OpenSpec.ofChange stepsOrderWrong)

/-- 'drayagelaw10.StepsTells': WHATEVER THE INPUT: true; the input reads as it did. -/
def stepsTellsSpec : ChangeSpec := { name := "stepsTells", fn := fun _ => fun
  | [d1, d2, d3] => { results := [.lit (.bool true)], args := [d1, d2, d3] }
  | _ => none }
def stepsTellsRow : OpenClaim := { program := "ytgpejfddaelobaa", sum := "160afd6a1a384d84fa9dbd94ab479ebd122834de21d0abd63296b2f269cdbe76", func := "drayage/drayagelaw10.StepsTells", spec := "stepsTells", inPlace := ["slices.overlaps[drayage/api.Step]"], unfollowed := true, recurses := true, apart := false }
def StepsTellsSaid : Prop := stepsTellsRow.holds Try.pinned (OpenSpec.ofChange stepsTellsSpec)

/-- ITS FALSE NEIGHBOUR: 'it returns false'. Refute it at one input. -/
def stepsTellsWrong : ChangeSpec := { name := "stepsTells", fn := fun _ => fun
  | [d1, d2, d3] => { results := [.lit (.bool false)], args := [d1, d2, d3] }
  | _ => none }
def StepsTellsWrongFalsely : Prop := stepsTellsRow.holds Try.pinned (OpenSpec.ofChange stepsTellsWrong)

/-- 'drayagelaw10.StepsTurns': WHATEVER THE INPUT: true; the input reads as it did. -/
def stepsTurnsSpec : ChangeSpec := { name := "stepsTurns", fn := fun _ => fun
  | [d1, d2, d3] => { results := [.lit (.bool true)], args := [d1, d2, d3] }
  | _ => none }
def stepsTurnsRow : OpenClaim := { program := "ytgpejfddaelobaa", sum := "160afd6a1a384d84fa9dbd94ab479ebd122834de21d0abd63296b2f269cdbe76", func := "drayage/drayagelaw10.StepsTurns", spec := "stepsTurns", inPlace := ["slices.overlaps[drayage/api.Step]"], unfollowed := true, recurses := true, apart := false }
def StepsTurnsSaid : Prop := stepsTurnsRow.holds Try.pinned (OpenSpec.ofChange stepsTurnsSpec)

/-- ITS FALSE NEIGHBOUR: 'it returns false'. Refute it at one input. -/
def stepsTurnsWrong : ChangeSpec := { name := "stepsTurns", fn := fun _ => fun
  | [d1, d2, d3] => { results := [.lit (.bool false)], args := [d1, d2, d3] }
  | _ => none }
def StepsTurnsWrongFalsely : Prop := stepsTurnsRow.holds Try.pinned (OpenSpec.ofChange stepsTurnsWrong)

/-- 'drayagelaw10.StepsBack': WHATEVER THE INPUT: true; the input reads as it did. -/
def stepsBackSpec : ChangeSpec := { name := "stepsBack", fn := fun _ => fun
  | [d1, d2, d3] => { results := [.lit (.bool true)], args := [d1, d2, d3] }
  | _ => none }
def stepsBackRow : OpenClaim := { program := "ytgpejfddaelobaa", sum := "160afd6a1a384d84fa9dbd94ab479ebd122834de21d0abd63296b2f269cdbe76", func := "drayage/drayagelaw10.StepsBack", spec := "stepsBack", inPlace := ["slices.overlaps[drayage/api.Step]"], unfollowed := true, recurses := true, apart := false }
def StepsBackSaid : Prop := stepsBackRow.holds Try.pinned (OpenSpec.ofChange stepsBackSpec)

/-- ITS FALSE NEIGHBOUR: 'it returns false'. Refute it at one input. -/
def stepsBackWrong : ChangeSpec := { name := "stepsBack", fn := fun _ => fun
  | [d1, d2, d3] => { results := [.lit (.bool false)], args := [d1, d2, d3] }
  | _ => none }
def StepsBackWrongFalsely : Prop := stepsBackRow.holds Try.pinned (OpenSpec.ofChange stepsBackWrong)

/-- 'drayagelaw18.TableApart': WHATEVER THE INPUT: true; the input reads as it did. -/
def tableApartSpec : ChangeSpec := { name := "tableApart", fn := fun _ => fun
  | [d1, d2] => { results := [.lit (.bool true)], args := [d1, d2] }
  | _ => none }
def tableApartRow : OpenClaim := { program := "ytgpejfddaelobaa", sum := "160afd6a1a384d84fa9dbd94ab479ebd122834de21d0abd63296b2f269cdbe76", func := "drayage/drayagelaw18.TableApart", spec := "tableApart", inPlace := ["slices.overlaps[drayage/api.Job]"], unfollowed := true, recurses := true, apart := false }
def TableApartSaid : Prop := tableApartRow.holds Try.pinned (OpenSpec.ofChange tableApartSpec)

/-- ITS FALSE NEIGHBOUR: 'it returns false'. Refute it at one input. -/
def tableApartWrong : ChangeSpec := { name := "tableApart", fn := fun _ => fun
  | [d1, d2] => { results := [.lit (.bool false)], args := [d1, d2] }
  | _ => none }
def TableApartWrongFalsely : Prop := tableApartRow.holds Try.pinned (OpenSpec.ofChange tableApartWrong)

/-- 'drayagelaw18.TableDoes': WHATEVER THE INPUT: true; the input reads as it did. -/
def tableDoesSpec : ChangeSpec := { name := "tableDoes", fn := fun _ => fun
  | [d1, d2, d3] => { results := [.lit (.bool true)], args := [d1, d2, d3] }
  | _ => none }
def tableDoesRow : OpenClaim := { program := "ytgpejfddaelobaa", sum := "160afd6a1a384d84fa9dbd94ab479ebd122834de21d0abd63296b2f269cdbe76", func := "drayage/drayagelaw18.TableDoes", spec := "tableDoes", inPlace := ["slices.overlaps[drayage/api.Job]"], unfollowed := true, recurses := true, apart := false }
def TableDoesSaid : Prop := tableDoesRow.holds Try.pinned (OpenSpec.ofChange tableDoesSpec)

/-- ITS FALSE NEIGHBOUR: 'it returns false'. Refute it at one input. -/
def tableDoesWrong : ChangeSpec := { name := "tableDoes", fn := fun _ => fun
  | [d1, d2, d3] => { results := [.lit (.bool false)], args := [d1, d2, d3] }
  | _ => none }
def TableDoesWrongFalsely : Prop := tableDoesRow.holds Try.pinned (OpenSpec.ofChange tableDoesWrong)

/- THE SECOND FORM. 'bulk': how many values and letters a reading holds, each counted each time it is reached (what is shared counts as often as it is met; a slice's spare places count too). A statement '..UptoSaid' is the law's where the arguments, and the package variables that the reading takes, are together of bulk at most 1048576: NARROWER than '..Said'. Prove '..Said' where nothing that the law and all that it calls make is longer than what came in: it says more and counts as full. Else prove '..UptoSaid'. A law counts once. -/
mutual
def uptoBulk {H : Type} : DataW H → Nat
  | .lit (.string bytes) => bytes.length + 1
  | .lit _ => 1
  | .nil => 1
  | .ptr d => uptoBulk d + 1
  | .slice elems spare => uptoBulkAll elems + uptoBulkAll spare + 1
  | .agg parts => uptoBulkAll parts + 1
  | .iface _ d => uptoBulk d + 1
  | .map entries => uptoBulkEntries entries + 1
  | .held _ => 1
def uptoBulkAll {H : Type} : List (DataW H) → Nat
  | [] => 0
  | d :: r => uptoBulk d + uptoBulkAll r
def uptoBulkEntries {H : Type} : List (Lit × DataW H) → Nat
  | [] => 0
  | x :: r => uptoBulkEntry x + uptoBulkEntries r
def uptoBulkEntry {H : Type} : Lit × DataW H → Nat
  | (.string bytes, d) => bytes.length + uptoBulk d + 1
  | (_, d) => uptoBulk d + 1
 end
def uptoSmall : (H : Type) → List (DataW H) → Bool := fun _ ds => decide (uptoBulkAll ds ≤ 1048576)
def OpenSpec.upto (s : _root_.Go.ChangeSpec) : _root_.Go.OpenSpec := { _root_.Go.OpenSpec.ofChange s with cond := some uptoSmall }

/-- 'drayagelaw08.AskSame', WHERE WHAT IT READS IS OF BULK AT MOST 1048576: true; the input reads as it did. -/
def askSameUptoRow : OpenClaim := { program := "ytgpejfddaelobaa", sum := "160afd6a1a384d84fa9dbd94ab479ebd122834de21d0abd63296b2f269cdbe76", func := "drayage/drayagelaw08.AskSame", spec := "askSame", apart := false, narrowed := true }
def AskSameUptoSaid : Prop := askSameUptoRow.holds Try.pinned (OpenSpec.upto askSameSpec)

/-- 'drayagelaw09.ReplyReads', WHERE WHAT IT READS IS OF BULK AT MOST 1048576: true; the input reads as it did. -/
def replyReadsUptoRow : OpenClaim := { program := "ytgpejfddaelobaa", sum := "160afd6a1a384d84fa9dbd94ab479ebd122834de21d0abd63296b2f269cdbe76", func := "drayage/drayagelaw09.ReplyReads", spec := "replyReads", recurses := true, apart := false, narrowed := true }
def ReplyReadsUptoSaid : Prop := replyReadsUptoRow.holds Try.pinned (OpenSpec.upto replyReadsSpec)

/-- 'drayagelaw08.AskWrites', WHERE WHAT IT READS IS OF BULK AT MOST 1048576: true; the input reads as it did. -/
def askWritesUptoRow : OpenClaim := { program := "ytgpejfddaelobaa", sum := "160afd6a1a384d84fa9dbd94ab479ebd122834de21d0abd63296b2f269cdbe76", func := "drayage/drayagelaw08.AskWrites", spec := "askWrites", recurses := true, apart := false, narrowed := true }
def AskWritesUptoSaid : Prop := askWritesUptoRow.holds Try.pinned (OpenSpec.upto askWritesSpec)

/-- 'drayagelaw08.AskReads', WHERE WHAT IT READS IS OF BULK AT MOST 1048576: true; the input reads as it did. -/
def askReadsUptoRow : OpenClaim := { program := "ytgpejfddaelobaa", sum := "160afd6a1a384d84fa9dbd94ab479ebd122834de21d0abd63296b2f269cdbe76", func := "drayage/drayagelaw08.AskReads", spec := "askReads", recurses := true, apart := false, narrowed := true }
def AskReadsUptoSaid : Prop := askReadsUptoRow.holds Try.pinned (OpenSpec.upto askReadsSpec)

/-- 'drayagelaw10.StepsOrder', WHERE WHAT IT READS IS OF BULK AT MOST 1048576: true; the input reads as it did. -/
def stepsOrderUptoRow : OpenClaim := { program := "ytgpejfddaelobaa", sum := "160afd6a1a384d84fa9dbd94ab479ebd122834de21d0abd63296b2f269cdbe76", func := "drayage/drayagelaw10.StepsOrder", spec := "stepsOrder", inPlace := ["slices.overlaps[drayage/api.Step]"], unfollowed := true, recurses := true, apart := false, narrowed := true }
def StepsOrderUptoSaid : Prop := stepsOrderUptoRow.holds Try.pinned (OpenSpec.upto stepsOrderSpec)

/-- 'drayagelaw10.StepsTells', WHERE WHAT IT READS IS OF BULK AT MOST 1048576: true; the input reads as it did. -/
def stepsTellsUptoRow : OpenClaim := { program := "ytgpejfddaelobaa", sum := "160afd6a1a384d84fa9dbd94ab479ebd122834de21d0abd63296b2f269cdbe76", func := "drayage/drayagelaw10.StepsTells", spec := "stepsTells", inPlace := ["slices.overlaps[drayage/api.Step]"], unfollowed := true, recurses := true, apart := false, narrowed := true }
def StepsTellsUptoSaid : Prop := stepsTellsUptoRow.holds Try.pinned (OpenSpec.upto stepsTellsSpec)

/-- 'drayagelaw10.StepsTurns', WHERE WHAT IT READS IS OF BULK AT MOST 1048576: true; the input reads as it did. -/
def stepsTurnsUptoRow : OpenClaim := { program := "ytgpejfddaelobaa", sum := "160afd6a1a384d84fa9dbd94ab479ebd122834de21d0abd63296b2f269cdbe76", func := "drayage/drayagelaw10.StepsTurns", spec := "stepsTurns", inPlace := ["slices.overlaps[drayage/api.Step]"], unfollowed := true, recurses := true, apart := false, narrowed := true }
def StepsTurnsUptoSaid : Prop := stepsTurnsUptoRow.holds Try.pinned (OpenSpec.upto stepsTurnsSpec)

/-- 'drayagelaw10.StepsBack', WHERE WHAT IT READS IS OF BULK AT MOST 1048576: true; the input reads as it did. -/
def stepsBackUptoRow : OpenClaim := { program := "ytgpejfddaelobaa", sum := "160afd6a1a384d84fa9dbd94ab479ebd122834de21d0abd63296b2f269cdbe76", func := "drayage/drayagelaw10.StepsBack", spec := "stepsBack", inPlace := ["slices.overlaps[drayage/api.Step]"], unfollowed := true, recurses := true, apart := false, narrowed := true }
def StepsBackUptoSaid : Prop := stepsBackUptoRow.holds Try.pinned (OpenSpec.upto stepsBackSpec)

/-- 'drayagelaw18.TableApart', WHERE WHAT IT READS IS OF BULK AT MOST 1048576: true; the input reads as it did. -/
def tableApartUptoRow : OpenClaim := { program := "ytgpejfddaelobaa", sum := "160afd6a1a384d84fa9dbd94ab479ebd122834de21d0abd63296b2f269cdbe76", func := "drayage/drayagelaw18.TableApart", spec := "tableApart", inPlace := ["slices.overlaps[drayage/api.Job]"], unfollowed := true, recurses := true, apart := false, narrowed := true }
def TableApartUptoSaid : Prop := tableApartUptoRow.holds Try.pinned (OpenSpec.upto tableApartSpec)

/-- 'drayagelaw18.TableDoes', WHERE WHAT IT READS IS OF BULK AT MOST 1048576: true; the input reads as it did. -/
def tableDoesUptoRow : OpenClaim := { program := "ytgpejfddaelobaa", sum := "160afd6a1a384d84fa9dbd94ab479ebd122834de21d0abd63296b2f269cdbe76", func := "drayage/drayagelaw18.TableDoes", spec := "tableDoes", inPlace := ["slices.overlaps[drayage/api.Job]"], unfollowed := true, recurses := true, apart := false, narrowed := true }
def TableDoesUptoSaid : Prop := tableDoesUptoRow.holds Try.pinned (OpenSpec.upto tableDoesSpec)

end Rows
end Go.Proofs.Ytgpejfddaelobaa
