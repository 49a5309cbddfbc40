/-
  DERIVED. GIVEN WITH THE SEED: THE CARDS: each row of YtpogjlhgbdpnbaaGreatDoorRows.lean that lists a variable, with what it lists TIED to the program's text (the seventh form; the later family's looks); each row that meets fmt, with fmt's text TOLD by the authors' own Lean function (tested against real Go, not proved from fmt's source: count such statements apart). THE CARD IS WHAT COUNTS. Prove the row's statement (the work); the ties are given (YtpogjlhgbdpnbaaGreatDoorTie.lean); close each card by the builder's one call (the guide's Derived/Test/ToyasCard.lean, 'card_holds'). Laid BY PROGRAM, IN A SANDBOX (cutbox-door.mjs). By AI agents, Wed Nov 11 2026. No macro, syntax, notation, axiom, sorry.
-/
import Derived.Test.YtpogjlhgbdpnbaaGreatDoorRows
import GoSem.ClaimSeven
namespace Go.Proofs.YtpogjlhgbdpnbaaGreatDoor
namespace Rows

/-- THE TIED CARD OF 'drayagelaw44.ScriptLines'. -/
def scriptLinesCard : Claim7 := { stood := { row := scriptLinesRow, standIns := [], harness := (true, "beedd42a53d3e1f08d3b973aae9b58e6e835b961c1c220f59be509a2120f9d64"), looks := true }, kinds := [], alts := [], laidByText := true, laidKinds := [.data, .data, .data, .data, .data, .data, .pinned], laidTests := true, laidLooks := .later }
def ScriptLinesCardSaid : Prop := Claim7.holds Tryz.pinned (.plain (OpenSpec.ofChange scriptLinesSpec)) scriptLinesCard

/-- THE TIED CARD OF 'drayagelaw44.ScriptReads'. -/
def scriptReadsCard : Claim7 := { stood := { row := scriptReadsRow, standIns := [], harness := (true, "beedd42a53d3e1f08d3b973aae9b58e6e835b961c1c220f59be509a2120f9d64"), looks := true }, kinds := [], alts := [], laidByText := true, laidKinds := [.data, .data, .data, .data, .data, .data, .pinned], laidTests := true, laidLooks := .later }
def ScriptReadsCardSaid : Prop := Claim7.holds Tryz.pinned (.plain (OpenSpec.ofChange scriptReadsSpec)) scriptReadsCard

/-- THE TIED CARD OF 'drayagelaw07.SpecTexts'. -/
def specTextsCard : Claim7 := { stood := { row := specTextsRow, standIns := [], harness := (true, "beedd42a53d3e1f08d3b973aae9b58e6e835b961c1c220f59be509a2120f9d64"), looks := true }, kinds := [], alts := [], laidByText := true, laidKinds := [.data, .data, .data, .data, .sentinel, .sentinel, .pinned], laidTests := true, laidLooks := .later }
def SpecTextsCardSaid : Prop := Claim7.holds Tryz.pinned (.plain (OpenSpec.ofChange specTextsSpec)) specTextsCard

/-- THE TIED CARD OF 'drayagelaw48.LotSays'. -/
def lotSaysCard : Claim7 := { stood := { row := lotSaysRow, standIns := [], harness := (true, "beedd42a53d3e1f08d3b973aae9b58e6e835b961c1c220f59be509a2120f9d64"), looks := true }, kinds := [], alts := [], laidByText := true, laidKinds := [.data, .data, .data, .data, .data, .data, .pinned], laidTests := true, laidLooks := .later }
def LotSaysCardSaid : Prop := Claim7.holds Tryz.pinned (.plain (OpenSpec.ofChange lotSaysSpec)) lotSaysCard

/-- THE SECOND FORM's CARD OF 'drayagelaw44.ScriptLines'. -/
def scriptLinesUptoCard : Claim7 := { stood := { row := scriptLinesUptoRow, standIns := [], harness := (true, "beedd42a53d3e1f08d3b973aae9b58e6e835b961c1c220f59be509a2120f9d64"), looks := true }, kinds := [], alts := [], laidByText := true, laidKinds := [.data, .data, .data, .data, .data, .data, .pinned], laidTests := true, laidLooks := .later }
def ScriptLinesUptoCardSaid : Prop := Claim7.holds Tryz.pinned (.plain (OpenSpec.upto scriptLinesSpec)) scriptLinesUptoCard

/-- THE SECOND FORM's CARD OF 'drayagelaw44.ScriptReads'. -/
def scriptReadsUptoCard : Claim7 := { stood := { row := scriptReadsUptoRow, standIns := [], harness := (true, "beedd42a53d3e1f08d3b973aae9b58e6e835b961c1c220f59be509a2120f9d64"), looks := true }, kinds := [], alts := [], laidByText := true, laidKinds := [.data, .data, .data, .data, .data, .data, .pinned], laidTests := true, laidLooks := .later }
def ScriptReadsUptoCardSaid : Prop := Claim7.holds Tryz.pinned (.plain (OpenSpec.upto scriptReadsSpec)) scriptReadsUptoCard

/-- THE SECOND FORM's CARD OF 'drayagelaw07.SpecTexts'. -/
def specTextsUptoCard : Claim7 := { stood := { row := specTextsUptoRow, standIns := [], harness := (true, "beedd42a53d3e1f08d3b973aae9b58e6e835b961c1c220f59be509a2120f9d64"), looks := true }, kinds := [], alts := [], laidByText := true, laidKinds := [.data, .data, .data, .data, .sentinel, .sentinel, .pinned], laidTests := true, laidLooks := .later }
def SpecTextsUptoCardSaid : Prop := Claim7.holds Tryz.pinned (.plain (OpenSpec.upto specTextsSpec)) specTextsUptoCard

/-- THE SECOND FORM's CARD OF 'drayagelaw48.LotSays'. -/
def lotSaysUptoCard : Claim7 := { stood := { row := lotSaysUptoRow, standIns := [], harness := (true, "beedd42a53d3e1f08d3b973aae9b58e6e835b961c1c220f59be509a2120f9d64"), looks := true }, kinds := [], alts := [], laidByText := true, laidKinds := [.data, .data, .data, .data, .data, .data, .pinned], laidTests := true, laidLooks := .later }
def LotSaysUptoCardSaid : Prop := Claim7.holds Tryz.pinned (.plain (OpenSpec.upto lotSaysSpec)) lotSaysUptoCard
end Rows
end Go.Proofs.YtpogjlhgbdpnbaaGreatDoor
