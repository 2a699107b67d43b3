/-
  DERIVED. GIVEN WITH THE SEED: THE CARDS: each row of YtepdiooaoegpfaaGreatDoorRows.lean that lists a variable, with what it lists TIED to the program's text (the seventh form; the later family's looks); each row that meets fmt, with fmt's text TOLD by the authors' own Lean function (tested against real Go, not proved from fmt's source: count such statements apart). THE CARD IS WHAT COUNTS. Prove the row's statement (the work); the ties are given (YtepdiooaoegpfaaGreatDoorTie.lean); close each card by the builder's one call (the guide's Derived/Test/ToyasCard.lean, 'card_holds'). Laid BY PROGRAM, IN A SANDBOX (cutbox-door.mjs). By AI agents, Wed Nov 11 2026. No macro, syntax, notation, axiom, sorry.
-/
import Derived.Test.YtepdiooaoegpfaaGreatDoorRows
import GoSem.ClaimSeven
namespace Go.Proofs.YtepdiooaoegpfaaGreatDoor
namespace Rows

/-- THE TIED CARD OF 'smithylaw17.ExecDoes'. -/
def execDoesCard : Claim7 := { stood := { row := execDoesRow, standIns := [], harness := (true, "4f4cfe2227bd96da3aa8c959e33498803df2c11e7e7ffbad8411c265c92a5353"), looks := true }, kinds := [], alts := [], laidByText := true, laidKinds := [.data, .data, .data, .sentinel, .sentinel], laidTests := true, laidLooks := .later }
def ExecDoesCardSaid : Prop := Claim7.holds Tryz.pinned (.plain (OpenSpec.ofChange execDoesSpec)) execDoesCard

/-- THE TIED CARD OF 'smithylaw17.ExecKeeps'. -/
def execKeepsCard : Claim7 := { stood := { row := execKeepsRow, standIns := [], harness := (true, "4f4cfe2227bd96da3aa8c959e33498803df2c11e7e7ffbad8411c265c92a5353"), looks := true }, kinds := [], alts := [], laidByText := true, laidKinds := [.data, .data, .data, .sentinel, .sentinel], laidTests := true, laidLooks := .later }
def ExecKeepsCardSaid : Prop := Claim7.holds Tryz.pinned (.plain (OpenSpec.ofChange execKeepsSpec)) execKeepsCard

/-- THE TIED CARD OF 'smithylaw17.ExecHangs'. -/
def execHangsCard : Claim7 := { stood := { row := execHangsRow, standIns := [], harness := (true, "4f4cfe2227bd96da3aa8c959e33498803df2c11e7e7ffbad8411c265c92a5353"), looks := true }, kinds := [], alts := [], laidByText := true, laidKinds := [.data, .data, .data, .sentinel, .sentinel], laidTests := true, laidLooks := .later }
def ExecHangsCardSaid : Prop := Claim7.holds Tryz.pinned (.plain (OpenSpec.ofChange execHangsSpec)) execHangsCard

/-- THE TIED CARD OF 'smithylaw17.ExecMays'. -/
def execMaysCard : Claim7 := { stood := { row := execMaysRow, standIns := [], harness := (true, "4f4cfe2227bd96da3aa8c959e33498803df2c11e7e7ffbad8411c265c92a5353"), looks := true }, kinds := [], alts := [], laidByText := true, laidKinds := [.data, .data, .data, .sentinel, .sentinel], laidTests := true, laidLooks := .later }
def ExecMaysCardSaid : Prop := Claim7.holds Tryz.pinned (.plain (OpenSpec.ofChange execMaysSpec)) execMaysCard

/-- THE TIED CARD OF 'smithylaw17.ExecScripted'. -/
def execScriptedCard : Claim7 := { stood := { row := execScriptedRow, standIns := [], harness := (true, "4f4cfe2227bd96da3aa8c959e33498803df2c11e7e7ffbad8411c265c92a5353"), looks := true }, kinds := [], alts := [], laidByText := true, laidKinds := [.data, .data, .data, .sentinel, .sentinel], laidTests := true, laidLooks := .later }
def ExecScriptedCardSaid : Prop := Claim7.holds Tryz.pinned (.plain (OpenSpec.ofChange execScriptedSpec)) execScriptedCard

/-- THE SECOND FORM's CARD OF 'smithylaw17.ExecDoes'. -/
def execDoesUptoCard : Claim7 := { stood := { row := execDoesUptoRow, standIns := [], harness := (true, "4f4cfe2227bd96da3aa8c959e33498803df2c11e7e7ffbad8411c265c92a5353"), looks := true }, kinds := [], alts := [], laidByText := true, laidKinds := [.data, .data, .data, .sentinel, .sentinel], laidTests := true, laidLooks := .later }
def ExecDoesUptoCardSaid : Prop := Claim7.holds Tryz.pinned (.plain (OpenSpec.upto execDoesSpec)) execDoesUptoCard

/-- THE SECOND FORM's CARD OF 'smithylaw17.ExecKeeps'. -/
def execKeepsUptoCard : Claim7 := { stood := { row := execKeepsUptoRow, standIns := [], harness := (true, "4f4cfe2227bd96da3aa8c959e33498803df2c11e7e7ffbad8411c265c92a5353"), looks := true }, kinds := [], alts := [], laidByText := true, laidKinds := [.data, .data, .data, .sentinel, .sentinel], laidTests := true, laidLooks := .later }
def ExecKeepsUptoCardSaid : Prop := Claim7.holds Tryz.pinned (.plain (OpenSpec.upto execKeepsSpec)) execKeepsUptoCard

/-- THE SECOND FORM's CARD OF 'smithylaw17.ExecHangs'. -/
def execHangsUptoCard : Claim7 := { stood := { row := execHangsUptoRow, standIns := [], harness := (true, "4f4cfe2227bd96da3aa8c959e33498803df2c11e7e7ffbad8411c265c92a5353"), looks := true }, kinds := [], alts := [], laidByText := true, laidKinds := [.data, .data, .data, .sentinel, .sentinel], laidTests := true, laidLooks := .later }
def ExecHangsUptoCardSaid : Prop := Claim7.holds Tryz.pinned (.plain (OpenSpec.upto execHangsSpec)) execHangsUptoCard

/-- THE SECOND FORM's CARD OF 'smithylaw17.ExecMays'. -/
def execMaysUptoCard : Claim7 := { stood := { row := execMaysUptoRow, standIns := [], harness := (true, "4f4cfe2227bd96da3aa8c959e33498803df2c11e7e7ffbad8411c265c92a5353"), looks := true }, kinds := [], alts := [], laidByText := true, laidKinds := [.data, .data, .data, .sentinel, .sentinel], laidTests := true, laidLooks := .later }
def ExecMaysUptoCardSaid : Prop := Claim7.holds Tryz.pinned (.plain (OpenSpec.upto execMaysSpec)) execMaysUptoCard

/-- THE SECOND FORM's CARD OF 'smithylaw17.ExecScripted'. -/
def execScriptedUptoCard : Claim7 := { stood := { row := execScriptedUptoRow, standIns := [], harness := (true, "4f4cfe2227bd96da3aa8c959e33498803df2c11e7e7ffbad8411c265c92a5353"), looks := true }, kinds := [], alts := [], laidByText := true, laidKinds := [.data, .data, .data, .sentinel, .sentinel], laidTests := true, laidLooks := .later }
def ExecScriptedUptoCardSaid : Prop := Claim7.holds Tryz.pinned (.plain (OpenSpec.upto execScriptedSpec)) execScriptedUptoCard
end Rows
end Go.Proofs.YtepdiooaoegpfaaGreatDoor
