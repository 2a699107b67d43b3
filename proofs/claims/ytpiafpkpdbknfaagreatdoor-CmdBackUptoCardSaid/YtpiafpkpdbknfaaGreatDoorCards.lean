/-
  DERIVED. GIVEN WITH THE SEED: THE CARDS: each row of YtpiafpkpdbknfaaGreatDoorRows.lean that lists a variable, with what it lists TIED to the program's text (the seventh form; the later family's looks); each row that meets fmt, with fmt's text TOLD by the authors' own Lean function (tested against real Go, not proved from fmt's source: count such statements apart). THE CARD IS WHAT COUNTS. Prove the row's statement (the work); the ties are given (YtpiafpkpdbknfaaGreatDoorTie.lean); close each card by the builder's one call (the guide's Derived/Test/ToyasCard.lean, 'card_holds'). Laid BY PROGRAM, IN A SANDBOX (cutbox-door.mjs). By AI agents, Wed Nov 11 2026. No macro, syntax, notation, axiom, sorry.
-/
import Derived.Test.YtpiafpkpdbknfaaGreatDoorRows
import GoSem.ClaimSeven
namespace Go.Proofs.YtpiafpkpdbknfaaGreatDoor
namespace Rows

/-- THE TIED CARD OF 'smithylaw16.CmdParses'. -/
def cmdParsesCard : Claim7 := { stood := { row := cmdParsesRow, standIns := [], harness := (true, "893b24a5c609c2765df808e2ddc22b8a18cdfd69316d85863f15987887b43420"), looks := true }, kinds := [], alts := [], laidByText := true, laidKinds := [.data, .data, .data, .sentinel, .sentinel], laidTests := true, laidLooks := .later }
def CmdParsesCardSaid : Prop := Claim7.holds Tryz.pinned (.plain (OpenSpec.ofChange cmdParsesSpec)) cmdParsesCard

/-- THE TIED CARD OF 'smithylaw16.CmdLines'. -/
def cmdLinesCard : Claim7 := { stood := { row := cmdLinesRow, standIns := [], harness := (true, "893b24a5c609c2765df808e2ddc22b8a18cdfd69316d85863f15987887b43420"), looks := true }, kinds := [], alts := [], laidByText := true, laidKinds := [.data, .data, .data, .sentinel, .sentinel], laidTests := true, laidLooks := .later }
def CmdLinesCardSaid : Prop := Claim7.holds Tryz.pinned (.plain (OpenSpec.ofChange cmdLinesSpec)) cmdLinesCard

/-- THE TIED CARD OF 'smithylaw16.CmdSides'. -/
def cmdSidesCard : Claim7 := { stood := { row := cmdSidesRow, standIns := [], harness := (true, "893b24a5c609c2765df808e2ddc22b8a18cdfd69316d85863f15987887b43420"), looks := true }, kinds := [], alts := [], laidByText := true, laidKinds := [.data, .data, .data, .sentinel, .sentinel], laidTests := true, laidLooks := .later }
def CmdSidesCardSaid : Prop := Claim7.holds Tryz.pinned (.plain (OpenSpec.ofChange cmdSidesSpec)) cmdSidesCard

/-- THE TIED CARD OF 'smithylaw16.CmdAgain'. -/
def cmdAgainCard : Claim7 := { stood := { row := cmdAgainRow, standIns := [], harness := (true, "893b24a5c609c2765df808e2ddc22b8a18cdfd69316d85863f15987887b43420"), looks := true }, kinds := [], alts := [], laidByText := true, laidKinds := [.data, .data, .data, .sentinel, .sentinel], laidTests := true, laidLooks := .later }
def CmdAgainCardSaid : Prop := Claim7.holds Tryz.pinned (.plain (OpenSpec.ofChange cmdAgainSpec)) cmdAgainCard

/-- THE TIED CARD OF 'smithylaw16.CmdBack'. -/
def cmdBackCard : Claim7 := { stood := { row := cmdBackRow, standIns := [], harness := (true, "893b24a5c609c2765df808e2ddc22b8a18cdfd69316d85863f15987887b43420"), looks := true }, kinds := [], alts := [], laidByText := true, laidKinds := [.data, .data, .data, .sentinel, .sentinel], laidTests := true, laidLooks := .later }
def CmdBackCardSaid : Prop := Claim7.holds Tryz.pinned (.plain (OpenSpec.ofChange cmdBackSpec)) cmdBackCard

/-- THE TIED CARD OF 'smithylaw16.CmdChecks'. -/
def cmdChecksCard : Claim7 := { stood := { row := cmdChecksRow, standIns := [], harness := (true, "893b24a5c609c2765df808e2ddc22b8a18cdfd69316d85863f15987887b43420"), looks := true }, kinds := [], alts := [], laidByText := true, laidKinds := [.data, .data, .data, .sentinel, .sentinel], laidTests := true, laidLooks := .later }
def CmdChecksCardSaid : Prop := Claim7.holds Tryz.pinned (.plain (OpenSpec.ofChange cmdChecksSpec)) cmdChecksCard

/-- THE SECOND FORM's CARD OF 'smithylaw16.CmdParses'. -/
def cmdParsesUptoCard : Claim7 := { stood := { row := cmdParsesUptoRow, standIns := [], harness := (true, "893b24a5c609c2765df808e2ddc22b8a18cdfd69316d85863f15987887b43420"), looks := true }, kinds := [], alts := [], laidByText := true, laidKinds := [.data, .data, .data, .sentinel, .sentinel], laidTests := true, laidLooks := .later }
def CmdParsesUptoCardSaid : Prop := Claim7.holds Tryz.pinned (.plain (OpenSpec.upto cmdParsesSpec)) cmdParsesUptoCard

/-- THE SECOND FORM's CARD OF 'smithylaw16.CmdLines'. -/
def cmdLinesUptoCard : Claim7 := { stood := { row := cmdLinesUptoRow, standIns := [], harness := (true, "893b24a5c609c2765df808e2ddc22b8a18cdfd69316d85863f15987887b43420"), looks := true }, kinds := [], alts := [], laidByText := true, laidKinds := [.data, .data, .data, .sentinel, .sentinel], laidTests := true, laidLooks := .later }
def CmdLinesUptoCardSaid : Prop := Claim7.holds Tryz.pinned (.plain (OpenSpec.upto cmdLinesSpec)) cmdLinesUptoCard

/-- THE SECOND FORM's CARD OF 'smithylaw16.CmdSides'. -/
def cmdSidesUptoCard : Claim7 := { stood := { row := cmdSidesUptoRow, standIns := [], harness := (true, "893b24a5c609c2765df808e2ddc22b8a18cdfd69316d85863f15987887b43420"), looks := true }, kinds := [], alts := [], laidByText := true, laidKinds := [.data, .data, .data, .sentinel, .sentinel], laidTests := true, laidLooks := .later }
def CmdSidesUptoCardSaid : Prop := Claim7.holds Tryz.pinned (.plain (OpenSpec.upto cmdSidesSpec)) cmdSidesUptoCard

/-- THE SECOND FORM's CARD OF 'smithylaw16.CmdAgain'. -/
def cmdAgainUptoCard : Claim7 := { stood := { row := cmdAgainUptoRow, standIns := [], harness := (true, "893b24a5c609c2765df808e2ddc22b8a18cdfd69316d85863f15987887b43420"), looks := true }, kinds := [], alts := [], laidByText := true, laidKinds := [.data, .data, .data, .sentinel, .sentinel], laidTests := true, laidLooks := .later }
def CmdAgainUptoCardSaid : Prop := Claim7.holds Tryz.pinned (.plain (OpenSpec.upto cmdAgainSpec)) cmdAgainUptoCard

/-- THE SECOND FORM's CARD OF 'smithylaw16.CmdBack'. -/
def cmdBackUptoCard : Claim7 := { stood := { row := cmdBackUptoRow, standIns := [], harness := (true, "893b24a5c609c2765df808e2ddc22b8a18cdfd69316d85863f15987887b43420"), looks := true }, kinds := [], alts := [], laidByText := true, laidKinds := [.data, .data, .data, .sentinel, .sentinel], laidTests := true, laidLooks := .later }
def CmdBackUptoCardSaid : Prop := Claim7.holds Tryz.pinned (.plain (OpenSpec.upto cmdBackSpec)) cmdBackUptoCard

/-- THE SECOND FORM's CARD OF 'smithylaw16.CmdChecks'. -/
def cmdChecksUptoCard : Claim7 := { stood := { row := cmdChecksUptoRow, standIns := [], harness := (true, "893b24a5c609c2765df808e2ddc22b8a18cdfd69316d85863f15987887b43420"), looks := true }, kinds := [], alts := [], laidByText := true, laidKinds := [.data, .data, .data, .sentinel, .sentinel], laidTests := true, laidLooks := .later }
def CmdChecksUptoCardSaid : Prop := Claim7.holds Tryz.pinned (.plain (OpenSpec.upto cmdChecksSpec)) cmdChecksUptoCard
end Rows
end Go.Proofs.YtpiafpkpdbknfaaGreatDoor
