/- smithyref02.Name walked. Conditions: those in each statement. -/
import Derived.Test.YtpiafpkpdbknfaaGreatDoorSParse
namespace Go.Proofs.YtpiafpkpdbknfaaGreatDoor.Sup
open Go.RowKit Go.Proofs.YtpiafpkpdbknfaaGreatDoorW.PrintWords Go.Proofs.YtpiafpkpdbknfaaGreatDoorW.PrintLast Go.Proofs.YtpiafpkpdbknfaaGreatDoorW.PrintMore
set_option linter.unusedVariables false
set_option linter.unusedSimpArgs false
/-- The bytes of names. -/
def nameN (n : Int) : Bool := (decide (97 ≤ n) && decide (n ≤ 122)) || (decide (65 ≤ n) && decide (n ≤ 90)) || (decide (48 ≤ n) && decide (n ≤ 57)) || n == 95 || n == 45 || n == 46 || n == 47 || n == 43
def nameC (c : UInt8) : Bool := nameN (c.toNat : Int)
end Go.Proofs.YtpiafpkpdbknfaaGreatDoor.Sup
