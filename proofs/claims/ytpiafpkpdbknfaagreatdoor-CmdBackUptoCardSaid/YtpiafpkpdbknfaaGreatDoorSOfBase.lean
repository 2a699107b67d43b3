/- cmd.of: a lemma. Conditions: those in each statement. -/
import Derived.Test.YtpiafpkpdbknfaaGreatDoorSParse
namespace Go.Proofs.YtpiafpkpdbknfaaGreatDoor.Sup
open Go.RowKit Go.Proofs.YtpiafpkpdbknfaaGreatDoorW.PrintWords Go.Proofs.YtpiafpkpdbknfaaGreatDoorW.PrintLast Go.Proofs.YtpiafpkpdbknfaaGreatDoorW.PrintMore
attribute [local go_sem] max2_int min2_int max_two min_two max_three min_three max_four min_four
set_option linter.unusedVariables false
set_option linter.unusedSimpArgs false
theorem dst_ne {d : ByteArray} (h : d ≠ ByteArray.empty) : (d.toList == []) = false := by
  refine beq_eq_false_iff_ne.2 (fun e => h ?_)
  rw [ByteArray.toList_eq] at e
  exact ByteArray.ext (Array.ext' e)
end Go.Proofs.YtpiafpkpdbknfaaGreatDoor.Sup
