/- Written by a program of this session: for Go functions that the law reaches, what each answers (F.f) and that it answers so (F.calls). Conditions: none beyond those in each statement. -/
import Derived.Test.YtpiafpkpdbknfaaGreatDoorProg
import Derived.Below
import Derived.Deep.Draws
import Derived.Deep.AppendLies
import Derived.Maps.AppendAt
import Derived.OwnWalk
import Derived.Laws.BytesArg
import Derived.Laws.MakeOwn
import Derived.Laws.OwnMore
import Derived.Deep.OwnRows
import Derived.Tactics
import Derived.Lib.ConvBytes
import Derived.Laws.Slices
import Derived.WalkKit
import Derived.KernelRfl
import Derived.RowKit3
import Derived.Deep.LoopGhost
import Derived.Deep.QuietTactic
import Derived.BigQuiet
import Derived.WideLaws
import Derived.Deep.DeepCutAuto
import Derived.Deep.CutBlock
import Derived.Deep.RegionHeld3
import Derived.Laws.Rows
import Derived.Lib.AppendStr
import Derived.ArgAppend
import Derived.Laws.IdiomCopy
import Derived.OrdersHeld
import Derived.Laws.BitsLemmas
import Derived.RowKit
import Derived.Test.YtpiafpkpdbknfaaGreatDoorWWords
import Derived.Test.YtpiafpkpdbknfaaGreatDoorLib
import Derived.Test.YtpiafpkpdbknfaaGreatDoorShelf
import Derived.Test.YtpiafpkpdbknfaaGreatDoorSParse
import Derived.Test.YtpiafpkpdbknfaaGreatDoorSParseLow
import Derived.Test.YtpiafpkpdbknfaaGreatDoorSParseOne
import Derived.Test.YtpiafpkpdbknfaaGreatDoorSParseTwo
import Derived.Test.YtpiafpkpdbknfaaGreatDoorSParseFail
import Derived.Test.YtpiafpkpdbknfaaGreatDoorSLexQuoted
import Derived.Test.YtpiafpkpdbknfaaGreatDoorSIndexAny
import Derived.Test.YtpiafpkpdbknfaaGreatDoorSSpeaks
import Derived.Test.YtpiafpkpdbknfaaGreatDoorSSay1
import Derived.Test.YtpiafpkpdbknfaaGreatDoorSOf1
import Derived.Test.YtpiafpkpdbknfaaGreatDoorSOfGood
import Derived.Test.YtpiafpkpdbknfaaGreatDoorSOfBad
import Derived.Test.YtpiafpkpdbknfaaGreatDoorSOfBads
import Derived.Test.YtpiafpkpdbknfaaGreatDoorSSayTold
import Derived.Test.YtpiafpkpdbknfaaGreatDoorSSayCheck
import Derived.Test.YtpiafpkpdbknfaaGreatDoorSAtoi
import Derived.Test.YtpiafpkpdbknfaaGreatDoorSSayWords
import Derived.Test.YtpiafpkpdbknfaaGreatDoorSQuoteWalk
import Derived.Test.YtpiafpkpdbknfaaGreatDoorSBridge
import Derived.Test.YtpiafpkpdbknfaaGreatDoorSLawBack
namespace Go.Proofs.YtpiafpkpdbknfaaGreatDoor.PCmdBack
open Go.RowKit Go.Proofs.YtpiafpkpdbknfaaGreatDoorW.PrintWords Go.Proofs.YtpiafpkpdbknfaaGreatDoorW.PrintLast Go.Proofs.YtpiafpkpdbknfaaGreatDoorW.PrintMore
attribute [local go_sem] max2_int min2_int max_two min_two max_three min_three max_four min_four   -- for this text's walks alone
set_option linter.unusedVariables false
set_option linter.unusedSimpArgs false



def errW : Option Int → Value
  | none => .nilIface
  | some c => .iface 0 (.int .i64 c)
theorem errW_none : errW none = .nilIface := rfl
theorem errW_some (c : Int) : errW (some c) = .iface 0 (.int .i64 c) := rfl

theorem info9 : (Tryz.prog.info? 9).map (fun i => (i.zero, i.size, i.bytes)) = some (some (.string ⟨#[]⟩), 1, 16) := by kernel_rfl
end Go.Proofs.YtpiafpkpdbknfaaGreatDoor.PCmdBack
