/- Written by a program of this session: for Go functions that the law reaches, what each answers (F.f) and that it answers so (F.calls). Conditions: none beyond those in each statement. -/
import Derived.Test.YtpiafpkpdbknfaaProg
import Derived.Below
import Derived.Deep.Draws
import Derived.Deep.AppendLies
import Derived.Maps.AppendAt
import Derived.OwnWalk
import Derived.Laws.BytesArg
import Derived.Laws.MakeOwn
import Derived.Laws.OwnMore
import Derived.Deep.OwnRows
import Derived.Tactics
import Derived.Lib.ConvBytes
import Derived.Laws.Slices
import Derived.WalkKit
import Derived.KernelRfl
import Derived.RowKit3
import Derived.Deep.LoopGhost
import Derived.Deep.QuietTactic
import Derived.BigQuiet
import Derived.WideLaws
import Derived.Deep.DeepCutAuto
import Derived.Deep.CutBlock
import Derived.Deep.RegionHeld3
import Derived.Laws.Rows
import Derived.Lib.AppendStr
import Derived.ArgAppend
import Derived.Laws.IdiomCopy
import Derived.OrdersHeld
import Derived.Laws.BitsLemmas
import Derived.RowKit
import Derived.Test.YtpiafpkpdbknfaaWWords
import Derived.Test.YtpiafpkpdbknfaaWLast
import Derived.Test.YtpiafpkpdbknfaaWTab
import Derived.Test.YtpiafpkpdbknfaaWFour
import Derived.Test.YtpiafpkpdbknfaaWQPut
import Derived.Test.YtpiafpkpdbknfaaWApart
import Derived.Test.YtpiafpkpdbknfaaWArr
import Derived.Test.YtpiafpkpdbknfaaWZeros
import Derived.Test.YtpiafpkpdbknfaaWFoot
import Derived.Test.YtpiafpkpdbknfaaWKept
import Derived.Test.YtpiafpkpdbknfaaWShare
import Derived.Test.YtpiafpkpdbknfaaWN
import Derived.Test.YtpiafpkpdbknfaaWFootNe
import Derived.Test.YtpiafpkpdbknfaaWAt
import Derived.Test.YtpiafpkpdbknfaaWEqStruct
import Derived.Test.YtpiafpkpdbknfaaWRepsOne
import Derived.Test.YtpiafpkpdbknfaaWInv
import Derived.Test.YtpiafpkpdbknfaaWInvWords
import Derived.Test.YtpiafpkpdbknfaaWGuard
import Derived.Test.YtpiafpkpdbknfaaWNEv
import Derived.Test.YtpiafpkpdbknfaaWMore
import Derived.Test.YtpiafpkpdbknfaaShelf
import Derived.Test.YtpiafpkpdbknfaaSLexQuoted
import Derived.Test.YtpiafpkpdbknfaaSIndexAny
import Derived.Test.YtpiafpkpdbknfaaSQuoteWalk
import Derived.Test.YtpiafpkpdbknfaaSBridge
namespace Go.Proofs.Ytpiafpkpdbknfaa.PLexPrints
open Go.RowKit Go.Proofs.YtpiafpkpdbknfaaW.PrintWords Go.Proofs.YtpiafpkpdbknfaaW.PrintLast Go.Proofs.YtpiafpkpdbknfaaW.PrintMore
attribute [local go_sem] max2_int min2_int max_two min_two max_three min_three max_four min_four   -- for this text's walks alone
set_option linter.unusedVariables false
set_option linter.unusedSimpArgs false



def errW : Option Int → Value
  | none => .nilIface
  | some c => .iface 0 (.int .i64 c)
theorem errW_none : errW none = .nilIface := rfl
theorem errW_some (c : Int) : errW (some c) = .iface 0 (.int .i64 c) := rfl

theorem info9 : (Try.prog.info? 9).map (fun i => (i.zero, i.size, i.bytes)) = some (some (.string ⟨#[]⟩), 1, 16) := by kernel_rfl
-- the values' own types

end Go.Proofs.Ytpiafpkpdbknfaa.PLexPrints
