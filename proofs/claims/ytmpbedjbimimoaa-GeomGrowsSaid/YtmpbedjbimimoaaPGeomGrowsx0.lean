/- Contracts of Go functions of this seat, laid by a program of this session out of the translation. No condition. -/
import Derived.Test.YtmpbedjbimimoaaProg
import Derived.Below
import Derived.Deep.Draws
import Derived.Deep.AppendLies
import Derived.Maps.AppendAt
import Derived.OwnWalk
import Derived.Laws.BytesArg
import Derived.Laws.MakeOwn
import Derived.Laws.OwnMore
import Derived.Deep.OwnRows
import Derived.Tactics
import Derived.Lib.ConvBytes
import Derived.Laws.Slices
import Derived.WalkKit
import Derived.KernelRfl
import Derived.RowKit3
import Derived.Deep.LoopGhost
import Derived.Deep.QuietTactic
import Derived.BigQuiet
import Derived.WideLaws
import Derived.Deep.DeepCutAuto
import Derived.Deep.CutBlock
import Derived.Deep.RegionHeld3
import Derived.Laws.Rows
import Derived.Lib.AppendStr
import Derived.ArgAppend
import Derived.Laws.IdiomCopy
import Derived.OrdersHeld
import Derived.Laws.BitsLemmas
import Derived.RowKit
import Derived.Test.YtmpbedjbimimoaaWWords
import Derived.Test.YtmpbedjbimimoaaWLast
import Derived.Test.YtmpbedjbimimoaaWTab
import Derived.Test.YtmpbedjbimimoaaWFour
import Derived.Test.YtmpbedjbimimoaaWQPut
import Derived.Test.YtmpbedjbimimoaaWApart
import Derived.Test.YtmpbedjbimimoaaWArr
import Derived.Test.YtmpbedjbimimoaaWZeros
import Derived.Test.YtmpbedjbimimoaaWFoot
import Derived.Test.YtmpbedjbimimoaaWKept
import Derived.Test.YtmpbedjbimimoaaWShare
import Derived.Test.YtmpbedjbimimoaaWN
import Derived.Test.YtmpbedjbimimoaaWFootNe
import Derived.Test.YtmpbedjbimimoaaWAt
import Derived.Test.YtmpbedjbimimoaaWEqStruct
import Derived.Test.YtmpbedjbimimoaaWRepsOne
import Derived.Test.YtmpbedjbimimoaaWInv
import Derived.Test.YtmpbedjbimimoaaWInvWords
import Derived.Test.YtmpbedjbimimoaaWGuard
import Derived.Test.YtmpbedjbimimoaaWNEv
import Derived.Test.YtmpbedjbimimoaaWMore
namespace Go.Proofs.Ytmpbedjbimimoaa.PGeomGrows
open Go.RowKit Go.Proofs.YtmpbedjbimimoaaW.PrintWords Go.Proofs.YtmpbedjbimimoaaW.PrintLast Go.Proofs.YtmpbedjbimimoaaW.PrintMore
attribute [local go_sem] max2_int min2_int max_two min_two max_three min_three max_four min_four   -- for this text's walks alone
set_option linter.unusedVariables false
set_option linter.unusedSimpArgs false



def errW : Option Int → Value
  | none => .nilIface
  | some c => .iface 0 (.int .i64 c)
theorem errW_none : errW none = .nilIface := rfl
theorem errW_some (c : Int) : errW (some c) = .iface 0 (.int .i64 c) := rfl

-- the values' own types

end Go.Proofs.Ytmpbedjbimimoaa.PGeomGrows
