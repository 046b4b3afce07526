/- Contracts of Go functions of this seat, laid by a program of this session out of the translation. No condition. -/
import Derived.Test.YtjagkehablfmkaaProg
import Derived.Below
import Derived.Deep.Draws
import Derived.Deep.AppendLies
import Derived.Maps.AppendAt
import Derived.OwnWalk
import Derived.Laws.BytesArg
import Derived.Laws.MakeOwn
import Derived.Laws.OwnMore
import Derived.Deep.OwnRows
import Derived.Tactics
import Derived.Lib.ConvBytes
import Derived.Laws.Slices
import Derived.WalkKit
import Derived.KernelRfl
import Derived.RowKit3
import Derived.Deep.LoopGhost
import Derived.Deep.QuietTactic
import Derived.BigQuiet
import Derived.WideLaws
import Derived.Deep.DeepCutAuto
import Derived.Deep.CutBlock
import Derived.Deep.RegionHeld3
import Derived.Laws.Rows
import Derived.Lib.AppendStr
import Derived.ArgAppend
import Derived.Laws.IdiomCopy
import Derived.OrdersHeld
import Derived.Laws.BitsLemmas
import Derived.RowKit
import Derived.Test.YtjagkehablfmkaaWWords
import Derived.Test.YtjagkehablfmkaaWLast
import Derived.Test.YtjagkehablfmkaaWTab
import Derived.Test.YtjagkehablfmkaaWFour
import Derived.Test.YtjagkehablfmkaaWQPut
import Derived.Test.YtjagkehablfmkaaWApart
import Derived.Test.YtjagkehablfmkaaWArr
import Derived.Test.YtjagkehablfmkaaWZeros
import Derived.Test.YtjagkehablfmkaaWFoot
import Derived.Test.YtjagkehablfmkaaWKept
import Derived.Test.YtjagkehablfmkaaWShare
import Derived.Test.YtjagkehablfmkaaWN
import Derived.Test.YtjagkehablfmkaaWFootNe
import Derived.Test.YtjagkehablfmkaaWAt
import Derived.Test.YtjagkehablfmkaaWEqStruct
import Derived.Test.YtjagkehablfmkaaWRepsOne
import Derived.Test.YtjagkehablfmkaaWInv
import Derived.Test.YtjagkehablfmkaaWInvWords
import Derived.Test.YtjagkehablfmkaaWGuard
import Derived.Test.YtjagkehablfmkaaWNEv
import Derived.Test.YtjagkehablfmkaaWMore
namespace Go.Proofs.Ytjagkehablfmkaa.PVictimShifts
open Go.RowKit Go.Proofs.YtjagkehablfmkaaW.PrintWords Go.Proofs.YtjagkehablfmkaaW.PrintLast Go.Proofs.YtjagkehablfmkaaW.PrintMore
attribute [local go_sem] max2_int min2_int max_two min_two max_three min_three max_four min_four   -- for this text's walks alone
set_option linter.unusedVariables false
set_option linter.unusedSimpArgs false



def errW : Option Int → Value
  | none => .nilIface
  | some c => .iface 0 (.int .i64 c)
theorem errW_none : errW none = .nilIface := rfl
theorem errW_some (c : Int) : errW (some c) = .iface 0 (.int .i64 c) := rfl

theorem info3 : (Try.prog.info? 3).map (fun i => (i.zero, i.size, i.bytes)) = some (some (.int .i64 0), 1, 8) := by kernel_rfl
theorem info4 : (Try.prog.info? 4).map (fun i => (i.zero, i.size, i.bytes)) = some (some (.bool false), 1, 1) := by kernel_rfl
-- the values' own types

end Go.Proofs.Ytjagkehablfmkaa.PVictimShifts
