import Derived.Test.YtnnhlladcmgmnaaProg
import Derived.Below
import Derived.Deep.Draws
import Derived.Deep.AppendLies
import Derived.Maps.AppendAt
import Derived.OwnWalk
import Derived.Laws.BytesArg
import Derived.Laws.MakeOwn
import Derived.Laws.OwnMore
import Derived.Deep.OwnRows
import Derived.Tactics
import Derived.Lib.ConvBytes
import Derived.Laws.Slices
import Derived.WalkKit
import Derived.KernelRfl
import Derived.RowKit3
import Derived.Deep.LoopGhost
import Derived.Deep.QuietTactic
import Derived.BigQuiet
import Derived.WideLaws
import Derived.Deep.DeepCutAuto
import Derived.Deep.CutBlock
import Derived.Deep.RegionHeld3
import Derived.Laws.Rows
import Derived.Lib.AppendStr
import Derived.ArgAppend
import Derived.Laws.IdiomCopy
import Derived.OrdersHeld
import Derived.Laws.BitsLemmas
import Derived.RowKit
import Derived.Test.YtnnhlladcmgmnaaWWords
import Derived.Test.YtnnhlladcmgmnaaWLast
import Derived.Test.YtnnhlladcmgmnaaWTab
import Derived.Test.YtnnhlladcmgmnaaWFour
import Derived.Test.YtnnhlladcmgmnaaWQPut
import Derived.Test.YtnnhlladcmgmnaaWApart
import Derived.Test.YtnnhlladcmgmnaaWArr
import Derived.Test.YtnnhlladcmgmnaaWZeros
import Derived.Test.YtnnhlladcmgmnaaWFoot
import Derived.Test.YtnnhlladcmgmnaaWKept
import Derived.Test.YtnnhlladcmgmnaaWShare
import Derived.Test.YtnnhlladcmgmnaaWN
import Derived.Test.YtnnhlladcmgmnaaWFootNe
import Derived.Test.YtnnhlladcmgmnaaWAt
import Derived.Test.YtnnhlladcmgmnaaWEqStruct
import Derived.Test.YtnnhlladcmgmnaaWRepsOne
import Derived.Test.YtnnhlladcmgmnaaWInv
import Derived.Test.YtnnhlladcmgmnaaWInvWords
import Derived.Test.YtnnhlladcmgmnaaWGuard
import Derived.Test.YtnnhlladcmgmnaaWNEv
import Derived.Test.YtnnhlladcmgmnaaWMore
namespace Go.Proofs.Ytnnhlladcmgmnaa.PCrcKnown
open Go.RowKit Go.Proofs.YtnnhlladcmgmnaaW.PrintWords Go.Proofs.YtnnhlladcmgmnaaW.PrintLast Go.Proofs.YtnnhlladcmgmnaaW.PrintMore
attribute [local go_sem] max2_int min2_int max_two min_two max_three min_three max_four min_four   -- for this text's walks alone
set_option linter.unusedVariables false
set_option linter.unusedSimpArgs false



def errW : Option Int → Value
  | none => .nilIface
  | some c => .iface 0 (.int .i64 c)
theorem errW_none : errW none = .nilIface := rfl
theorem errW_some (c : Int) : errW (some c) = .iface 0 (.int .i64 c) := rfl

theorem info3 : (Try.prog.info? 3).map (fun i => (i.zero, i.size, i.bytes)) = some (some (.int .i64 0), 1, 8) := by kernel_rfl
theorem info4 : (Try.prog.info? 4).map (fun i => (i.zero, i.size, i.bytes)) = some (some (.bool false), 1, 1) := by kernel_rfl
theorem info5 : (Try.prog.info? 5).map (fun i => (i.zero, i.size, i.bytes)) = some (some (.int .u8 0), 1, 1) := by kernel_rfl
theorem info30 : (Try.prog.info? 30).map (fun i => (i.zero, i.size, i.bytes)) = some (some (.int .u16 0), 1, 2) := by kernel_rfl
-- the values' own types

end Go.Proofs.Ytnnhlladcmgmnaa.PCrcKnown
