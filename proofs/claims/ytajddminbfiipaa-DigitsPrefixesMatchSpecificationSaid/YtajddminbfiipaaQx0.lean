/- What these functions compute, walked (printed by print2.py over the kit's print): nothing of its own. -/
import Derived.Test.YtajddminbfiipaaProg
import Derived.Below
import Derived.Deep.Draws
import Derived.Deep.AppendLies
import Derived.Maps.AppendAt
import Derived.OwnWalk
import Derived.Laws.BytesArg
import Derived.Laws.MakeOwn
import Derived.Laws.OwnMore
import Derived.Deep.OwnRows
import Derived.Tactics
import Derived.Lib.ConvBytes
import Derived.Laws.Slices
import Derived.WalkKit
import Derived.KernelRfl
import Derived.RowKit3
import Derived.Deep.LoopGhost
import Derived.Deep.QuietTactic
import Derived.BigQuiet
import Derived.WideLaws
import Derived.Deep.DeepCutAuto
import Derived.Deep.CutBlock
import Derived.Deep.RegionHeld3
import Derived.Laws.Rows
import Derived.Lib.AppendStr
import Derived.ArgAppend
import Derived.Laws.IdiomCopy
import Derived.OrdersHeld
import Derived.Laws.BitsLemmas
import Derived.RowKit
import Derived.Test.YtajddminbfiipaaEMin
import Derived.Test.YtajddminbfiipaaEShort2
import Derived.Test.YtajddminbfiipaaEMatch
import Derived.Test.YtajddminbfiipaaEAll
import Derived.Test.YtajddminbfiipaaWWords
import Derived.Test.YtajddminbfiipaaWLast
import Derived.Test.YtajddminbfiipaaWTab
import Derived.Test.YtajddminbfiipaaWFour
import Derived.Test.YtajddminbfiipaaWQPut
import Derived.Test.YtajddminbfiipaaWApart
import Derived.Test.YtajddminbfiipaaWArr
import Derived.Test.YtajddminbfiipaaWZeros
import Derived.Test.YtajddminbfiipaaWFoot
import Derived.Test.YtajddminbfiipaaWKept
import Derived.Test.YtajddminbfiipaaWShare
import Derived.Test.YtajddminbfiipaaWN
import Derived.Test.YtajddminbfiipaaWFootNe
import Derived.Test.YtajddminbfiipaaWAt
import Derived.Test.YtajddminbfiipaaWEqStruct
import Derived.Test.YtajddminbfiipaaWRepsOne
import Derived.Test.YtajddminbfiipaaWInv
import Derived.Test.YtajddminbfiipaaWInvWords
import Derived.Test.YtajddminbfiipaaWGuard
import Derived.Test.YtajddminbfiipaaWNEv
import Derived.Test.YtajddminbfiipaaWMore
namespace Go.Proofs.Ytajddminbfiipaa.Q
open Go.RowKit Go.Proofs.YtajddminbfiipaaW.PrintWords Go.Proofs.YtajddminbfiipaaW.PrintLast Go.Proofs.YtajddminbfiipaaW.PrintMore Go.Proofs.Ytajddminbfiipaa.Ext
attribute [local go_sem] max2_int min2_int max_two min_two max_three min_three max_four min_four   -- for this text's walks alone
set_option linter.unusedVariables false
set_option linter.unusedSimpArgs false



def errW : Option Int → Value
  | none => .nilIface
  | some c => .iface 0 (.int .i64 c)
theorem errW_none : errW none = .nilIface := rfl
theorem errW_some (c : Int) : errW (some c) = .iface 0 (.int .i64 c) := rfl

theorem info5 : (Try.prog.info? 5).map (fun i => (i.zero, i.size, i.bytes)) = some (some (.int .u8 0), 1, 1) := by kernel_rfl
theorem info9 : (Try.prog.info? 9).map (fun i => (i.zero, i.size, i.bytes)) = some (some (.string ⟨#[]⟩), 1, 16) := by kernel_rfl
-- the values' own types

end Go.Proofs.Ytajddminbfiipaa.Q
