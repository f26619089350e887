-- Written by a program of this session (wip/tools), over the kit's printed words: functions as plain Lean, and that the code answers so.
import Derived.Test.YtogmnckhpokfhaaProg
import Derived.Below
import Derived.Deep.Draws
import Derived.Deep.AppendLies
import Derived.Maps.AppendAt
import Derived.OwnWalk
import Derived.Laws.BytesArg
import Derived.Laws.MakeOwn
import Derived.Laws.OwnMore
import Derived.Deep.OwnRows
import Derived.Tactics
import Derived.Lib.ConvBytes
import Derived.Laws.Slices
import Derived.WalkKit
import Derived.KernelRfl
import Derived.RowKit3
import Derived.Deep.LoopGhost
import Derived.Deep.QuietTactic
import Derived.BigQuiet
import Derived.WideLaws
import Derived.Deep.DeepCutAuto
import Derived.Deep.CutBlock
import Derived.Deep.RegionHeld3
import Derived.Laws.Rows
import Derived.Lib.AppendStr
import Derived.ArgAppend
import Derived.Laws.IdiomCopy
import Derived.OrdersHeld
import Derived.Laws.BitsLemmas
import Derived.RowKit
import Derived.Test.YtogmnckhpokfhaaGoto
import Derived.Test.YtogmnckhpokfhaaWWords
import Derived.Test.YtogmnckhpokfhaaWLast
import Derived.Test.YtogmnckhpokfhaaWTab
import Derived.Test.YtogmnckhpokfhaaWFour
import Derived.Test.YtogmnckhpokfhaaWQPut
import Derived.Test.YtogmnckhpokfhaaWApart
import Derived.Test.YtogmnckhpokfhaaWArr
import Derived.Test.YtogmnckhpokfhaaWZeros
import Derived.Test.YtogmnckhpokfhaaWFoot
import Derived.Test.YtogmnckhpokfhaaWKept
import Derived.Test.YtogmnckhpokfhaaWShare
import Derived.Test.YtogmnckhpokfhaaWN
import Derived.Test.YtogmnckhpokfhaaWFootNe
import Derived.Test.YtogmnckhpokfhaaWAt
import Derived.Test.YtogmnckhpokfhaaWEqStruct
import Derived.Test.YtogmnckhpokfhaaWRepsOne
import Derived.Test.YtogmnckhpokfhaaWInv
import Derived.Test.YtogmnckhpokfhaaWInvWords
import Derived.Test.YtogmnckhpokfhaaWGuard
import Derived.Test.YtogmnckhpokfhaaWNEv
import Derived.Test.YtogmnckhpokfhaaWMore
namespace Go.Proofs.Ytogmnckhpokfhaa.PCrcSums
open Go.RowKit Go.Proofs.YtogmnckhpokfhaaW.PrintWords Go.Proofs.YtogmnckhpokfhaaW.PrintLast Go.Proofs.YtogmnckhpokfhaaW.PrintMore
attribute [local go_sem] max2_int min2_int max_two min_two max_three min_three max_four min_four Goto.sig_u8 Goto.sig_u16 Goto.sig_u32 Goto.sig_u64 Goto.top_u8 Goto.top_u16 Goto.top_u32 Goto.top_u64   -- for this text's walks alone
set_option linter.unusedVariables false
set_option linter.unusedSimpArgs false



def errW : Option Int → Value
  | none => .nilIface
  | some c => .iface 0 (.int .i64 c)
theorem errW_none : errW none = .nilIface := rfl
theorem errW_some (c : Int) : errW (some c) = .iface 0 (.int .i64 c) := rfl

-- the values' own types

end Go.Proofs.Ytogmnckhpokfhaa.PCrcSums
