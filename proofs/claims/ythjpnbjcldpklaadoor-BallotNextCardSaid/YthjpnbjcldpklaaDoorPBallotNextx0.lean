-- Written by a program of this session (wip/tools), over the kit's printed words: functions as plain Lean, and that the code answers so.
import Derived.Test.YthjpnbjcldpklaaDoorProg
import Derived.Below
import Derived.Deep.Draws
import Derived.Deep.AppendLies
import Derived.Maps.AppendAt
import Derived.OwnWalk
import Derived.Laws.BytesArg
import Derived.Laws.MakeOwn
import Derived.Laws.OwnMore
import Derived.Deep.OwnRows
import Derived.Tactics
import Derived.Lib.ConvBytes
import Derived.Laws.Slices
import Derived.WalkKit
import Derived.KernelRfl
import Derived.RowKit3
import Derived.Deep.LoopGhost
import Derived.Deep.QuietTactic
import Derived.BigQuiet
import Derived.WideLaws
import Derived.Deep.DeepCutAuto
import Derived.Deep.CutBlock
import Derived.Deep.RegionHeld3
import Derived.Laws.Rows
import Derived.Lib.AppendStr
import Derived.ArgAppend
import Derived.Laws.IdiomCopy
import Derived.OrdersHeld
import Derived.Laws.BitsLemmas
import Derived.RowKit
import Derived.Handy
import Derived.Test.YthjpnbjcldpklaaDoorGoto
import Derived.Test.YthjpnbjcldpklaaDoorStrconv
import Derived.Test.YthjpnbjcldpklaaDoorWWords
import Derived.Test.YthjpnbjcldpklaaDoorWLast
import Derived.Test.YthjpnbjcldpklaaDoorWTab
import Derived.Test.YthjpnbjcldpklaaDoorWFour
import Derived.Test.YthjpnbjcldpklaaDoorWQPut
import Derived.Test.YthjpnbjcldpklaaDoorWApart
import Derived.Test.YthjpnbjcldpklaaDoorWArr
import Derived.Test.YthjpnbjcldpklaaDoorWZeros
import Derived.Test.YthjpnbjcldpklaaDoorWFoot
import Derived.Test.YthjpnbjcldpklaaDoorWKept
import Derived.Test.YthjpnbjcldpklaaDoorWShare
import Derived.Test.YthjpnbjcldpklaaDoorWN
import Derived.Test.YthjpnbjcldpklaaDoorWFootNe
import Derived.Test.YthjpnbjcldpklaaDoorWAt
import Derived.Test.YthjpnbjcldpklaaDoorWEqStruct
import Derived.Test.YthjpnbjcldpklaaDoorWRepsOne
import Derived.Test.YthjpnbjcldpklaaDoorWInv
import Derived.Test.YthjpnbjcldpklaaDoorWInvWords
import Derived.Test.YthjpnbjcldpklaaDoorWGuard
import Derived.Test.YthjpnbjcldpklaaDoorWNEv
import Derived.Test.YthjpnbjcldpklaaDoorWMore
namespace Go.Proofs.YthjpnbjcldpklaaDoor.PBallotNext
open Go.RowKit Go.Proofs.YthjpnbjcldpklaaDoorW.PrintWords Go.Proofs.YthjpnbjcldpklaaDoorW.PrintLast Go.Proofs.YthjpnbjcldpklaaDoorW.PrintMore
attribute [local go_sem] max2_int min2_int max_two min_two max_three min_three max_four min_four Goto.sig_u8 Goto.sig_u16 Goto.sig_u32 Goto.sig_u64 Goto.top_u8 Goto.top_u16 Goto.top_u32 Goto.top_u64   -- for this text's walks alone
set_option linter.unusedVariables false
set_option linter.unusedSimpArgs false



def errW : Option Int → Value
  | none => .nilIface
  | some c => .iface 0 (.int .i64 c)
theorem errW_none : errW none = .nilIface := rfl
theorem errW_some (c : Int) : errW (some c) = .iface 0 (.int .i64 c) := rfl

theorem info3 : (Tryd.prog.info? 3).map (fun i => (i.zero, i.size, i.bytes)) = some (some (.int .i64 0), 1, 8) := by kernel_rfl
-- the values' own types

end Go.Proofs.YthjpnbjcldpklaaDoor.PBallotNext
