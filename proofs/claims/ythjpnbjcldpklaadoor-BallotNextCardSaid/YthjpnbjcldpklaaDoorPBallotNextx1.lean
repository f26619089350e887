-- Written by a program of this session (wip/tools), over the kit's printed words: functions as plain Lean, and that the code answers so.
import Derived.Test.YthjpnbjcldpklaaDoorPBallotNextx0
namespace Go.Proofs.YthjpnbjcldpklaaDoor.PBallotNext
open Go.RowKit Go.Proofs.YthjpnbjcldpklaaDoorW.PrintWords Go.Proofs.YthjpnbjcldpklaaDoorW.PrintLast Go.Proofs.YthjpnbjcldpklaaDoorW.PrintMore
attribute [local go_sem] max2_int min2_int max_two min_two max_three min_three max_four min_four Goto.sig_u8 Goto.sig_u16 Goto.sig_u32 Goto.sig_u64 Goto.top_u8 Goto.top_u16 Goto.top_u32 Goto.top_u64   -- for this text's walks alone
set_option linter.unusedVariables false
set_option linter.unusedSimpArgs false

theorem eqA24 (d : Nat) (w : World) (x0 y0 : Int) (x1 y1 : Int) :
    (Op.equalIn (d + 2) 24 (.agg #[.int .u32 x0, .int .i64 x1]) (.agg #[.int .u32 y0, .int .i64 y1])).run Tryd.prog w = .ok (x0 == y0 && (x1 == y1)) w := by
  refine eqA_of Tryd.underlying24 (by kernel_rfl) ?_
  refine eqf_cons (by rfl) (by go_simp; rfl) (by go_simp; rfl) (by go_simp) ?_
  exact eqf_last (by rfl) (by go_simp; rfl) (by go_simp; rfl) (by go_simp)
end Go.Proofs.YthjpnbjcldpklaaDoor.PBallotNext
