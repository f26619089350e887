-- Written by a program of this session (wip/tools), over the kit's printed words: functions as plain Lean, and that the code answers so.
import Derived.Test.YthjpnbjcldpklaaDoorShort
import Derived.Test.YthjpnbjcldpklaaDoorPBallotNextx0
import Derived.Test.YthjpnbjcldpklaaDoorPBallotNextx1
import Derived.Test.YthjpnbjcldpklaaDoorPBallotNextx2
import Derived.Test.YthjpnbjcldpklaaDoorPBallotNextx3
import Derived.Test.YthjpnbjcldpklaaDoorPBallotNextx5
namespace Go.Proofs.YthjpnbjcldpklaaDoor.PBallotNext
open Go.Proofs.YthjpnbjcldpklaaDoor.Short Go.RowKit Go.Proofs.YthjpnbjcldpklaaDoorW.PrintWords Go.Proofs.YthjpnbjcldpklaaDoorW.PrintLast Go.Proofs.YthjpnbjcldpklaaDoorW.PrintMore
attribute [local go_sem] max2_int min2_int max_two min_two max_three min_three max_four min_four Goto.sig_u8 Goto.sig_u16 Goto.sig_u32 Goto.sig_u64 Goto.top_u8 Goto.top_u16 Goto.top_u32 Goto.top_u64   -- for this text's walks alone
set_option linter.unusedVariables false
set_option linter.unusedSimpArgs false

attribute [local go_sem high] eqA24
abbrev m0 : Array Bool := #[false, false, false, false, false, false, false, false, false, false, false, false, false, false, false, false, false, false, false, false, false, false, false, false, false, false, false, false, false, false, false, false, false, false, false, false, false, false, false, false, false, false, false, false, false, false, false, false, false, false, false, false]
abbrev m1 : Array Bool := #[true, false, false, false, false, false, false, false, false, false, false, false, false, false, false, false, false, false, false, false, false, false, false, false, false, false, false, false, false, false, false, false, false, false, false, false, false, false, false, false, false, false, false, false, false, false, false, false, false, false, false, false]
abbrev m2 : Array Bool := #[true, true, false, false, false, false, false, false, false, false, false, false, false, false, false, false, false, false, false, false, false, false, false, false, false, false, false, false, false, false, false, false, false, false, false, false, false, false, false, false, false, false, false, false, false, false, false, false, false, false, false, false]
abbrev m3 : Array Bool := #[true, true, true, false, false, false, false, false, false, false, false, false, false, false, false, false, false, false, false, false, false, false, false, false, false, false, false, false, false, false, false, false, false, false, false, false, false, false, false, false, false, false, false, false, false, false, false, false, false, false, false, false]
abbrev m4 : Array Bool := #[true, true, true, true, false, false, false, false, false, false, false, false, false, false, false, false, false, false, false, false, false, false, false, false, false, false, false, false, false, false, false, false, false, false, false, false, false, false, false, false, false, false, false, false, false, false, false, false, false, false, false, false]
abbrev m5 : Array Bool := #[true, true, true, true, true, false, false, false, false, false, false, false, false, false, false, false, false, false, false, false, false, false, false, false, false, false, false, false, false, false, false, false, false, false, false, false, false, false, false, false, false, false, false, false, false, false, false, false, false, false, false, false]
abbrev m6 : Array Bool := #[true, true, true, true, true, true, false, false, false, false, false, false, false, false, false, false, false, false, false, false, false, false, false, false, false, false, false, false, false, false, false, false, false, false, false, false, false, false, false, false, false, false, false, false, false, false, false, false, false, false, false, false]
abbrev m7 : Array Bool := #[true, true, true, true, true, true, true, false, false, false, false, false, false, false, false, false, false, false, false, false, false, false, false, false, false, false, false, false, false, false, false, false, false, false, false, false, false, false, false, false, false, false, false, false, false, false, false, false, false, false, false, false]
abbrev m8 : Array Bool := #[true, true, true, true, true, true, true, true, false, false, false, false, false, false, false, false, false, false, false, false, false, false, false, false, false, false, false, false, false, false, false, false, false, false, false, false, false, false, false, false, false, false, false, false, false, false, false, false, false, false, false, false]
abbrev m9 : Array Bool := #[true, true, true, true, true, true, true, true, true, false, false, false, false, false, false, false, false, false, false, false, false, false, false, false, false, false, false, false, false, false, false, false, false, false, false, false, false, false, false, false, false, false, false, false, false, false, false, false, false, false, false, false]
abbrev m10 : Array Bool := #[true, true, true, true, true, true, true, true, true, true, false, false, false, false, false, false, false, false, false, false, false, false, false, false, false, false, false, false, false, false, false, false, false, false, false, false, false, false, false, false, false, false, false, false, false, false, false, false, false, false, false, false]
abbrev m11 : Array Bool := #[true, true, true, true, true, true, true, true, true, true, true, false, false, false, false, false, false, false, false, false, false, false, false, false, false, false, false, false, false, false, false, false, false, false, false, false, false, false, false, false, false, false, false, false, false, false, false, false, false, false, false, false]
abbrev m12 : Array Bool := #[true, true, true, true, true, true, true, true, true, true, true, true, false, false, false, false, false, false, false, false, false, false, false, false, false, false, false, false, false, false, false, false, false, false, false, false, false, false, false, false, false, false, false, false, false, false, false, false, false, false, false, false]
abbrev m13 : Array Bool := #[true, true, true, true, true, true, true, true, true, true, true, true, true, false, false, false, false, false, false, false, false, false, false, false, false, false, false, false, false, false, false, false, false, false, false, false, false, false, false, false, false, false, false, false, false, false, false, false, false, false, false, false]
abbrev m14 : Array Bool := #[true, true, true, true, true, true, true, true, true, true, true, true, true, true, false, false, false, false, false, false, false, false, false, false, false, false, false, false, false, false, false, false, false, false, false, false, false, false, false, false, false, false, false, false, false, false, false, false, false, false, false, false]
abbrev m15 : Array Bool := #[true, true, true, true, true, true, true, true, true, true, true, true, true, true, true, false, false, false, false, false, false, false, false, false, false, false, false, false, false, false, false, false, false, false, false, false, false, false, false, false, false, false, false, false, false, false, false, false, false, false, false, false]
abbrev m16 : Array Bool := #[true, true, true, true, true, true, true, true, true, true, true, true, true, true, true, true, false, false, false, false, false, false, false, false, false, false, false, false, false, false, false, false, false, false, false, false, false, false, false, false, false, false, false, false, false, false, false, false, false, false, false, false]
abbrev m17 : Array Bool := #[true, true, true, true, true, true, true, true, true, true, true, true, true, true, true, true, true, false, false, false, false, false, false, false, false, false, false, false, false, false, false, false, false, false, false, false, false, false, false, false, false, false, false, false, false, false, false, false, false, false, false, false]
abbrev m18 : Array Bool := #[true, true, true, true, true, true, true, true, true, true, true, true, true, true, true, true, true, true, false, false, false, false, false, false, false, false, false, false, false, false, false, false, false, false, false, false, false, false, false, false, false, false, false, false, false, false, false, false, false, false, false, false]
abbrev m19 : Array Bool := #[true, true, true, true, true, true, true, true, true, true, true, true, true, true, true, true, true, true, true, false, false, false, false, false, false, false, false, false, false, false, false, false, false, false, false, false, false, false, false, false, false, false, false, false, false, false, false, false, false, false, false, false]
abbrev m20 : Array Bool := #[true, true, true, true, true, true, true, true, true, true, true, true, true, true, true, true, true, true, true, true, false, false, false, false, false, false, false, false, false, false, false, false, false, false, false, false, false, false, false, false, false, false, false, false, false, false, false, false, false, false, false, false]
abbrev m21 : Array Bool := #[true, true, true, true, true, true, true, true, true, true, true, true, true, true, true, true, true, true, true, true, true, false, false, false, false, false, false, false, false, false, false, false, false, false, false, false, false, false, false, false, false, false, false, false, false, false, false, false, false, false, false, false]
abbrev m22 : Array Bool := #[true, true, true, true, true, true, true, true, true, true, true, true, true, true, true, true, true, true, true, true, true, true, false, false, false, false, false, false, false, false, false, false, false, false, false, false, false, false, false, false, false, false, false, false, false, false, false, false, false, false, false, false]
abbrev m23 : Array Bool := #[true, true, true, true, true, true, true, true, true, true, true, true, true, true, true, true, true, true, true, true, true, true, true, false, false, false, false, false, false, false, false, false, false, false, false, false, false, false, false, false, false, false, false, false, false, false, false, false, false, false, false, false]
abbrev m24 : Array Bool := #[true, true, true, true, true, true, true, true, true, true, true, true, true, true, true, true, true, true, true, true, true, true, true, true, false, false, false, false, false, false, false, false, false, false, false, false, false, false, false, false, false, false, false, false, false, false, false, false, false, false, false, false]
abbrev m25 : Array Bool := #[true, true, true, true, true, true, true, true, true, true, true, true, true, true, true, true, true, true, true, true, true, true, true, true, false, false, false, true, false, false, false, false, false, false, false, false, false, false, false, false, false, false, false, false, false, false, false, false, false, false, false, false]
abbrev m26 : Array Bool := #[true, true, true, true, true, true, true, true, true, true, true, true, true, true, true, true, true, true, true, true, true, true, true, true, false, false, false, true, true, false, false, false, false, false, false, false, false, false, false, false, false, false, false, false, false, false, false, false, false, false, false, false]
abbrev m27 : Array Bool := #[true, true, true, true, true, true, true, true, true, true, true, true, true, true, true, true, true, true, true, true, true, true, true, true, false, false, false, true, true, true, false, false, false, false, false, false, false, false, false, false, false, false, false, false, false, false, false, false, false, false, false, false]
abbrev m28 : Array Bool := #[true, true, true, true, true, true, true, true, true, true, true, true, true, true, true, true, true, true, true, true, true, true, true, true, false, false, false, true, true, true, true, false, false, false, false, false, false, false, false, false, false, false, false, false, false, false, false, false, false, false, false, false]
abbrev m29 : Array Bool := #[true, true, true, true, true, true, true, true, true, true, true, true, true, true, true, true, true, true, true, true, true, true, true, true, false, false, false, true, true, true, true, true, false, false, false, false, false, false, false, false, false, false, false, false, false, false, false, false, false, false, false, false]
abbrev m30 : Array Bool := #[true, true, true, true, true, true, true, true, true, true, true, true, true, true, true, true, true, true, true, true, true, true, true, true, false, false, false, true, true, true, true, true, true, false, false, false, false, false, false, false, false, false, false, false, false, false, false, false, false, false, false, false]
abbrev m31 : Array Bool := #[true, true, true, true, true, true, true, true, true, true, true, true, true, true, true, true, true, true, true, true, true, true, true, true, false, false, false, true, true, true, true, true, true, true, false, false, false, false, false, false, false, false, false, false, false, false, false, false, false, false, false, false]
abbrev m32 : Array Bool := #[true, true, true, true, true, true, true, true, true, true, true, true, true, true, true, true, true, true, true, true, true, true, true, true, false, false, false, true, true, true, true, true, true, true, false, true, false, false, false, false, false, false, false, false, false, false, false, false, false, false, false, false]
abbrev m33 : Array Bool := #[true, true, true, true, true, true, true, true, true, true, true, true, true, true, true, true, true, true, true, true, true, true, true, true, true, false, false, true, true, true, true, true, true, true, false, true, false, false, false, false, false, false, false, false, false, false, false, false, false, false, false, false]
abbrev m34 : Array Bool := #[true, true, true, true, true, true, true, true, true, true, true, true, true, true, true, true, true, true, true, true, true, true, true, true, true, true, false, true, true, true, true, true, true, true, false, true, false, false, false, false, false, false, false, false, false, false, false, false, false, false, false, false]
abbrev m35 : Array Bool := #[true, true, true, true, true, true, true, true, true, true, true, true, true, true, true, true, true, true, true, true, true, true, true, true, true, true, true, true, true, true, true, true, true, true, false, true, false, false, false, false, false, false, false, false, false, false, false, false, false, false, false, false]
abbrev m36 : Array Bool := #[true, true, true, true, true, true, true, true, true, true, true, true, true, true, true, true, true, true, true, true, true, true, true, true, true, true, true, true, true, true, true, true, true, true, true, true, false, false, false, false, false, false, false, false, false, false, false, false, false, false, false, false]
abbrev m37 : Array Bool := #[true, true, true, true, true, true, true, true, true, true, true, true, true, true, true, true, true, true, true, true, true, true, true, true, true, true, true, true, true, true, true, true, true, true, true, true, true, false, false, false, false, false, false, false, false, false, false, false, false, false, false, false]
abbrev m38 : Array Bool := #[true, true, true, true, true, true, true, true, true, true, true, true, true, true, true, true, true, true, true, true, true, true, true, true, true, true, true, true, true, true, true, true, true, true, true, true, true, true, false, false, false, false, false, false, false, false, false, false, false, false, false, false]
abbrev m39 : Array Bool := #[true, true, true, true, true, true, true, true, true, true, true, true, true, true, true, true, true, true, true, true, true, true, true, true, true, true, true, true, true, true, true, true, true, true, true, true, true, true, true, false, false, false, false, false, false, false, false, false, false, false, false, false]
abbrev m40 : Array Bool := #[true, true, true, true, true, true, true, true, true, true, true, true, true, true, true, true, true, true, true, true, true, true, true, true, true, true, true, true, true, true, true, true, true, true, true, true, true, true, true, true, false, false, false, false, false, false, false, false, false, false, false, false]
abbrev m41 : Array Bool := #[true, true, true, true, true, true, true, true, true, true, true, true, true, true, true, true, true, true, true, true, true, true, true, true, true, true, true, true, true, true, true, true, true, true, true, true, true, true, true, true, true, false, false, false, false, false, false, false, false, false, false, false]
abbrev m42 : Array Bool := #[true, true, true, true, true, true, true, true, true, true, true, true, true, true, true, true, true, true, true, true, true, true, true, true, true, true, true, true, true, true, true, true, true, true, true, true, true, true, true, true, true, true, false, false, false, false, false, false, false, false, false, false]
abbrev m43 : Array Bool := #[true, true, true, true, true, true, true, true, true, true, true, true, true, true, true, true, true, true, true, true, true, true, true, true, true, true, true, true, true, true, true, true, true, true, true, true, true, true, true, true, true, true, true, false, false, false, false, false, false, false, false, false]
abbrev m44 : Array Bool := #[true, true, true, true, true, true, true, true, true, true, true, true, true, true, true, true, true, true, true, true, true, true, true, true, true, true, true, true, true, true, true, true, true, true, true, true, true, true, true, true, true, true, true, true, false, false, false, false, false, false, false, false]
abbrev m45 : Array Bool := #[true, true, true, true, true, true, true, true, true, true, true, true, true, true, true, true, true, true, true, true, true, true, true, true, true, true, true, true, true, true, true, true, true, true, true, true, true, true, true, true, true, true, true, true, false, true, false, false, false, false, false, false]
abbrev m46 : Array Bool := #[true, true, true, true, true, true, true, true, true, true, true, true, true, true, true, true, true, true, true, true, true, true, true, true, true, true, true, true, true, true, true, true, true, true, true, true, true, true, true, true, true, true, true, true, false, true, true, false, false, false, false, false]
abbrev m47 : Array Bool := #[true, true, true, true, true, true, true, true, true, true, true, true, true, true, true, true, true, true, true, true, true, true, true, true, true, true, true, true, true, true, true, true, true, true, true, true, true, true, true, true, true, true, true, true, true, true, true, false, false, false, false, false]
abbrev m48 : Array Bool := #[true, true, true, true, true, true, true, true, true, true, true, true, true, true, true, true, true, true, true, true, true, true, true, true, true, true, true, true, true, true, true, true, true, true, true, true, true, true, true, true, true, true, true, true, true, true, true, true, false, false, false, false]
abbrev m49 : Array Bool := #[true, true, true, true, true, true, true, true, true, true, true, true, true, true, true, true, true, true, true, true, true, true, true, true, true, true, true, true, true, true, true, true, true, true, true, true, true, true, true, true, true, true, true, true, true, true, true, true, true, false, false, false]
abbrev m50 : Array Bool := #[true, true, true, true, true, true, true, true, true, true, true, true, true, true, true, true, true, true, true, true, true, true, true, true, true, true, true, true, true, true, true, true, true, true, true, true, true, true, true, true, true, true, true, true, true, true, true, true, true, true, false, false]
abbrev m51 : Array Bool := #[true, true, true, true, true, true, true, true, true, true, true, true, true, true, true, true, true, true, true, true, true, true, true, true, true, true, true, true, true, true, true, true, true, true, true, true, true, true, true, true, true, true, true, true, true, true, true, true, true, true, true, false]
abbrev m52 : Array Bool := #[true, true, true, true, true, true, true, true, true, true, true, true, true, true, true, true, true, true, true, true, true, true, true, true, true, true, true, true, true, true, true, true, true, true, true, true, true, true, true, true, true, true, true, true, true, true, true, true, true, true, true, true]
abbrev m53 : Array Bool := #[true, true, true, true, true, true, true, true, true, true, true, true, true, true, true, true, true, true, true, true, true, true, true, true, true, true, true, true, true, true, true, true, true, true, true, true, true, true, true, true, true, true, true, true, true, false, false, false, false, false, false, false]
abbrev m54 : Array Bool := #[true, true, true, true, true, true, true, true, true, true, true, true, true, true, true, true, true, true, true, true, true, true, true, true, true, true, true, true, true, true, true, true, true, true, true, true, true, true, true, true, true, true, true, true, true, true, false, false, false, false, false, false]
abbrev m55 : Array Bool := #[true, true, true, true, true, true, true, true, true, true, true, true, true, true, true, true, true, true, true, true, true, true, true, true, false, false, false, true, true, true, true, true, true, true, true, false, false, false, false, false, false, false, false, false, false, false, false, false, false, false, false, false]
abbrev m56 : Array Bool := #[true, true, true, true, true, true, true, true, true, true, true, true, true, true, true, true, true, true, true, true, true, true, true, true, false, false, false, true, true, true, true, true, true, true, true, true, false, false, false, false, false, false, false, false, false, false, false, false, false, false, false, false]
abbrev m57 : Array Bool := #[true, true, true, true, true, true, true, true, true, true, true, true, true, true, true, true, true, true, true, true, true, true, true, true, false, false, false, true, true, true, true, true, true, true, true, true, true, false, false, false, false, false, false, false, false, false, false, false, false, false, false, false]
abbrev m58 : Array Bool := #[true, true, true, true, true, true, true, true, true, true, true, true, true, true, true, true, true, true, true, true, true, true, true, true, false, false, false, true, true, true, true, true, true, true, true, true, true, true, false, false, false, false, false, false, false, false, false, false, false, false, false, false]
abbrev m59 : Array Bool := #[true, true, true, true, true, true, true, true, true, true, true, true, true, true, true, true, true, true, true, true, true, true, true, true, false, false, false, true, true, true, true, true, true, true, true, true, true, true, true, false, false, false, false, false, false, false, false, false, false, false, false, false]
abbrev m60 : Array Bool := #[true, true, true, true, true, true, true, true, true, true, true, true, true, true, true, true, true, true, true, true, true, true, true, true, true, false, false, true, true, true, true, true, true, true, true, true, true, true, true, false, false, false, false, false, false, false, false, false, false, false, false, false]
abbrev m61 : Array Bool := #[true, true, true, true, true, true, true, true, true, true, true, true, true, true, true, true, true, true, true, true, true, true, true, true, true, true, false, true, true, true, true, true, true, true, true, true, true, true, true, false, false, false, false, false, false, false, false, false, false, false, false, false]
abbrev m62 : Array Bool := #[true, true, true, true, true, true, true, true, true, true, true, true, true, true, true, true, true, true, true, true, true, true, true, true, true, false, false, false, false, false, false, false, false, false, false, false, false, false, false, false, false, false, false, false, false, false, false, false, false, false, false, false]
abbrev m63 : Array Bool := #[true, true, true, true, true, true, true, true, true, true, true, true, true, true, true, true, true, true, true, true, true, true, true, true, true, true, false, false, false, false, false, false, false, false, false, false, false, false, false, false, false, false, false, false, false, false, false, false, false, false, false, false]
abbrev m64 : Array Bool := #[true, true, true, true, true, true, true, true, true, true, true, true, true, true, true, true, true, true, true, true, true, true, true, true, true, true, true, false, false, false, false, false, false, false, false, false, false, false, false, false, false, false, false, false, false, false, false, false, false, false, false, false]
abbrev m65 : Array Bool := #[true, true, true, true, true, true, true, true, true, true, true, true, true, true, true, true, true, true, true, true, true, true, true, true, true, true, true, true, false, false, false, false, false, false, false, false, false, false, false, false, false, false, false, false, false, false, false, false, false, false, false, false]
abbrev m66 : Array Bool := #[true, true, true, true, true, true, true, true, true, true, true, true, true, true, true, true, true, true, true, true, true, true, true, true, true, true, true, true, true, false, false, false, false, false, false, false, false, false, false, false, false, false, false, false, false, false, false, false, false, false, false, false]
abbrev m67 : Array Bool := #[true, true, true, true, true, true, true, true, true, true, true, true, true, true, true, true, true, true, true, true, true, true, true, true, true, true, true, true, true, true, false, false, false, false, false, false, false, false, false, false, false, false, false, false, false, false, false, false, false, false, false, false]
abbrev m68 : Array Bool := #[true, true, true, true, true, true, true, true, true, true, true, true, true, true, true, true, true, true, true, true, true, true, true, true, true, true, true, true, true, true, true, false, false, false, false, false, false, false, false, false, false, false, false, false, false, false, false, false, false, false, false, false]
abbrev m69 : Array Bool := #[true, true, true, true, true, true, true, true, true, true, true, true, true, true, true, true, true, true, true, true, true, true, true, true, true, true, true, true, true, true, true, true, false, false, false, false, false, false, false, false, false, false, false, false, false, false, false, false, false, false, false, false]
abbrev m70 : Array Bool := #[true, true, true, true, true, true, true, true, true, true, true, true, true, true, true, true, true, true, true, true, true, true, true, true, true, true, true, true, true, true, true, true, true, false, false, false, false, false, false, false, false, false, false, false, false, false, false, false, false, false, false, false]
abbrev m71 : Array Bool := #[true, true, true, true, true, true, true, true, true, true, true, true, true, true, true, true, true, true, true, true, true, true, true, true, true, true, true, true, true, true, true, true, true, true, false, false, false, false, false, false, false, false, false, false, false, false, false, false, false, false, false, false]
abbrev m72 : Array Bool := #[true, true, true, true, true, true, true, true, true, true, true, true, true, true, true, true, true, true, true, true, true, true, true, true, true, true, true, true, true, true, true, true, true, true, true, false, false, false, false, false, false, false, false, false, false, false, false, false, false, false, false, false]
/-! ### comitialaw06_BallotNext: function 4 -/
mutual
def comitialaw06_BallotNext.j0 : Nat → Int → Int → Bool → Bool → Bool → Bool → Int → Int → Int → Int → Int → Int → Int → Int → Option (Bool)
  | 0, _, _, _, _, _, _, _, _, _, _, _, _, _, _ => none
  | k + 1, x3, x4, x11, x15, x17, x65, x169000, x169001, x170000, x170001, x174000, x174001, x178000, x178001 => if x65 = true then (some false) else (if x15 = true then (comitialaw06_BallotNext.j1 k x3 x4 x11 (!x17) x169000 x169001 x170000 x170001 x174000 x174001 x178000 x178001) else (comitialaw06_BallotNext.j1 k x3 x4 x11 true x169000 x169001 x170000 x170001 x174000 x174001 x178000 x178001))
def comitialaw06_BallotNext.j1 : Nat → Int → Int → Bool → Bool → Int → Int → Int → Int → Int → Int → Int → Int → Option (Bool)
  | 0, _, _, _, _, _, _, _, _, _, _, _, _ => none
  | k + 1, x3, x4, x11, x71, x169000, x169001, x170000, x170001, x174000, x174001, x178000, x178001 => if x71 = true then (some x11) else (if x11 = true then ((ballot_Order.f k x174000 x174001 x169000 x169001).bind fun t178 => (if t178 > 0 then ((ballot_Right.f x174000 x174001).bind fun t179 => (if t179 = true then (if (Int.tmod x3 7) = (Int.tmod x4 7) then (if ((x174000 == x178000 && (x174001 == x178001)) == (x169000 == x170000)) = true then ((ballot_Order.f k x169000 x169001 x170000 x170001).bind fun t180 => ((ballot_Order.f k x170000 x170001 x169000 x169001).bind fun t181 => (some (t180 == (wrap64 (-t181)))))) else (some false)) else (if (!(x174000 == x178000) || (!(x174001 == x178001))) = true then (if ((x174000 == x178000 && (x174001 == x178001)) == false) = true then ((ballot_Order.f k x169000 x169001 x170000 x170001).bind fun t182 => ((ballot_Order.f k x170000 x170001 x169000 x169001).bind fun t183 => (some (t182 == (wrap64 (-t183)))))) else (some false)) else (some false))) else (some false))) else (some false))) else (some false))
end
def comitialaw06_BallotNext.f (k : Nat) (a0 : Int) (a1 : Int) (a2 : Int) (a3 : Int) (a4 : Int) : Option (Bool) := (comitialaw06_examples.f k).bind fun t167 => (if t167 = true then ((ballot_Next.f k (mx a0 1) (wrap64 (1 + (wrap64 (Int.tmod a2 7)))) (wrap64 (1 + (wrap64 (Int.tmod a3 7))))).bind fun bt170 => ((ballot_Next.f k (mx a1 1) (1 + (((Int.tdiv a2 7) % 256) % 7)) (wrap64 (1 + (wrap64 (Int.tmod a4 7))))).bind fun bt174 => (if (bt170.2.2 != (decide ((mx a0 1) < 4294967295))) = true then (comitialaw06_BallotNext.j0 k a3 a4 t167 bt170.2.2 bt174.2.2 true (mx a0 1) (wrap64 (1 + (wrap64 (Int.tmod a2 7)))) (mx a1 1) (1 + (((Int.tdiv a2 7) % 256) % 7)) bt170.1 bt170.2.1 bt174.1 bt174.2.1) else (comitialaw06_BallotNext.j0 k a3 a4 t167 bt170.2.2 bt174.2.2 (bt174.2.2 != (decide ((mx a1 1) < 4294967295))) (mx a0 1) (wrap64 (1 + (wrap64 (Int.tmod a2 7)))) (mx a1 1) (1 + (((Int.tdiv a2 7) % 256) % 7)) bt170.1 bt170.2.1 bt174.1 bt174.2.1)))) else (some false))
theorem comitialaw06_BallotNext.mono_l : ∀ k, (∀ y0 y1 y2 y3 y4 y5 y6 y7 y8 y9 y10 y11 y12 y13, LeO (comitialaw06_BallotNext.j0 k y0 y1 y2 y3 y4 y5 y6 y7 y8 y9 y10 y11 y12 y13) (comitialaw06_BallotNext.j0 (k + 1) y0 y1 y2 y3 y4 y5 y6 y7 y8 y9 y10 y11 y12 y13)) ∧ (∀ y0 y1 y2 y3 y4 y5 y6 y7 y8 y9 y10 y11, LeO (comitialaw06_BallotNext.j1 k y0 y1 y2 y3 y4 y5 y6 y7 y8 y9 y10 y11) (comitialaw06_BallotNext.j1 (k + 1) y0 y1 y2 y3 y4 y5 y6 y7 y8 y9 y10 y11))
  | 0 => ⟨fun _ _ _ _ _ _ _ _ _ _ _ _ _ _ r h => by simp [comitialaw06_BallotNext.j0] at h, fun _ _ _ _ _ _ _ _ _ _ _ _ r h => by simp [comitialaw06_BallotNext.j1] at h⟩
  | k + 1 => by
    obtain ⟨ih0, ih1⟩ := comitialaw06_BallotNext.mono_l k
    refine ⟨?_, ?_⟩
    · intro y0 y1 y2 y3 y4 y5 y6 y7 y8 y9 y10 y11 y12 y13
      unfold comitialaw06_BallotNext.j0
      repeat' first
      | (with_reducible exact ih0 _ _ _ _ _ _ _ _ _ _ _ _ _ _)
      | (with_reducible exact ih1 _ _ _ _ _ _ _ _ _ _ _ _)
      | (with_reducible exact ballot_Next.mono _ _ _ _)
      | (with_reducible exact ballot_Order.mono _ _ _ _ _)
      | (with_reducible exact comitialaw06_examples.mono _)
      | (with_reducible exact LeO.refl _)
      | (with_reducible exact LeO.none _)
      | (with_reducible refine LeO.ite ?_ ?_)
      | (with_reducible refine LeO.bind ?_ (fun _ => ?_))
      | exact ih0 _ _ _ _ _ _ _ _ _ _ _ _ _ _
      | exact ih1 _ _ _ _ _ _ _ _ _ _ _ _
      | exact ballot_Next.mono _ _ _ _
      | exact ballot_Order.mono _ _ _ _ _
      | exact comitialaw06_examples.mono _
      | exact LeO.none _
      | refine LeO.ite ?_ ?_
      | refine LeO.bind ?_ (fun _ => ?_)
    · intro y0 y1 y2 y3 y4 y5 y6 y7 y8 y9 y10 y11
      unfold comitialaw06_BallotNext.j1
      repeat' first
      | (with_reducible exact ih0 _ _ _ _ _ _ _ _ _ _ _ _ _ _)
      | (with_reducible exact ih1 _ _ _ _ _ _ _ _ _ _ _ _)
      | (with_reducible exact ballot_Next.mono _ _ _ _)
      | (with_reducible exact ballot_Order.mono _ _ _ _ _)
      | (with_reducible exact comitialaw06_examples.mono _)
      | (with_reducible exact LeO.refl _)
      | (with_reducible exact LeO.none _)
      | (with_reducible refine LeO.ite ?_ ?_)
      | (with_reducible refine LeO.bind ?_ (fun _ => ?_))
      | exact ih0 _ _ _ _ _ _ _ _ _ _ _ _ _ _
      | exact ih1 _ _ _ _ _ _ _ _ _ _ _ _
      | exact ballot_Next.mono _ _ _ _
      | exact ballot_Order.mono _ _ _ _ _
      | exact comitialaw06_examples.mono _
      | exact LeO.none _
      | refine LeO.ite ?_ ?_
      | refine LeO.bind ?_ (fun _ => ?_)
theorem comitialaw06_BallotNext.mono : ∀ a0 a1 a2 a3 a4 k, LeO (comitialaw06_BallotNext.f k a0 a1 a2 a3 a4) (comitialaw06_BallotNext.f (k + 1) a0 a1 a2 a3 a4) := by
  intro a0 a1 a2 a3 a4 k
  obtain ⟨ih0, ih1⟩ := comitialaw06_BallotNext.mono_l k
  unfold comitialaw06_BallotNext.f
  repeat' first
      | (with_reducible exact ih0 _ _ _ _ _ _ _ _ _ _ _ _ _ _)
      | (with_reducible exact ih1 _ _ _ _ _ _ _ _ _ _ _ _)
      | (with_reducible exact ballot_Next.mono _ _ _ _)
      | (with_reducible exact ballot_Order.mono _ _ _ _ _)
      | (with_reducible exact comitialaw06_examples.mono _)
      | (with_reducible exact LeO.refl _)
      | (with_reducible exact LeO.none _)
      | (with_reducible refine LeO.ite ?_ ?_)
      | (with_reducible refine LeO.bind ?_ (fun _ => ?_))
      | exact ih0 _ _ _ _ _ _ _ _ _ _ _ _ _ _
      | exact ih1 _ _ _ _ _ _ _ _ _ _ _ _
      | exact ballot_Next.mono _ _ _ _
      | exact ballot_Order.mono _ _ _ _ _
      | exact comitialaw06_examples.mono _
      | exact LeO.none _
      | refine LeO.ite ?_ ?_
      | refine LeO.bind ?_ (fun _ => ?_)
def comitialaw06_BallotNext.T12 : Bool × List (List Nat × List Nat) := (true, [([], []), ([0], [0]), ([1], [1]), ([1], [1]), ([2, 3, 1, 1], [1, 2, 3]), ([4, 1], [1, 4]), ([1, 5], [1, 5]), ([6, 4], [6]), ([7], [7]), ([8, 7, 7], [7, 8]), ([7, 9], [7, 9]), ([10, 9], [10]), ([11], [11]), ([12, 11], [11, 12]), ([11], [11]), ([14, 11], [11, 14]), ([13, 15, 11], [11, 13, 15]), ([16, 11, 11], [11, 16]), ([17], [17]), ([17], [17]), ([18, 19, 17], [17, 18, 19]), ([17, 20, 11], [11, 17, 20]), ([11, 21], [11, 21]), ([22, 17], [22]), ([23], [23]), ([23], [23]), ([24, 25, 23], [23, 24, 25]), ([23], [23]), ([27, 23], [23, 27]), ([23], [23]), ([29, 23], [23, 29]), ([28, 30, 23], [23, 28, 30]), ([31, 23, 23], [23, 31]), ([32], [32]), ([33, 32], [32, 33]), ([32], [32]), ([35, 32], [32, 35]), ([34, 36, 32], [32, 34, 36]), ([32, 37, 23], [23, 32, 37]), ([26, 38, 23], [23, 26, 38]), ([23, 39], [23, 39]), ([40, 32], [40]), ([41], [41]), ([41], [41]), ([42, 43, 41, 41], [41, 42, 43]), ([41], [41]), ([41], [41]), ([45, 46, 44, 41], [41, 45, 46]), ([47, 41], [41, 47]), ([44, 48, 41], [41, 44, 48]), ([41, 49], [41, 49]), ([50, 47, 0, 1, 2, 3, 4, 5, 6, 7, 8, 9, 10, 11, 12, 13, 14, 15, 16, 17, 18, 19, 20, 21, 22, 23, 24, 25, 26, 27, 28, 29, 30, 31, 32, 33, 34, 35, 36, 37, 38, 39, 40, 41, 42, 43, 44, 45, 46, 47, 48, 49, 50], [50])])
def comitialaw06_BallotNext.B12 : List Nat := [0, 1, 3, 3, 15, 31, 63, 127, 255, 511, 1023, 2047, 4095, 8191, 4095, 20479, 65535, 131071, 262143, 262143, 1048575, 2097151, 4194303, 8388607, 16777215, 16777215, 67108863, 16777215, 150994943, 16777215, 553648127, 2030043135, 4177526783, 8472494079, 17062428671, 8472494079, 42832232447, 137321512959, 274760466431, 549755813887, 1099511627775, 2199023255551, 4398046511103, 4398046511103, 17592186044415, 4398046511103, 4398046511103, 140737488355327, 281474976710655, 562949953421311, 1125899906842623, 2251799813685247]
theorem comitialaw06_BallotNext.tab12 : rtab .any (opsOf Tryd.f4 12) = comitialaw06_BallotNext.T12 := by kernel_rfl
theorem comitialaw06_BallotNext.bits12 : waitsOk comitialaw06_BallotNext.T12.2 comitialaw06_BallotNext.B12 = true := by kernel_rfl
set_option maxHeartbeats 8000000 in
set_option maxRecDepth 100000 in
theorem comitialaw06_BallotNext.calls (k : Nat) (a0 : Int) (a1 : Int) (a2 : Int) (a3 : Int) (a4 : Int) (r : Bool) (w : World) (hT_ : Strconv.Tab w) (h : comitialaw06_BallotNext.f k a0 a1 a2 a3 a4 = some r) :
    Calls Tryd.prog 4 #[.int .u32 a0, .int .u32 a1, .int .u8 a2, .int .u8 a3, .int .u8 a4] w fun e w' => e = .returned (.bool r) ∧ Below w.heap.size w w' := by
 have hu24 := Tryd.underlying24
 have HSC_ := aM hT_
 clear hT_
 have HB := aM (Below.refl w.heap.size w)
 have H : ((comitialaw06_examples.f k).bind fun t167 => (if t167 = true then ((ballot_Next.f k (mx a0 1) (wrap64 (1 + (wrap64 (Int.tmod a2 7)))) (wrap64 (1 + (wrap64 (Int.tmod a3 7))))).bind fun bt170 => ((ballot_Next.f k (mx a1 1) (1 + (((Int.tdiv a2 7) % 256) % 7)) (wrap64 (1 + (wrap64 (Int.tmod a4 7))))).bind fun bt174 => (if (bt170.2.2 != (decide ((mx a0 1) < 4294967295))) = true then (comitialaw06_BallotNext.j0 k a3 a4 t167 bt170.2.2 bt174.2.2 true (mx a0 1) (wrap64 (1 + (wrap64 (Int.tmod a2 7)))) (mx a1 1) (1 + (((Int.tdiv a2 7) % 256) % 7)) bt170.1 bt170.2.1 bt174.1 bt174.2.1) else (comitialaw06_BallotNext.j0 k a3 a4 t167 bt170.2.2 bt174.2.2 (bt174.2.2 != (decide ((mx a1 1) < 4294967295))) (mx a0 1) (wrap64 (1 + (wrap64 (Int.tmod a2 7)))) (mx a1 1) (1 + (((Int.tdiv a2 7) % 256) % 7)) bt170.1 bt170.2.1 bt174.1 bt174.2.1)))) else (some false))) = some r := h
 clear h
 replace H := Option.bind_eq_some_iff.mp H
 obtain ⟨t167, A60, H⟩ := H
 replace H : (if t167 = true then ((ballot_Next.f k (mx a0 1) (wrap64 (1 + (wrap64 (Int.tmod a2 7)))) (wrap64 (1 + (wrap64 (Int.tmod a3 7))))).bind fun bt170 => ((ballot_Next.f k (mx a1 1) (1 + (((Int.tdiv a2 7) % 256) % 7)) (wrap64 (1 + (wrap64 (Int.tmod a4 7))))).bind fun bt174 => (if (bt170.2.2 != (decide ((mx a0 1) < 4294967295))) = true then (comitialaw06_BallotNext.j0 k a3 a4 t167 bt170.2.2 bt174.2.2 true (mx a0 1) (wrap64 (1 + (wrap64 (Int.tmod a2 7)))) (mx a1 1) (1 + (((Int.tdiv a2 7) % 256) % 7)) bt170.1 bt170.2.1 bt174.1 bt174.2.1) else (comitialaw06_BallotNext.j0 k a3 a4 t167 bt170.2.2 bt174.2.2 (bt174.2.2 != (decide ((mx a1 1) < 4294967295))) (mx a0 1) (wrap64 (1 + (wrap64 (Int.tmod a2 7)))) (mx a1 1) (1 + (((Int.tdiv a2 7) % 256) % 7)) bt170.1 bt170.2.1 bt174.1 bt174.2.1)))) else (some false)) = some r := H
 have A6 := aM A60
 clear A60
 by_cases c7 : t167 = true
 ·subst c7
  have H1 : ((ballot_Next.f k (mx a0 1) (wrap64 (1 + (wrap64 (Int.tmod a2 7)))) (wrap64 (1 + (wrap64 (Int.tmod a3 7))))).bind fun bt170 => ((ballot_Next.f k (mx a1 1) (1 + (((Int.tdiv a2 7) % 256) % 7)) (wrap64 (1 + (wrap64 (Int.tmod a4 7))))).bind fun bt174 => (if (bt170.2.2 != (decide ((mx a0 1) < 4294967295))) = true then (comitialaw06_BallotNext.j0 k a3 a4 true bt170.2.2 bt174.2.2 true (mx a0 1) (wrap64 (1 + (wrap64 (Int.tmod a2 7)))) (mx a1 1) (1 + (((Int.tdiv a2 7) % 256) % 7)) bt170.1 bt170.2.1 bt174.1 bt174.2.1) else (comitialaw06_BallotNext.j0 k a3 a4 true bt170.2.2 bt174.2.2 (bt174.2.2 != (decide ((mx a1 1) < 4294967295))) (mx a0 1) (wrap64 (1 + (wrap64 (Int.tmod a2 7)))) (mx a1 1) (1 + (((Int.tdiv a2 7) % 256) % 7)) bt170.1 bt170.2.1 bt174.1 bt174.2.1)))) = some r := by rw [if_pos rfl] at H; exact H
  clear H
  have H := H1
  clear H1
  obtain ⟨ji8, hji8⟩ : ∃ j_ : Int, (mx a0 1) = j_ := ⟨_, rfl⟩
  replace H : ((ballot_Next.f k (ji8) (wrap64 (1 + (wrap64 (Int.tmod a2 7)))) (wrap64 (1 + (wrap64 (Int.tmod a3 7))))).bind fun bt170 => ((ballot_Next.f k (mx a1 1) (1 + (((Int.tdiv a2 7) % 256) % 7)) (wrap64 (1 + (wrap64 (Int.tmod a4 7))))).bind fun bt174 => (if (bt170.2.2 != (decide ((ji8) < 4294967295))) = true then (comitialaw06_BallotNext.j0 k a3 a4 true bt170.2.2 bt174.2.2 true ji8 (wrap64 (1 + (wrap64 (Int.tmod a2 7)))) (mx a1 1) (1 + (((Int.tdiv a2 7) % 256) % 7)) bt170.1 bt170.2.1 bt174.1 bt174.2.1) else (comitialaw06_BallotNext.j0 k a3 a4 true bt170.2.2 bt174.2.2 (bt174.2.2 != (decide ((mx a1 1) < 4294967295))) ji8 (wrap64 (1 + (wrap64 (Int.tmod a2 7)))) (mx a1 1) (1 + (((Int.tdiv a2 7) % 256) % 7)) bt170.1 bt170.2.1 bt174.1 bt174.2.1)))) = some r := by first | (rw [hji8] at H; exact H) | (simp only [hji8] at H ⊢; exact H)
  (try rw [hji8] at A6)
  (try (have hji8l : 1 ≤ ji8 := by (rw [← hji8]; unfold mx; (repeat' split) <;> omega)))
  (try (have hji8m : 0 ≤ ji8 := by omega))
  have hji8_ : (if a0 < 1 then 1 else a0) = ji8 := hji8
  obtain ⟨ji9, hji9⟩ : ∃ j_ : Int, (mx a1 1) = j_ := ⟨_, rfl⟩
  replace H : ((ballot_Next.f k (ji8) (wrap64 (1 + (wrap64 (Int.tmod a2 7)))) (wrap64 (1 + (wrap64 (Int.tmod a3 7))))).bind fun bt170 => ((ballot_Next.f k (ji9) (1 + (((Int.tdiv a2 7) % 256) % 7)) (wrap64 (1 + (wrap64 (Int.tmod a4 7))))).bind fun bt174 => (if (bt170.2.2 != (decide ((ji8) < 4294967295))) = true then (comitialaw06_BallotNext.j0 k a3 a4 true bt170.2.2 bt174.2.2 true ji8 (wrap64 (1 + (wrap64 (Int.tmod a2 7)))) ji9 (1 + (((Int.tdiv a2 7) % 256) % 7)) bt170.1 bt170.2.1 bt174.1 bt174.2.1) else (comitialaw06_BallotNext.j0 k a3 a4 true bt170.2.2 bt174.2.2 (bt174.2.2 != (decide ((ji9) < 4294967295))) ji8 (wrap64 (1 + (wrap64 (Int.tmod a2 7)))) ji9 (1 + (((Int.tdiv a2 7) % 256) % 7)) bt170.1 bt170.2.1 bt174.1 bt174.2.1)))) = some r := by first | (rw [hji9] at H; exact H) | (simp only [hji9] at H ⊢; exact H)
  (try rw [hji9] at A6)
  (try (have hji9l : 1 ≤ ji9 := by (rw [← hji9]; unfold mx; (repeat' split) <;> omega)))
  (try (have hji9m : 0 ≤ ji9 := by omega))
  have hji9_ : (if a1 < 1 then 1 else a1) = ji9 := hji9
  replace H := Option.bind_eq_some_iff.mp H
  obtain ⟨⟨t170, t171, t172⟩, A100, H⟩ := H
  replace H : ((ballot_Next.f k (ji9) (1 + (((Int.tdiv a2 7) % 256) % 7)) (wrap64 (1 + (wrap64 (Int.tmod a4 7))))).bind fun bt174 => (if (t172 != (decide ((ji8) < 4294967295))) = true then (comitialaw06_BallotNext.j0 k a3 a4 true t172 bt174.2.2 true ji8 (wrap64 (1 + (wrap64 (Int.tmod a2 7)))) ji9 (1 + (((Int.tdiv a2 7) % 256) % 7)) t170 t171 bt174.1 bt174.2.1) else (comitialaw06_BallotNext.j0 k a3 a4 true t172 bt174.2.2 (bt174.2.2 != (decide ((ji9) < 4294967295))) ji8 (wrap64 (1 + (wrap64 (Int.tmod a2 7)))) ji9 (1 + (((Int.tdiv a2 7) % 256) % 7)) t170 t171 bt174.1 bt174.2.1))) = some r := H
  have A10 := aM A100
  clear A100
  replace H := Option.bind_eq_some_iff.mp H
  obtain ⟨⟨t174, t175, t176⟩, A110, H⟩ := H
  replace H : (if (t172 != (decide ((ji8) < 4294967295))) = true then (comitialaw06_BallotNext.j0 k a3 a4 true t172 t176 true ji8 (wrap64 (1 + (wrap64 (Int.tmod a2 7)))) ji9 (1 + (((Int.tdiv a2 7) % 256) % 7)) t170 t171 t174 t175) else (comitialaw06_BallotNext.j0 k a3 a4 true t172 t176 (t176 != (decide ((ji9) < 4294967295))) ji8 (wrap64 (1 + (wrap64 (Int.tmod a2 7)))) ji9 (1 + (((Int.tdiv a2 7) % 256) % 7)) t170 t171 t174 t175)) = some r := H
  have A11 := aM A110
  clear A110
  have HC12 := aM H
  clear H
  go_enter Tryd.func4, Tryd.ntmps4
  go_upto_region 8 with (first | ((with_reducible refine gate_callee (f := 9) rfl ?_); refine goesL_ (some 18) rfl rfl Tryd.func9 (by kernel_rfl) rfl #[] rfl (by (try simp only [List.map_toArray, List.map_cons, List.map_nil]); first | done | rfl | (simp only [List.length_drop, List.length_take]; rfl)) ?_; (with_reducible refine (comitialaw06_examples.calls k  true _ ?side1 A6.out).mono ?_); (case side1 => first | (with_reducible exact HSC_.out) | exact Strconv.Tab.below HSC_.out (by repeat (first | (with_reducible first | exact HB.out | apply bA | apply bN | apply bD) | exact HB.out))); rintro e w13 ⟨rfl, hb⟩; refine ⟨_, rfl, ?_⟩; have n0_ := aM (below_step (by repeat (first | (with_reducible first | exact HB.out | apply bA | apply bN | apply bD) | exact HB.out)) hb); clear HB; have HB := n0_; clear n0_; (try clear hb); (try clear hb2); (try clear hk); (try clear hi)) | ((with_reducible refine gate_dst (N := 12) rfl ?_); refine box_event ?hg (N := 12) ?hd (cs := #[.int .u32 0, .int .i64 0]) (t := 24) ?hr ?_; (case hd => rfl); (case hg => rfl); (case hr => first | (go_simp; done) | (go_simp; rfl) | (go_simp; simp only [IntKind.wrap_u8, IntKind.wrap_u32]; done) | (go_simp; simp only [IntKind.wrap_u8, IntKind.wrap_u32]; rfl)); intro gb168 hg w14 hbox hb; have n0_ := aM (below_step (by repeat (first | (with_reducible first | exact HB.out | apply bA | apply bN | apply bD) | exact HB.out)) hb); have n1_ := aM (hbox); have n2_ := aM ((by rw [hg]; exact (below_size (by repeat (first | (with_reducible first | exact HB.out | apply bA | apply bN | apply bD) | exact HB.out))) : w.heap.size ≤ gb168)); have n3_ := aM ((by rw [hg]; exact (below_size (by repeat (first | (with_reducible first | exact HB.out | apply bA | apply bN | apply bD) | exact HB.out))) : w.heap.size ≤ gb168)); clear HB; have HB := n0_; have BK168 := n1_; have GW168 := n2_; have GE168 := n3_; clear n0_ n1_ n2_ n3_; clear hb hbox hg; have hcz15_0 : w14.cell? ⟨gb168, 0, none⟩ = some (.int .u32 0) := (kC BK168.out 0).trans rfl; have hcz15_1 : w14.cell? ⟨gb168, 1, none⟩ = some (.int .i64 0) := (kC BK168.out 1).trans rfl; have hfz15_0 := kF BK168.out 0; have hfz15_1 := kF BK168.out 1) | ((with_reducible refine gate_dst (N := 13) rfl ?_); refine box_event ?hg (N := 13) ?hd (cs := #[.int .u32 0, .int .i64 0]) (t := 24) ?hr ?_; (case hd => rfl); (case hg => rfl); (case hr => first | (go_simp; done) | (go_simp; rfl) | (go_simp; simp only [IntKind.wrap_u8, IntKind.wrap_u32]; done) | (go_simp; simp only [IntKind.wrap_u8, IntKind.wrap_u32]; rfl)); intro gb169 hg w16 hbox hb; have n0_ := aM (kB (g := gb168) (o := .cells #[.int .u32 ji8, .int .i64 (wrap64 (1 + (wrap64 (Int.tmod a2 7))))] 24 (0, 0)) (by (with_reducible repeat (first | refine kN ?_ _ | refine kD ?_ | refine kA ?_ _)); refine blk_put (cs := #[.int .u32 ji8, .int .i64 0]) ?_ 1 _ rfl; (with_reducible repeat (first | refine kN ?_ _ | refine kD ?_ | refine kA ?_ _)); refine blk_put (cs := #[.int .u32 0, .int .i64 0]) ?_ 0 _ rfl; (with_reducible repeat (first | refine kN ?_ _ | refine kD ?_ | refine kA ?_ _)); exact BK168.out) hb); have n1_ := aM (below_step (by repeat (first | (with_reducible first | exact HB.out | apply bA | apply bN | apply bD | refine bS ?_ GE168.out) | exact HB.out)) hb); have n2_ := aM (hbox); have n3_ := aM ((by rw [hg]; exact (below_size (by repeat (first | (with_reducible first | exact HB.out | apply bA | apply bN | apply bD | refine bS ?_ GE168.out) | exact HB.out))) : w.heap.size ≤ gb169)); have n4_ := aM ((by rw [hg]; exact (below_size (by repeat (first | (with_reducible first | exact HB.out | apply bA | apply bN | apply bD | refine bS ?_ GE168.out) | exact HB.out))) : w.heap.size ≤ gb169)); have n5_ := aM ((by rw [hg]; exact Nat.ne_of_lt (blk_lt (g := gb168) (o := .cells #[.int .u32 ji8, .int .i64 (wrap64 (1 + (wrap64 (Int.tmod a2 7))))] 24 (0, 0)) (by (with_reducible repeat (first | refine kN ?_ _ | refine kD ?_ | refine kA ?_ _)); refine blk_put (cs := #[.int .u32 ji8, .int .i64 0]) ?_ 1 _ rfl; (with_reducible repeat (first | refine kN ?_ _ | refine kD ?_ | refine kA ?_ _)); refine blk_put (cs := #[.int .u32 0, .int .i64 0]) ?_ 0 _ rfl; (with_reducible repeat (first | refine kN ?_ _ | refine kD ?_ | refine kA ?_ _)); exact BK168.out)) : gb168 ≠ gb169)); have n6_ := aM ((by rw [hg]; exact Nat.ne_of_gt (blk_lt (g := gb168) (o := .cells #[.int .u32 ji8, .int .i64 (wrap64 (1 + (wrap64 (Int.tmod a2 7))))] 24 (0, 0)) (by (with_reducible repeat (first | refine kN ?_ _ | refine kD ?_ | refine kA ?_ _)); refine blk_put (cs := #[.int .u32 ji8, .int .i64 0]) ?_ 1 _ rfl; (with_reducible repeat (first | refine kN ?_ _ | refine kD ?_ | refine kA ?_ _)); refine blk_put (cs := #[.int .u32 0, .int .i64 0]) ?_ 0 _ rfl; (with_reducible repeat (first | refine kN ?_ _ | refine kD ?_ | refine kA ?_ _)); exact BK168.out)) : gb169 ≠ gb168)); clear BK168; clear HB; have BK168 := n0_; have HB := n1_; have BK169 := n2_; have GW169 := n3_; have GE169 := n4_; have NB168_169 := n5_; have NB169_168 := n6_; clear n0_ n1_ n2_ n3_ n4_ n5_ n6_; clear hb hbox hg; have hnb17 := NB169_168.out; have hnc17 := NB168_169.out; have hcz18_0 : w16.cell? ⟨gb169, 0, none⟩ = some (.int .u32 0) := (kC BK169.out 0).trans rfl; have hcz18_1 : w16.cell? ⟨gb169, 1, none⟩ = some (.int .i64 0) := (kC BK169.out 1).trans rfl; have hfz18_0 := kF BK169.out 0; have hfz18_1 := kF BK169.out 1; have hcz19_0 : w16.cell? ⟨gb168, 0, none⟩ = some (.int .u32 ji8) := (kC BK168.out 0).trans rfl; have hcz19_1 : w16.cell? ⟨gb168, 1, none⟩ = some (.int .i64 (wrap64 (1 + (wrap64 (Int.tmod a2 7))))) := (kC BK168.out 1).trans rfl; have hfz19_0 := kF BK168.out 0; have hfz19_1 := kF BK168.out 1) | ((with_reducible refine gate_callee (f := 10) rfl ?_); refine goesL_ (some 42) rfl rfl Tryd.func10 (by kernel_rfl) rfl #[.agg #[.int .u32 ji8, .int .i64 (wrap64 (1 + (wrap64 (Int.tmod a2 7))))], .int .i64 (wrap64 (1 + (wrap64 (Int.tmod a3 7))))] rfl (by (try simp only [List.map_toArray, List.map_cons, List.map_nil]); first | done | (simp only [hji8]; rfl) | rfl | (simp only [List.length_drop, List.length_take]; rfl)) ?_; (with_reducible refine (ballot_Next.calls k ji8 (wrap64 (1 + (wrap64 (Int.tmod a2 7)))) (wrap64 (1 + (wrap64 (Int.tmod a3 7)))) t170 t171 t172 _ A10.out).mono ?_); rintro e w20 ⟨rfl, hb⟩; refine ⟨_, rfl, ?_⟩; have n0_ := aM (kB (g := gb168) (o := .cells #[.int .u32 ji8, .int .i64 (wrap64 (1 + (wrap64 (Int.tmod a2 7))))] 24 (0, 0)) (by (with_reducible repeat (first | refine kN ?_ _ | refine kD ?_ | refine kA ?_ _)); refine kR ?_ NB168_169.out _; (with_reducible repeat (first | refine kN ?_ _ | refine kD ?_ | refine kA ?_ _)); refine kR ?_ NB168_169.out _; (with_reducible repeat (first | refine kN ?_ _ | refine kD ?_ | refine kA ?_ _)); exact BK168.out) hb); have n1_ := aM (kB (g := gb169) (o := .cells #[.int .u32 ji9, .int .i64 (1 + (((Int.tdiv a2 7) % 256) % 7))] 24 (0, 0)) (by (with_reducible repeat (first | refine kN ?_ _ | refine kD ?_ | refine kA ?_ _)); refine blk_put (cs := #[.int .u32 ji9, .int .i64 0]) ?_ 1 _ rfl; (with_reducible repeat (first | refine kN ?_ _ | refine kD ?_ | refine kA ?_ _)); refine blk_put (cs := #[.int .u32 0, .int .i64 0]) ?_ 0 _ rfl; (with_reducible repeat (first | refine kN ?_ _ | refine kD ?_ | refine kA ?_ _)); exact BK169.out) hb); have n2_ := aM (below_step (by repeat (first | (with_reducible first | exact HB.out | apply bA | apply bN | apply bD | refine bS ?_ GE168.out | refine bS ?_ GE169.out) | exact HB.out)) hb); clear BK168; clear BK169; clear HB; have BK168 := n0_; have BK169 := n1_; have HB := n2_; clear n0_ n1_ n2_; (try clear hb); (try clear hb2); (try clear hk); (try clear hi)) | ((with_reducible refine gate_dst (N := 14) rfl ?_); refine box_event ?hg (N := 14) ?hd (cs := #[.int .u32 0, .int .i64 0]) (t := 24) ?hr ?_; (case hd => rfl); (case hg => rfl); (case hr => first | (go_simp; done) | (go_simp; rfl) | (go_simp; simp only [IntKind.wrap_u8, IntKind.wrap_u32]; done) | (go_simp; simp only [IntKind.wrap_u8, IntKind.wrap_u32]; rfl)); intro gb173 hg w21 hbox hb; have n0_ := aM (kB (g := gb168) (o := .cells #[.int .u32 ji8, .int .i64 (wrap64 (1 + (wrap64 (Int.tmod a2 7))))] 24 (0, 0)) (by (with_reducible repeat (first | refine kN ?_ _ | refine kD ?_ | refine kA ?_ _)); exact BK168.out) hb); have n1_ := aM (kB (g := gb169) (o := .cells #[.int .u32 ji9, .int .i64 (1 + (((Int.tdiv a2 7) % 256) % 7))] 24 (0, 0)) (by (with_reducible repeat (first | refine kN ?_ _ | refine kD ?_ | refine kA ?_ _)); exact BK169.out) hb); have n2_ := aM (below_step (by repeat (first | (with_reducible first | exact HB.out | apply bA | apply bN | apply bD | refine bS ?_ GE168.out | refine bS ?_ GE169.out) | exact HB.out)) hb); have n3_ := aM (hbox); have n4_ := aM ((by rw [hg]; exact (below_size (by repeat (first | (with_reducible first | exact HB.out | apply bA | apply bN | apply bD | refine bS ?_ GE168.out | refine bS ?_ GE169.out) | exact HB.out))) : w.heap.size ≤ gb173)); have n5_ := aM ((by rw [hg]; exact (below_size (by repeat (first | (with_reducible first | exact HB.out | apply bA | apply bN | apply bD | refine bS ?_ GE168.out | refine bS ?_ GE169.out) | exact HB.out))) : w.heap.size ≤ gb173)); have n6_ := aM ((by rw [hg]; exact Nat.ne_of_lt (blk_lt (g := gb168) (o := .cells #[.int .u32 ji8, .int .i64 (wrap64 (1 + (wrap64 (Int.tmod a2 7))))] 24 (0, 0)) (by (with_reducible repeat (first | refine kN ?_ _ | refine kD ?_ | refine kA ?_ _)); exact BK168.out)) : gb168 ≠ gb173)); have n7_ := aM ((by rw [hg]; exact Nat.ne_of_gt (blk_lt (g := gb168) (o := .cells #[.int .u32 ji8, .int .i64 (wrap64 (1 + (wrap64 (Int.tmod a2 7))))] 24 (0, 0)) (by (with_reducible repeat (first | refine kN ?_ _ | refine kD ?_ | refine kA ?_ _)); exact BK168.out)) : gb173 ≠ gb168)); have n8_ := aM ((by rw [hg]; exact Nat.ne_of_lt (blk_lt (g := gb169) (o := .cells #[.int .u32 ji9, .int .i64 (1 + (((Int.tdiv a2 7) % 256) % 7))] 24 (0, 0)) (by (with_reducible repeat (first | refine kN ?_ _ | refine kD ?_ | refine kA ?_ _)); exact BK169.out)) : gb169 ≠ gb173)); have n9_ := aM ((by rw [hg]; exact Nat.ne_of_gt (blk_lt (g := gb169) (o := .cells #[.int .u32 ji9, .int .i64 (1 + (((Int.tdiv a2 7) % 256) % 7))] 24 (0, 0)) (by (with_reducible repeat (first | refine kN ?_ _ | refine kD ?_ | refine kA ?_ _)); exact BK169.out)) : gb173 ≠ gb169)); clear BK168; clear BK169; clear HB; have BK168 := n0_; have BK169 := n1_; have HB := n2_; have BK173 := n3_; have GW173 := n4_; have GE173 := n5_; have NB168_173 := n6_; have NB173_168 := n7_; have NB169_173 := n8_; have NB173_169 := n9_; clear n0_ n1_ n2_ n3_ n4_ n5_ n6_ n7_ n8_ n9_; clear hb hbox hg; have hnb22 := NB173_168.out; have hnc22 := NB168_173.out; have hnb23 := NB173_169.out; have hnc23 := NB169_173.out; have hcz24_0 : w21.cell? ⟨gb173, 0, none⟩ = some (.int .u32 0) := (kC BK173.out 0).trans rfl; have hcz24_1 : w21.cell? ⟨gb173, 1, none⟩ = some (.int .i64 0) := (kC BK173.out 1).trans rfl; have hfz24_0 := kF BK173.out 0; have hfz24_1 := kF BK173.out 1; have hcz25_0 : w21.cell? ⟨gb169, 0, none⟩ = some (.int .u32 ji9) := (kC BK169.out 0).trans rfl; have hcz25_1 : w21.cell? ⟨gb169, 1, none⟩ = some (.int .i64 (1 + (((Int.tdiv a2 7) % 256) % 7))) := (kC BK169.out 1).trans rfl; have hfz25_0 := kF BK169.out 0; have hfz25_1 := kF BK169.out 1) | ((with_reducible refine gate_callee (f := 10) rfl ?_); refine goesL_ (some 51) rfl rfl Tryd.func10 (by kernel_rfl) rfl #[.agg #[.int .u32 ji9, .int .i64 (1 + (((Int.tdiv a2 7) % 256) % 7))], .int .i64 (wrap64 (1 + (wrap64 (Int.tmod a4 7))))] rfl (by (try simp only [List.map_toArray, List.map_cons, List.map_nil]); first | done | (simp only [hji9]; rfl) | rfl | (simp only [List.length_drop, List.length_take]; rfl)) ?_; (with_reducible refine (ballot_Next.calls k ji9 (1 + (((Int.tdiv a2 7) % 256) % 7)) (wrap64 (1 + (wrap64 (Int.tmod a4 7)))) t174 t175 t176 _ A11.out).mono ?_); rintro e w26 ⟨rfl, hb⟩; refine ⟨_, rfl, ?_⟩; have n0_ := aM (kB (g := gb168) (o := .cells #[.int .u32 ji8, .int .i64 (wrap64 (1 + (wrap64 (Int.tmod a2 7))))] 24 (0, 0)) (by (with_reducible repeat (first | refine kN ?_ _ | refine kD ?_ | refine kA ?_ _)); refine kR ?_ NB168_173.out _; (with_reducible repeat (first | refine kN ?_ _ | refine kD ?_ | refine kA ?_ _)); refine kR ?_ NB168_173.out _; (with_reducible repeat (first | refine kN ?_ _ | refine kD ?_ | refine kA ?_ _)); exact BK168.out) hb); have n1_ := aM (kB (g := gb169) (o := .cells #[.int .u32 ji9, .int .i64 (1 + (((Int.tdiv a2 7) % 256) % 7))] 24 (0, 0)) (by (with_reducible repeat (first | refine kN ?_ _ | refine kD ?_ | refine kA ?_ _)); refine kR ?_ NB169_173.out _; (with_reducible repeat (first | refine kN ?_ _ | refine kD ?_ | refine kA ?_ _)); refine kR ?_ NB169_173.out _; (with_reducible repeat (first | refine kN ?_ _ | refine kD ?_ | refine kA ?_ _)); exact BK169.out) hb); have n2_ := aM (kB (g := gb173) (o := .cells #[.int .u32 t170, .int .i64 t171] 24 (0, 0)) (by (with_reducible repeat (first | refine kN ?_ _ | refine kD ?_ | refine kA ?_ _)); refine blk_put (cs := #[.int .u32 t170, .int .i64 0]) ?_ 1 _ rfl; (with_reducible repeat (first | refine kN ?_ _ | refine kD ?_ | refine kA ?_ _)); refine blk_put (cs := #[.int .u32 0, .int .i64 0]) ?_ 0 _ rfl; (with_reducible repeat (first | refine kN ?_ _ | refine kD ?_ | refine kA ?_ _)); exact BK173.out) hb); have n3_ := aM (below_step (by repeat (first | (with_reducible first | exact HB.out | apply bA | apply bN | apply bD | refine bS ?_ GE168.out | refine bS ?_ GE169.out | refine bS ?_ GE173.out) | exact HB.out)) hb); clear BK168; clear BK169; clear BK173; clear HB; have BK168 := n0_; have BK169 := n1_; have BK173 := n2_; have HB := n3_; clear n0_ n1_ n2_ n3_; (try clear hb); (try clear hb2); (try clear hk); (try clear hi)) | ((with_reducible refine gate_dst (N := 16) rfl ?_); refine box_event ?hg (N := 16) ?hd (cs := #[.int .u32 0, .int .i64 0]) (t := 24) ?hr ?_; (case hd => rfl); (case hg => rfl); (case hr => first | (go_simp; done) | (go_simp; rfl) | (go_simp; simp only [IntKind.wrap_u8, IntKind.wrap_u32]; done) | (go_simp; simp only [IntKind.wrap_u8, IntKind.wrap_u32]; rfl)); intro gb177 hg w27 hbox hb; have n0_ := aM (kB (g := gb168) (o := .cells #[.int .u32 ji8, .int .i64 (wrap64 (1 + (wrap64 (Int.tmod a2 7))))] 24 (0, 0)) (by (with_reducible repeat (first | refine kN ?_ _ | refine kD ?_ | refine kA ?_ _)); exact BK168.out) hb); have n1_ := aM (kB (g := gb169) (o := .cells #[.int .u32 ji9, .int .i64 (1 + (((Int.tdiv a2 7) % 256) % 7))] 24 (0, 0)) (by (with_reducible repeat (first | refine kN ?_ _ | refine kD ?_ | refine kA ?_ _)); exact BK169.out) hb); have n2_ := aM (kB (g := gb173) (o := .cells #[.int .u32 t170, .int .i64 t171] 24 (0, 0)) (by (with_reducible repeat (first | refine kN ?_ _ | refine kD ?_ | refine kA ?_ _)); exact BK173.out) hb); have n3_ := aM (below_step (by repeat (first | (with_reducible first | exact HB.out | apply bA | apply bN | apply bD | refine bS ?_ GE168.out | refine bS ?_ GE169.out | refine bS ?_ GE173.out) | exact HB.out)) hb); have n4_ := aM (hbox); have n5_ := aM ((by rw [hg]; exact (below_size (by repeat (first | (with_reducible first | exact HB.out | apply bA | apply bN | apply bD | refine bS ?_ GE168.out | refine bS ?_ GE169.out | refine bS ?_ GE173.out) | exact HB.out))) : w.heap.size ≤ gb177)); have n6_ := aM ((by rw [hg]; exact (below_size (by repeat (first | (with_reducible first | exact HB.out | apply bA | apply bN | apply bD | refine bS ?_ GE168.out | refine bS ?_ GE169.out | refine bS ?_ GE173.out) | exact HB.out))) : w.heap.size ≤ gb177)); have n7_ := aM ((by rw [hg]; exact Nat.ne_of_lt (blk_lt (g := gb168) (o := .cells #[.int .u32 ji8, .int .i64 (wrap64 (1 + (wrap64 (Int.tmod a2 7))))] 24 (0, 0)) (by (with_reducible repeat (first | refine kN ?_ _ | refine kD ?_ | refine kA ?_ _)); exact BK168.out)) : gb168 ≠ gb177)); have n8_ := aM ((by rw [hg]; exact Nat.ne_of_gt (blk_lt (g := gb168) (o := .cells #[.int .u32 ji8, .int .i64 (wrap64 (1 + (wrap64 (Int.tmod a2 7))))] 24 (0, 0)) (by (with_reducible repeat (first | refine kN ?_ _ | refine kD ?_ | refine kA ?_ _)); exact BK168.out)) : gb177 ≠ gb168)); have n9_ := aM ((by rw [hg]; exact Nat.ne_of_lt (blk_lt (g := gb169) (o := .cells #[.int .u32 ji9, .int .i64 (1 + (((Int.tdiv a2 7) % 256) % 7))] 24 (0, 0)) (by (with_reducible repeat (first | refine kN ?_ _ | refine kD ?_ | refine kA ?_ _)); exact BK169.out)) : gb169 ≠ gb177)); have n10_ := aM ((by rw [hg]; exact Nat.ne_of_gt (blk_lt (g := gb169) (o := .cells #[.int .u32 ji9, .int .i64 (1 + (((Int.tdiv a2 7) % 256) % 7))] 24 (0, 0)) (by (with_reducible repeat (first | refine kN ?_ _ | refine kD ?_ | refine kA ?_ _)); exact BK169.out)) : gb177 ≠ gb169)); have n11_ := aM ((by rw [hg]; exact Nat.ne_of_lt (blk_lt (g := gb173) (o := .cells #[.int .u32 t170, .int .i64 t171] 24 (0, 0)) (by (with_reducible repeat (first | refine kN ?_ _ | refine kD ?_ | refine kA ?_ _)); exact BK173.out)) : gb173 ≠ gb177)); have n12_ := aM ((by rw [hg]; exact Nat.ne_of_gt (blk_lt (g := gb173) (o := .cells #[.int .u32 t170, .int .i64 t171] 24 (0, 0)) (by (with_reducible repeat (first | refine kN ?_ _ | refine kD ?_ | refine kA ?_ _)); exact BK173.out)) : gb177 ≠ gb173)); clear BK168; clear BK169; clear BK173; clear HB; have BK168 := n0_; have BK169 := n1_; have BK173 := n2_; have HB := n3_; have BK177 := n4_; have GW177 := n5_; have GE177 := n6_; have NB168_177 := n7_; have NB177_168 := n8_; have NB169_177 := n9_; have NB177_169 := n10_; have NB173_177 := n11_; have NB177_173 := n12_; clear n0_ n1_ n2_ n3_ n4_ n5_ n6_ n7_ n8_ n9_ n10_ n11_ n12_; clear hb hbox hg; have hnb28 := NB177_168.out; have hnc28 := NB168_177.out; have hnb29 := NB177_169.out; have hnc29 := NB169_177.out; have hnb30 := NB177_173.out; have hnc30 := NB173_177.out; have hcz31_0 : w27.cell? ⟨gb177, 0, none⟩ = some (.int .u32 0) := (kC BK177.out 0).trans rfl; have hcz31_1 : w27.cell? ⟨gb177, 1, none⟩ = some (.int .i64 0) := (kC BK177.out 1).trans rfl; have hfz31_0 := kF BK177.out 0; have hfz31_1 := kF BK177.out 1))
  (try simp only [Act.put, List.setIfInBounds_toArray, List.set_cons_zero, List.set_cons_succ])
  go_cut [65] (fun v65 wc => ∃ (kq : Nat) (x65_11 : Bool), v65 = .bool x65_11 ∧ Aside0 (comitialaw06_BallotNext.j0 kq a3 a4 true t172 t176 x65_11 ji8 (wrap64 (1 + (wrap64 (Int.tmod a2 7)))) ji9 (1 + (((Int.tdiv a2 7) % 256) % 7)) t170 t171 t174 t175 = some r) ∧ Aside0 (kq ≤ k) ∧ Aside0 (wc.heap[gb168]? = some (.cells #[.int .u32 ji8, .int .i64 (wrap64 (1 + (wrap64 (Int.tmod a2 7))))] 24 (0, 0))) ∧ Aside0 (wc.heap[gb169]? = some (.cells #[.int .u32 ji9, .int .i64 (1 + (((Int.tdiv a2 7) % 256) % 7))] 24 (0, 0))) ∧ Aside0 (wc.heap[gb173]? = some (.cells #[.int .u32 t170, .int .i64 t171] 24 (0, 0))) ∧ Aside0 (wc.heap[gb177]? = some (.cells #[.int .u32 t174, .int .i64 t175] 24 (0, 0))) ∧ Aside0 (Below w.heap.size w wc))
  case first =>
   have H := HC12.out
   clear HC12
   by_cases c32 : (t172 != (decide ((ji8) < 4294967295))) = true
   ·rw [if_pos c32] at H
    have c32b0 : (t172 != (decide ((ji8) < 4294967295))) = true := c32
    (try (have c32b1 : decide (t172 = (decide ((ji8) < 4294967295))) = false := by simpa using c32))
    (try (have c32b2 : (t172 == (decide ((ji8) < 4294967295))) = false := by simpa using c32))
    (try (have c32b3 : ¬ (t172 = (decide ((ji8) < 4294967295))) := by simpa using c32))
    clear c32
    (first | rw [c32b0] | (simp only [i64_w, i32_w]; rw [c32b0]) | skip)
    have H' := aM H
    clear H
    have hnb33 := NB168_169.out
    have hnc33 := NB169_168.out
    have hnb34 := NB168_173.out
    have hnc34 := NB173_168.out
    have hnb35 := NB168_177.out
    have hnc35 := NB177_168.out
    have hcz36_0 : w27.cell? ⟨gb168, 0, none⟩ = some (.int .u32 ji8) := (kC BK168.out 0).trans rfl
    have hcz36_1 : w27.cell? ⟨gb168, 1, none⟩ = some (.int .i64 (wrap64 (1 + (wrap64 (Int.tmod a2 7))))) := (kC BK168.out 1).trans rfl
    have hfz36_0 := kF BK168.out 0
    have hfz36_1 := kF BK168.out 1
    go_wp2
    go_meet
    case rel => exact ⟨_, (true), (by first | rfl | (simp; done) | (simp [*]; done)), H', ⟨by first | omega | exact Nat.le_refl _⟩, ⟨by (with_reducible repeat (first | refine kN ?_ _ | refine kD ?_ | refine kA ?_ _)); refine kR ?_ NB168_177.out _; (with_reducible repeat (first | refine kN ?_ _ | refine kD ?_ | refine kA ?_ _)); refine kR ?_ NB168_177.out _; (with_reducible repeat (first | refine kN ?_ _ | refine kD ?_ | refine kA ?_ _)); exact BK168.out⟩, ⟨by (with_reducible repeat (first | refine kN ?_ _ | refine kD ?_ | refine kA ?_ _)); refine kR ?_ NB169_177.out _; (with_reducible repeat (first | refine kN ?_ _ | refine kD ?_ | refine kA ?_ _)); refine kR ?_ NB169_177.out _; (with_reducible repeat (first | refine kN ?_ _ | refine kD ?_ | refine kA ?_ _)); exact BK169.out⟩, ⟨by (with_reducible repeat (first | refine kN ?_ _ | refine kD ?_ | refine kA ?_ _)); refine kR ?_ NB173_177.out _; (with_reducible repeat (first | refine kN ?_ _ | refine kD ?_ | refine kA ?_ _)); refine kR ?_ NB173_177.out _; (with_reducible repeat (first | refine kN ?_ _ | refine kD ?_ | refine kA ?_ _)); exact BK173.out⟩, ⟨by (with_reducible repeat (first | refine kN ?_ _ | refine kD ?_ | refine kA ?_ _)); refine blk_put (cs := #[.int .u32 t174, .int .i64 0]) ?_ 1 _ rfl; (with_reducible repeat (first | refine kN ?_ _ | refine kD ?_ | refine kA ?_ _)); refine blk_put (cs := #[.int .u32 0, .int .i64 0]) ?_ 0 _ rfl; (with_reducible repeat (first | refine kN ?_ _ | refine kD ?_ | refine kA ?_ _)); exact BK177.out⟩, ⟨by repeat (first | (with_reducible first | exact HB.out | apply bA | apply bN | apply bD | refine bS ?_ GE168.out | refine bS ?_ GE169.out | refine bS ?_ GE173.out | refine bS ?_ GE177.out) | exact HB.out)⟩⟩
   ·rw [if_neg c32] at H
    have c32b0 : (t172 != (decide ((ji8) < 4294967295))) = false := by simpa using c32
    (try (have c32b1 : decide (t172 = (decide ((ji8) < 4294967295))) = true := by simpa using c32))
    (try (have c32b2 : (t172 == (decide ((ji8) < 4294967295))) = true := by simpa using c32))
    clear c32
    (first | rw [c32b0] | (simp only [i64_w, i32_w]; rw [c32b0]) | skip)
    have H' := aM H
    clear H
    have hnb37 := NB168_169.out
    have hnc37 := NB169_168.out
    have hnb38 := NB168_173.out
    have hnc38 := NB173_168.out
    have hnb39 := NB168_177.out
    have hnc39 := NB177_168.out
    have hcz40_0 : w27.cell? ⟨gb168, 0, none⟩ = some (.int .u32 ji8) := (kC BK168.out 0).trans rfl
    have hcz40_1 : w27.cell? ⟨gb168, 1, none⟩ = some (.int .i64 (wrap64 (1 + (wrap64 (Int.tmod a2 7))))) := (kC BK168.out 1).trans rfl
    have hfz40_0 := kF BK168.out 0
    have hfz40_1 := kF BK168.out 1
    have hnb41 := NB169_173.out
    have hnc41 := NB173_169.out
    have hnb42 := NB169_177.out
    have hnc42 := NB177_169.out
    have hcz43_0 : w27.cell? ⟨gb169, 0, none⟩ = some (.int .u32 ji9) := (kC BK169.out 0).trans rfl
    have hcz43_1 : w27.cell? ⟨gb169, 1, none⟩ = some (.int .i64 (1 + (((Int.tdiv a2 7) % 256) % 7))) := (kC BK169.out 1).trans rfl
    have hfz43_0 := kF BK169.out 0
    have hfz43_1 := kF BK169.out 1
    go_wp2
    go_meet
    case rel => exact ⟨_, ((t176 != (decide ((ji9) < 4294967295)))), (by first | rfl | (simp; done) | (simp only [← hji9] <;> (first | rfl | simp)) | (simp [*]; done)), H', ⟨by first | omega | exact Nat.le_refl _⟩, ⟨by (with_reducible repeat (first | refine kN ?_ _ | refine kD ?_ | refine kA ?_ _)); refine kR ?_ NB168_177.out _; (with_reducible repeat (first | refine kN ?_ _ | refine kD ?_ | refine kA ?_ _)); refine kR ?_ NB168_177.out _; (with_reducible repeat (first | refine kN ?_ _ | refine kD ?_ | refine kA ?_ _)); exact BK168.out⟩, ⟨by (with_reducible repeat (first | refine kN ?_ _ | refine kD ?_ | refine kA ?_ _)); refine kR ?_ NB169_177.out _; (with_reducible repeat (first | refine kN ?_ _ | refine kD ?_ | refine kA ?_ _)); refine kR ?_ NB169_177.out _; (with_reducible repeat (first | refine kN ?_ _ | refine kD ?_ | refine kA ?_ _)); exact BK169.out⟩, ⟨by (with_reducible repeat (first | refine kN ?_ _ | refine kD ?_ | refine kA ?_ _)); refine kR ?_ NB173_177.out _; (with_reducible repeat (first | refine kN ?_ _ | refine kD ?_ | refine kA ?_ _)); refine kR ?_ NB173_177.out _; (with_reducible repeat (first | refine kN ?_ _ | refine kD ?_ | refine kA ?_ _)); exact BK173.out⟩, ⟨by (with_reducible repeat (first | refine kN ?_ _ | refine kD ?_ | refine kA ?_ _)); refine blk_put (cs := #[.int .u32 t174, .int .i64 0]) ?_ 1 _ rfl; (with_reducible repeat (first | refine kN ?_ _ | refine kD ?_ | refine kA ?_ _)); refine blk_put (cs := #[.int .u32 0, .int .i64 0]) ?_ 0 _ rfl; (with_reducible repeat (first | refine kN ?_ _ | refine kD ?_ | refine kA ?_ _)); exact BK177.out⟩, ⟨by repeat (first | (with_reducible first | exact HB.out | apply bA | apply bN | apply bD | refine bS ?_ GE168.out | refine bS ?_ GE169.out | refine bS ?_ GE173.out | refine bS ?_ GE177.out) | exact HB.out)⟩⟩
  case rest =>
   clear HC12
   try clear c1
   try clear c2
   try clear p2
   try clear c3
   try clear c4
   try clear p6
   try clear c7
   try clear c9
   try clear c10
   try clear c17
   try clear c22
   try clear c23
   try clear c28
   try clear c29
   try clear c30
   try clear c32
   try clear c32b0
   try clear c32b1
   try clear c32b2
   try clear c33
   try clear c34
   try clear c35
   try clear c37
   try clear c38
   try clear c39
   try clear c41
   try clear c42
   try clear hcz15_0
   try clear hcz15_1
   try clear hcz18_0
   try clear hcz18_1
   try clear hcz19_0
   try clear hcz19_1
   try clear hcz24_0
   try clear hcz24_1
   try clear hcz25_0
   try clear hcz25_1
   try clear hcz31_0
   try clear hcz31_1
   try clear hcz36_0
   try clear hcz36_1
   try clear hcz40_0
   try clear hcz40_1
   try clear hcz43_0
   try clear hcz43_1
   try clear hfz15_0
   try clear hfz15_1
   try clear hfz18_0
   try clear hfz18_1
   try clear hfz19_0
   try clear hfz19_1
   try clear hfz24_0
   try clear hfz24_1
   try clear hfz25_0
   try clear hfz25_1
   try clear hfz31_0
   try clear hfz31_1
   try clear hfz36_0
   try clear hfz36_1
   try clear hfz40_0
   try clear hfz40_1
   try clear hfz43_0
   try clear hfz43_1
   obtain ⟨kq, x65_11, rfl, HA, HJ11, BK168, BK169, BK173, BK177, HB⟩ := hcut
   cases kq with
   | zero => exact absurd HA.out (by simp [comitialaw06_BallotNext.j0])
   | succ kj11 =>
    have H := HA.out
    clear HA
    simp only [comitialaw06_BallotNext.j0] at H
    by_cases c44 : x65_11 = true
    ·subst c44
     have H1 : (some false) = some r := by rw [if_pos rfl] at H; exact H
     clear H
     have H := H1
     clear H1
     obtain rfl := Option.some.inj H
     go_wp2
     go_ret
     exact ⟨by first | rfl | (simp [errW_none, errW_some] <;> rfl) | (simp only [← hji8, ← hji9]; first | rfl | (simp [errW_none, errW_some] <;> rfl)) | (simp [*, errW_none, errW_some] <;> rfl), by repeat (first | (with_reducible first | exact HB.out | apply bA | apply bN | apply bD | refine bS ?_ GE168.out | refine bS ?_ GE169.out | refine bS ?_ GE173.out | refine bS ?_ GE177.out) | exact HB.out)⟩
    ·replace c44 := Bool.eq_false_iff.mpr c44
     subst c44
     have H1 : (if t172 = true then (comitialaw06_BallotNext.j1 kj11 a3 a4 true (!t176) ji8 (wrap64 (1 + (wrap64 (Int.tmod a2 7)))) ji9 (1 + (((Int.tdiv a2 7) % 256) % 7)) t170 t171 t174 t175) else (comitialaw06_BallotNext.j1 kj11 a3 a4 true true ji8 (wrap64 (1 + (wrap64 (Int.tmod a2 7)))) ji9 (1 + (((Int.tdiv a2 7) % 256) % 7)) t170 t171 t174 t175)) = some r := by rw [if_neg (show ¬ (false = true) by decide)] at H; exact H
     clear H
     have H := H1
     clear H1
     have HC45 := aM H
     clear H
     go_upto_region 10 with (fail)
     go_cut [71] (fun v71 wc => ∃ (kq : Nat) (x71_44 : Bool), v71 = .bool x71_44 ∧ Aside0 (comitialaw06_BallotNext.j1 kq a3 a4 true x71_44 ji8 (wrap64 (1 + (wrap64 (Int.tmod a2 7)))) ji9 (1 + (((Int.tdiv a2 7) % 256) % 7)) t170 t171 t174 t175 = some r) ∧ Aside0 (kq ≤ kj11) ∧ Aside0 (wc.heap[gb168]? = some (.cells #[.int .u32 ji8, .int .i64 (wrap64 (1 + (wrap64 (Int.tmod a2 7))))] 24 (0, 0))) ∧ Aside0 (wc.heap[gb169]? = some (.cells #[.int .u32 ji9, .int .i64 (1 + (((Int.tdiv a2 7) % 256) % 7))] 24 (0, 0))) ∧ Aside0 (wc.heap[gb173]? = some (.cells #[.int .u32 t170, .int .i64 t171] 24 (0, 0))) ∧ Aside0 (wc.heap[gb177]? = some (.cells #[.int .u32 t174, .int .i64 t175] 24 (0, 0))) ∧ Aside0 (Below w.heap.size w wc))
     case first =>
      have H := HC45.out
      clear HC45
      by_cases c46 : t172 = true
      ·subst c46
       have H1 : (comitialaw06_BallotNext.j1 kj11 a3 a4 true (!t176) ji8 (wrap64 (1 + (wrap64 (Int.tmod a2 7)))) ji9 (1 + (((Int.tdiv a2 7) % 256) % 7)) t170 t171 t174 t175) = some r := by rw [if_pos rfl] at H; exact H
       clear H
       have H := H1
       clear H1
       have H' := aM H
       clear H
       go_wp2
       go_meet
       case rel => exact ⟨_, (!t176), (by first | rfl | (simp; done) | (simp [*]; done)), H', ⟨by have := HJ11.out; first | omega | exact Nat.le_refl _⟩, ⟨by (with_reducible repeat (first | refine kN ?_ _ | refine kD ?_ | refine kA ?_ _)); exact BK168.out⟩, ⟨by (with_reducible repeat (first | refine kN ?_ _ | refine kD ?_ | refine kA ?_ _)); exact BK169.out⟩, ⟨by (with_reducible repeat (first | refine kN ?_ _ | refine kD ?_ | refine kA ?_ _)); exact BK173.out⟩, ⟨by (with_reducible repeat (first | refine kN ?_ _ | refine kD ?_ | refine kA ?_ _)); exact BK177.out⟩, ⟨by repeat (first | (with_reducible first | exact HB.out | apply bA | apply bN | apply bD | refine bS ?_ GE168.out | refine bS ?_ GE169.out | refine bS ?_ GE173.out | refine bS ?_ GE177.out) | exact HB.out)⟩⟩
      ·replace c46 := Bool.eq_false_iff.mpr c46
       subst c46
       have H1 : (comitialaw06_BallotNext.j1 kj11 a3 a4 true true ji8 (wrap64 (1 + (wrap64 (Int.tmod a2 7)))) ji9 (1 + (((Int.tdiv a2 7) % 256) % 7)) t170 t171 t174 t175) = some r := by rw [if_neg (show ¬ (false = true) by decide)] at H; exact H
       clear H
       have H := H1
       clear H1
       have H' := aM H
       clear H
       go_wp2
       go_meet
       case rel => exact ⟨_, (true), (by first | rfl | (simp; done) | (simp [*]; done)), H', ⟨by have := HJ11.out; first | omega | exact Nat.le_refl _⟩, ⟨by (with_reducible repeat (first | refine kN ?_ _ | refine kD ?_ | refine kA ?_ _)); exact BK168.out⟩, ⟨by (with_reducible repeat (first | refine kN ?_ _ | refine kD ?_ | refine kA ?_ _)); exact BK169.out⟩, ⟨by (with_reducible repeat (first | refine kN ?_ _ | refine kD ?_ | refine kA ?_ _)); exact BK173.out⟩, ⟨by (with_reducible repeat (first | refine kN ?_ _ | refine kD ?_ | refine kA ?_ _)); exact BK177.out⟩, ⟨by repeat (first | (with_reducible first | exact HB.out | apply bA | apply bN | apply bD | refine bS ?_ GE168.out | refine bS ?_ GE169.out | refine bS ?_ GE173.out | refine bS ?_ GE177.out) | exact HB.out)⟩⟩
     case rest =>
      clear HC45
      try clear c1
      try clear c2
      try clear p2
      try clear c3
      try clear c4
      try clear p6
      try clear c7
      try clear c9
      try clear c10
      try clear c17
      try clear c22
      try clear c23
      try clear c28
      try clear c29
      try clear c30
      try clear c32
      try clear c32b0
      try clear c32b1
      try clear c32b2
      try clear c33
      try clear c34
      try clear c35
      try clear c37
      try clear c38
      try clear c39
      try clear c41
      try clear c42
      try clear c44
      try clear c46
      try clear hcz15_0
      try clear hcz15_1
      try clear hcz18_0
      try clear hcz18_1
      try clear hcz19_0
      try clear hcz19_1
      try clear hcz24_0
      try clear hcz24_1
      try clear hcz25_0
      try clear hcz25_1
      try clear hcz31_0
      try clear hcz31_1
      try clear hcz36_0
      try clear hcz36_1
      try clear hcz40_0
      try clear hcz40_1
      try clear hcz43_0
      try clear hcz43_1
      try clear hfz15_0
      try clear hfz15_1
      try clear hfz18_0
      try clear hfz18_1
      try clear hfz19_0
      try clear hfz19_1
      try clear hfz24_0
      try clear hfz24_1
      try clear hfz25_0
      try clear hfz25_1
      try clear hfz31_0
      try clear hfz31_1
      try clear hfz36_0
      try clear hfz36_1
      try clear hfz40_0
      try clear hfz40_1
      try clear hfz43_0
      try clear hfz43_1
      try clear p2
      try clear p6
      obtain ⟨kq, x71_44, rfl, HA, HJ44, BK168, BK169, BK173, BK177, HB⟩ := hcut
      cases kq with
      | zero => exact absurd HA.out (by simp [comitialaw06_BallotNext.j1])
      | succ kj44 =>
       have H := HA.out
       clear HA
       simp only [comitialaw06_BallotNext.j1] at H
       by_cases c47 : x71_44 = true
       ·subst c47
        have H1 : (some true) = some r := by rw [if_pos rfl] at H; exact H
        clear H
        have H := H1
        clear H1
        obtain rfl := Option.some.inj H
        go_wp2
        go_ret
        exact ⟨by first | rfl | (simp [errW_none, errW_some] <;> rfl) | (simp only [← hji8, ← hji9]; first | rfl | (simp [errW_none, errW_some] <;> rfl)) | (simp [*, errW_none, errW_some] <;> rfl), by repeat (first | (with_reducible first | exact HB.out | apply bA | apply bN | apply bD | refine bS ?_ GE168.out | refine bS ?_ GE169.out | refine bS ?_ GE173.out | refine bS ?_ GE177.out) | exact HB.out)⟩
       ·replace c47 := Bool.eq_false_iff.mpr c47
        subst c47
        have H1 : (if true = true then ((ballot_Order.f kj44 t170 t171 ji8 (wrap64 (1 + (wrap64 (Int.tmod a2 7))))).bind fun t178 => (if t178 > 0 then ((ballot_Right.f t170 t171).bind fun t179 => (if t179 = true then (if (Int.tmod a3 7) = (Int.tmod a4 7) then (if ((t170 == t174 && (t171 == t175)) == (ji8 == ji9)) = true then ((ballot_Order.f kj44 ji8 (wrap64 (1 + (wrap64 (Int.tmod a2 7)))) ji9 (1 + (((Int.tdiv a2 7) % 256) % 7))).bind fun t180 => ((ballot_Order.f kj44 ji9 (1 + (((Int.tdiv a2 7) % 256) % 7)) ji8 (wrap64 (1 + (wrap64 (Int.tmod a2 7))))).bind fun t181 => (some (t180 == (wrap64 (-t181)))))) else (some false)) else (if (!(t170 == t174) || (!(t171 == t175))) = true then (if ((t170 == t174 && (t171 == t175)) == false) = true then ((ballot_Order.f kj44 ji8 (wrap64 (1 + (wrap64 (Int.tmod a2 7)))) ji9 (1 + (((Int.tdiv a2 7) % 256) % 7))).bind fun t182 => ((ballot_Order.f kj44 ji9 (1 + (((Int.tdiv a2 7) % 256) % 7)) ji8 (wrap64 (1 + (wrap64 (Int.tmod a2 7))))).bind fun t183 => (some (t182 == (wrap64 (-t183)))))) else (some false)) else (some false))) else (some false))) else (some false))) else (some false)) = some r := by rw [if_neg (show ¬ (false = true) by decide)] at H; exact H
        clear H
        have H := H1
        clear H1
        have H1 : ((ballot_Order.f kj44 t170 t171 ji8 (wrap64 (1 + (wrap64 (Int.tmod a2 7))))).bind fun t178 => (if t178 > 0 then ((ballot_Right.f t170 t171).bind fun t179 => (if t179 = true then (if (Int.tmod a3 7) = (Int.tmod a4 7) then (if ((t170 == t174 && (t171 == t175)) == (ji8 == ji9)) = true then ((ballot_Order.f kj44 ji8 (wrap64 (1 + (wrap64 (Int.tmod a2 7)))) ji9 (1 + (((Int.tdiv a2 7) % 256) % 7))).bind fun t180 => ((ballot_Order.f kj44 ji9 (1 + (((Int.tdiv a2 7) % 256) % 7)) ji8 (wrap64 (1 + (wrap64 (Int.tmod a2 7))))).bind fun t181 => (some (t180 == (wrap64 (-t181)))))) else (some false)) else (if (!(t170 == t174) || (!(t171 == t175))) = true then (if ((t170 == t174 && (t171 == t175)) == false) = true then ((ballot_Order.f kj44 ji8 (wrap64 (1 + (wrap64 (Int.tmod a2 7)))) ji9 (1 + (((Int.tdiv a2 7) % 256) % 7))).bind fun t182 => ((ballot_Order.f kj44 ji9 (1 + (((Int.tdiv a2 7) % 256) % 7)) ji8 (wrap64 (1 + (wrap64 (Int.tmod a2 7))))).bind fun t183 => (some (t182 == (wrap64 (-t183)))))) else (some false)) else (some false))) else (some false))) else (some false))) = some r := by first | (with_reducible exact H) | (rw [if_pos rfl] at H; exact H) | (rw [if_pos trivial] at H; exact H) | (rw [if_neg not_false] at H; exact H)
        clear H
        have H := H1
        clear H1
        replace H := Option.bind_eq_some_iff.mp H
        obtain ⟨t178, A480, H⟩ := H
        replace H : (if t178 > 0 then ((ballot_Right.f t170 t171).bind fun t179 => (if t179 = true then (if (Int.tmod a3 7) = (Int.tmod a4 7) then (if ((t170 == t174 && (t171 == t175)) == (ji8 == ji9)) = true then ((ballot_Order.f kj44 ji8 (wrap64 (1 + (wrap64 (Int.tmod a2 7)))) ji9 (1 + (((Int.tdiv a2 7) % 256) % 7))).bind fun t180 => ((ballot_Order.f kj44 ji9 (1 + (((Int.tdiv a2 7) % 256) % 7)) ji8 (wrap64 (1 + (wrap64 (Int.tmod a2 7))))).bind fun t181 => (some (t180 == (wrap64 (-t181)))))) else (some false)) else (if (!(t170 == t174) || (!(t171 == t175))) = true then (if ((t170 == t174 && (t171 == t175)) == false) = true then ((ballot_Order.f kj44 ji8 (wrap64 (1 + (wrap64 (Int.tmod a2 7)))) ji9 (1 + (((Int.tdiv a2 7) % 256) % 7))).bind fun t182 => ((ballot_Order.f kj44 ji9 (1 + (((Int.tdiv a2 7) % 256) % 7)) ji8 (wrap64 (1 + (wrap64 (Int.tmod a2 7))))).bind fun t183 => (some (t182 == (wrap64 (-t183)))))) else (some false)) else (some false))) else (some false))) else (some false)) = some r := H
        have A48 := aM A480
        clear A480
        by_cases c49 : t178 > 0
        ·rw [if_pos c49] at H
         have c49b0 : decide (0 < t178) = true := decide_eq_true c49
         clear c49
         replace H := Option.bind_eq_some_iff.mp H
         obtain ⟨t179, A500, H⟩ := H
         replace H : (if t179 = true then (if (Int.tmod a3 7) = (Int.tmod a4 7) then (if ((t170 == t174 && (t171 == t175)) == (ji8 == ji9)) = true then ((ballot_Order.f kj44 ji8 (wrap64 (1 + (wrap64 (Int.tmod a2 7)))) ji9 (1 + (((Int.tdiv a2 7) % 256) % 7))).bind fun t180 => ((ballot_Order.f kj44 ji9 (1 + (((Int.tdiv a2 7) % 256) % 7)) ji8 (wrap64 (1 + (wrap64 (Int.tmod a2 7))))).bind fun t181 => (some (t180 == (wrap64 (-t181)))))) else (some false)) else (if (!(t170 == t174) || (!(t171 == t175))) = true then (if ((t170 == t174 && (t171 == t175)) == false) = true then ((ballot_Order.f kj44 ji8 (wrap64 (1 + (wrap64 (Int.tmod a2 7)))) ji9 (1 + (((Int.tdiv a2 7) % 256) % 7))).bind fun t182 => ((ballot_Order.f kj44 ji9 (1 + (((Int.tdiv a2 7) % 256) % 7)) ji8 (wrap64 (1 + (wrap64 (Int.tmod a2 7))))).bind fun t183 => (some (t182 == (wrap64 (-t183)))))) else (some false)) else (some false))) else (some false)) = some r := H
         have A50 := aM A500
         clear A500
         by_cases c51 : t179 = true
         ·subst c51
          have H1 : (if (Int.tmod a3 7) = (Int.tmod a4 7) then (if ((t170 == t174 && (t171 == t175)) == (ji8 == ji9)) = true then ((ballot_Order.f kj44 ji8 (wrap64 (1 + (wrap64 (Int.tmod a2 7)))) ji9 (1 + (((Int.tdiv a2 7) % 256) % 7))).bind fun t180 => ((ballot_Order.f kj44 ji9 (1 + (((Int.tdiv a2 7) % 256) % 7)) ji8 (wrap64 (1 + (wrap64 (Int.tmod a2 7))))).bind fun t181 => (some (t180 == (wrap64 (-t181)))))) else (some false)) else (if (!(t170 == t174) || (!(t171 == t175))) = true then (if ((t170 == t174 && (t171 == t175)) == false) = true then ((ballot_Order.f kj44 ji8 (wrap64 (1 + (wrap64 (Int.tmod a2 7)))) ji9 (1 + (((Int.tdiv a2 7) % 256) % 7))).bind fun t182 => ((ballot_Order.f kj44 ji9 (1 + (((Int.tdiv a2 7) % 256) % 7)) ji8 (wrap64 (1 + (wrap64 (Int.tmod a2 7))))).bind fun t183 => (some (t182 == (wrap64 (-t183)))))) else (some false)) else (some false))) = some r := by rw [if_pos rfl] at H; exact H
          clear H
          have H := H1
          clear H1
          by_cases c52 : (Int.tmod a3 7) = (Int.tmod a4 7)
          ·rw [if_pos c52] at H
           have c52b0 : ((Int.tmod a3 7) == (Int.tmod a4 7)) = true := beq_iff_eq.mpr c52
           have c52b1 : ((Int.tmod a3 7) != (Int.tmod a4 7)) = false := bne_eq_false_iff_eq.mpr c52
           clear c52
           by_cases c53 : ((t170 == t174 && (t171 == t175)) == (ji8 == ji9)) = true
           ·rw [if_pos c53] at H
            have c53b0 : ((t170 == t174 && (t171 == t175)) == (ji8 == ji9)) = true := c53
            (try (have c53b1 : decide ((t170 == t174 && (t171 == t175)) = (ji8 == ji9)) = true := by simpa using c53))
            (try (have c53b2 : ((t170 == t174 && (t171 == t175)) == (ji8 == ji9)) = true := by simpa using c53))
            clear c53
            replace H := Option.bind_eq_some_iff.mp H
            obtain ⟨t180, A540, H⟩ := H
            replace H : ((ballot_Order.f kj44 ji9 (1 + (((Int.tdiv a2 7) % 256) % 7)) ji8 (wrap64 (1 + (wrap64 (Int.tmod a2 7))))).bind fun t181 => (some (t180 == (wrap64 (-t181))))) = some r := H
            have A54 := aM A540
            clear A540
            replace H := Option.bind_eq_some_iff.mp H
            obtain ⟨t181, A550, H⟩ := H
            replace H : (some (t180 == (wrap64 (-t181)))) = some r := H
            have A55 := aM A550
            clear A550
            obtain rfl := Option.some.inj H
            try go_wp2
            have n0_ := aM (kD BK168.out)
            have n1_ := aM (kD BK169.out)
            have n2_ := aM (kD BK173.out)
            have n3_ := aM (kD BK177.out)
            have n4_ := aM (bD HB.out)
            clear BK168
            clear BK169
            clear BK173
            clear BK177
            clear HB
            have BK168 := n0_
            have BK169 := n1_
            have BK173 := n2_
            have BK177 := n3_
            have HB := n4_
            clear n0_ n1_ n2_ n3_ n4_
            refine start_ (n := 52) (S := fun w' => w'.cell? ⟨gb173, 0, none⟩ = some (.int .u32 t170) ∧ w'.cell? ⟨gb173, 1, none⟩ = some (.int .i64 t171) ∧ w'.cell? ⟨gb168, 0, none⟩ = some (.int .u32 ji8) ∧ w'.cell? ⟨gb168, 1, none⟩ = some (.int .i64 (wrap64 (1 + (wrap64 (Int.tmod a2 7))))) ∧ w'.cell? ⟨gb177, 0, none⟩ = some (.int .u32 t174) ∧ w'.cell? ⟨gb177, 1, none⟩ = some (.int .i64 t175) ∧ w'.cell? ⟨gb169, 0, none⟩ = some (.int .u32 ji9) ∧ w'.cell? ⟨gb169, 1, none⟩ = some (.int .i64 (1 + (((Int.tdiv a2 7) % 256) % 7)))) (ds := []) m0 (by kernel_rfl) rfl rfl ⟨(kC BK173.out 0).trans rfl, (kC BK173.out 1).trans rfl, (kC BK168.out 0).trans rfl, (kC BK168.out 1).trans rfl, (kC BK177.out 0).trans rfl, (kC BK177.out 1).trans rfl, (kC BK169.out 0).trans rfl, (kC BK169.out 1).trans rfl⟩ (fun hHeld => ?_); refine with_tabW comitialaw06_BallotNext.tab12 comitialaw06_BallotNext.bits12 (fun HT_ HW_ => ?_)
            generalize wc.drew = w56 at BK168 BK169 BK173 BK177 HB hHeld ⊢
            refine pure_ (i := 0) (N := some 73) (v := ?_) (a' := ?_) m1 rfl rfl (any_of HT_.out (by kernel_rfl)) (fun _ _ _ h => h) (Or.inl ⟨by rfl, ?_⟩) ?_ ?_
            rotate_left
            ·intro w'
             go_simp
             with_reducible rfl
            rotate_left
            ·simp only [Act.put, List.setIfInBounds_toArray, List.set_cons_zero, List.set_cons_succ, i64_w, i32_w, IntKind.wrap_u8, IntKind.wrap_u32]
             rfl
            refine pure_ (i := 1) (N := some 74) (v := ?_) (a' := ?_) m2 rfl rfl (any_of HT_.out (by kernel_rfl)) (fun _ _ _ h => h) (Or.inl ⟨by rfl, ?_⟩) ?_ ?_
            rotate_left
            ·intro w'
             go_simp
             with_reducible rfl
            rotate_left
            ·simp only [Act.put, List.setIfInBounds_toArray, List.set_cons_zero, List.set_cons_succ, i64_w, i32_w, IntKind.wrap_u8, IntKind.wrap_u32]
             rfl
            refine take_ (i := 2) (N := some 75) (v := ?_) (a' := ?_) m3 rfl rfl (take_ofW HT_.out HW_.out (by kernel_rfl)) (fun _ _ _ h => h) (Or.inl ⟨by rfl, ?_⟩) hHeld ?_ ?_
            rotate_left
            ·rintro w' ⟨s0, s1, s2, s3, s4, s5, s6, s7⟩
             go_simp
             with_reducible rfl
            rotate_left
            ·simp only [Act.put, List.setIfInBounds_toArray, List.set_cons_zero, List.set_cons_succ, i64_w, i32_w, IntKind.wrap_u8, IntKind.wrap_u32]
             rfl
            refine take_ (i := 3) (N := some 76) (v := ?_) (a' := ?_) m4 rfl rfl (take_ofW HT_.out HW_.out (by kernel_rfl)) (fun _ _ _ h => h) (Or.inl ⟨by rfl, ?_⟩) hHeld ?_ ?_
            rotate_left
            ·rintro w' ⟨s0, s1, s2, s3, s4, s5, s6, s7⟩
             go_simp
             with_reducible rfl
            rotate_left
            ·simp only [Act.put, List.setIfInBounds_toArray, List.set_cons_zero, List.set_cons_succ, i64_w, i32_w, IntKind.wrap_u8, IntKind.wrap_u32]
             rfl
            refine one_ (i := 4) (N := some 77) m5 rfl rfl (one_of HT_.out (by kernel_rfl)) (by decide) (fun K hK => ?_)
            refine goes_ Tryd.func18 (by kernel_rfl) rfl #[.agg #[.int .u32 t170, .int .i64 t171], .agg #[.int .u32 ji8, .int .i64 (wrap64 (1 + (wrap64 (Int.tmod a2 7))))]] (by rfl) rfl rfl (by (try simp only [List.map_toArray, List.map_cons, List.map_nil]); first | done | (simp only [hji8]; rfl) | rfl | (simp only [List.length_drop, List.length_take]; rfl)) ?_
            with_reducible refine (ballot_Order.calls kj44 t170 t171 ji8 (wrap64 (1 + (wrap64 (Int.tmod a2 7)))) t178 _ A48.out).mono ?_
            rintro e w57 ⟨rfl, hb⟩
            refine ⟨_, rfl, ?_⟩
            have n0_ := aM (kB (g := gb168) (o := .cells #[.int .u32 ji8, .int .i64 (wrap64 (1 + (wrap64 (Int.tmod a2 7))))] 24 (0, 0)) (by (with_reducible repeat (first | refine kN ?_ _ | refine kD ?_ | refine kA ?_ _)); exact BK168.out) hb)
            have n1_ := aM (kB (g := gb169) (o := .cells #[.int .u32 ji9, .int .i64 (1 + (((Int.tdiv a2 7) % 256) % 7))] 24 (0, 0)) (by (with_reducible repeat (first | refine kN ?_ _ | refine kD ?_ | refine kA ?_ _)); exact BK169.out) hb)
            have n2_ := aM (kB (g := gb173) (o := .cells #[.int .u32 t170, .int .i64 t171] 24 (0, 0)) (by (with_reducible repeat (first | refine kN ?_ _ | refine kD ?_ | refine kA ?_ _)); exact BK173.out) hb)
            have n3_ := aM (kB (g := gb177) (o := .cells #[.int .u32 t174, .int .i64 t175] 24 (0, 0)) (by (with_reducible repeat (first | refine kN ?_ _ | refine kD ?_ | refine kA ?_ _)); exact BK177.out) hb)
            have n4_ := aM (below_step (by repeat (first | (with_reducible first | exact HB.out | apply bA | apply bN | apply bD | refine bS ?_ GE168.out | refine bS ?_ GE169.out | refine bS ?_ GE173.out | refine bS ?_ GE177.out) | exact HB.out)) hb)
            clear BK168
            clear BK169
            clear BK173
            clear BK177
            clear HB
            have BK168 := n0_
            have BK169 := n1_
            have BK173 := n2_
            have BK177 := n3_
            have HB := n4_
            clear n0_ n1_ n2_ n3_ n4_
            (try clear hb)
            (try clear hb2)
            (try clear hk)
            (try clear hi)
            refine hK.out _ _ ⟨(kC BK173.out 0).trans rfl, (kC BK173.out 1).trans rfl, (kC BK168.out 0).trans rfl, (kC BK168.out 1).trans rfl, (kC BK177.out 0).trans rfl, (kC BK177.out 1).trans rfl, (kC BK169.out 0).trans rfl, (kC BK169.out 1).trans rfl⟩ (fun hHeld => ?_)
            clear hK K
            refine norm_ (a' := ?_) ?_ ?_
            rotate_left
            ·show Act.put _ (some 77) _ = _
             simp only [Act.put, List.setIfInBounds_toArray, List.set_cons_zero, List.set_cons_succ, i64_w, i32_w, IntKind.wrap_u8, IntKind.wrap_u32]
             rfl
            refine pure_ (i := 5) (N := some 78) (v := ?_) (a' := ?_) m6 rfl rfl (any_of HT_.out (by kernel_rfl)) (fun _ _ _ h => h) (Or.inl ⟨by rfl, ?_⟩) ?_ ?_
            rotate_left
            ·intro w'
             go_simp
             with_reducible rfl
            rotate_left
            ·simp only [Act.put, List.setIfInBounds_toArray, List.set_cons_zero, List.set_cons_succ, i64_w, i32_w, IntKind.wrap_u8, IntKind.wrap_u32]
             rfl
            refine pure_ (i := 6) (N := some 79) (v := ?_) (a' := ?_) m7 rfl rfl (any_of HT_.out (by kernel_rfl)) (fun _ _ _ h => h) (Or.inl ⟨by rfl, ?_⟩) ?_ ?_
            rotate_left
            ·intro w'
             go_simp
             with_reducible rfl
            rotate_left
            ·simp only [Act.put, List.setIfInBounds_toArray, List.set_cons_zero, List.set_cons_succ, i64_w, i32_w, IntKind.wrap_u8, IntKind.wrap_u32]
             rfl
            refine pure_ (i := 7) (N := some 80) (v := ?_) (a' := ?_) m8 rfl rfl (any_of HT_.out (by kernel_rfl)) (fun _ _ _ h => h) (Or.inl ⟨by rfl, ?_⟩) ?_ ?_
            rotate_left
            ·intro w'
             go_simp
             with_reducible rfl
            rotate_left
            ·simp only [Act.put, List.setIfInBounds_toArray, List.set_cons_zero, List.set_cons_succ, i64_w, i32_w, IntKind.wrap_u8, IntKind.wrap_u32]
             rfl
            refine take_ (i := 8) (N := some 81) (v := ?_) (a' := ?_) m9 rfl rfl (take_ofW HT_.out HW_.out (by kernel_rfl)) (fun _ _ _ h => h) (Or.inl ⟨by rfl, ?_⟩) hHeld ?_ ?_
            rotate_left
            ·rintro w' ⟨s0, s1, s2, s3, s4, s5, s6, s7⟩
             go_simp
             with_reducible rfl
            rotate_left
            ·simp only [Act.put, List.setIfInBounds_toArray, List.set_cons_zero, List.set_cons_succ, i64_w, i32_w, IntKind.wrap_u8, IntKind.wrap_u32]
             rfl
            refine one_ (i := 9) (N := some 82) m10 rfl rfl (one_of HT_.out (by kernel_rfl)) (by decide) (fun K hK => ?_)
            refine goes_ Tryd.func15 (by kernel_rfl) rfl #[.agg #[.int .u32 t170, .int .i64 t171]] (by rfl) rfl rfl (by (try simp only [List.map_toArray, List.map_cons, List.map_nil]); first | done | rfl | (simp only [List.length_drop, List.length_take]; rfl)) ?_
            with_reducible refine (ballot_Right.calls t170 t171 true _ A50.out).mono ?_
            rintro e w58 ⟨rfl, hb⟩
            refine ⟨_, rfl, ?_⟩
            have n0_ := aM (kB (g := gb168) (o := .cells #[.int .u32 ji8, .int .i64 (wrap64 (1 + (wrap64 (Int.tmod a2 7))))] 24 (0, 0)) (by (with_reducible repeat (first | refine kN ?_ _ | refine kD ?_ | refine kA ?_ _)); exact BK168.out) hb)
            have n1_ := aM (kB (g := gb169) (o := .cells #[.int .u32 ji9, .int .i64 (1 + (((Int.tdiv a2 7) % 256) % 7))] 24 (0, 0)) (by (with_reducible repeat (first | refine kN ?_ _ | refine kD ?_ | refine kA ?_ _)); exact BK169.out) hb)
            have n2_ := aM (kB (g := gb173) (o := .cells #[.int .u32 t170, .int .i64 t171] 24 (0, 0)) (by (with_reducible repeat (first | refine kN ?_ _ | refine kD ?_ | refine kA ?_ _)); exact BK173.out) hb)
            have n3_ := aM (kB (g := gb177) (o := .cells #[.int .u32 t174, .int .i64 t175] 24 (0, 0)) (by (with_reducible repeat (first | refine kN ?_ _ | refine kD ?_ | refine kA ?_ _)); exact BK177.out) hb)
            have n4_ := aM (below_step (by repeat (first | (with_reducible first | exact HB.out | apply bA | apply bN | apply bD | refine bS ?_ GE168.out | refine bS ?_ GE169.out | refine bS ?_ GE173.out | refine bS ?_ GE177.out) | exact HB.out)) hb)
            clear BK168
            clear BK169
            clear BK173
            clear BK177
            clear HB
            have BK168 := n0_
            have BK169 := n1_
            have BK173 := n2_
            have BK177 := n3_
            have HB := n4_
            clear n0_ n1_ n2_ n3_ n4_
            (try clear hb)
            (try clear hb2)
            (try clear hk)
            (try clear hi)
            refine hK.out _ _ ⟨(kC BK173.out 0).trans rfl, (kC BK173.out 1).trans rfl, (kC BK168.out 0).trans rfl, (kC BK168.out 1).trans rfl, (kC BK177.out 0).trans rfl, (kC BK177.out 1).trans rfl, (kC BK169.out 0).trans rfl, (kC BK169.out 1).trans rfl⟩ (fun hHeld => ?_)
            clear hK K
            refine norm_ (a' := ?_) ?_ ?_
            rotate_left
            ·show Act.put _ (some 82) _ = _
             simp only [Act.put, List.setIfInBounds_toArray, List.set_cons_zero, List.set_cons_succ, i64_w, i32_w, IntKind.wrap_u8, IntKind.wrap_u32]
             rfl
            refine pure_ (i := 10) (N := some 83) (v := ?_) (a' := ?_) m11 rfl rfl (any_of HT_.out (by kernel_rfl)) (fun _ _ _ h => h) (Or.inl ⟨by rfl, ?_⟩) ?_ ?_
            rotate_left
            ·intro w'
             go_simp
             with_reducible rfl
            rotate_left
            ·simp only [Act.put, List.setIfInBounds_toArray, List.set_cons_zero, List.set_cons_succ, i64_w, i32_w, IntKind.wrap_u8, IntKind.wrap_u32]
             rfl
            refine pure_ (i := 11) (N := some 84) (v := ?_) (a' := ?_) m12 rfl rfl (any_of HT_.out (by kernel_rfl)) (fun _ _ _ h => h) (Or.inl ⟨by rfl, ?_⟩) ?_ ?_
            rotate_left
            ·intro w'
             go_simp
             with_reducible rfl
            rotate_left
            ·simp only [Act.put, List.setIfInBounds_toArray, List.set_cons_zero, List.set_cons_succ, i64_w, i32_w, IntKind.wrap_u8, IntKind.wrap_u32]
             rfl
            refine pure_ (i := 12) (N := some 85) (v := ?_) (a' := ?_) m13 rfl rfl (any_of HT_.out (by kernel_rfl)) (fun _ _ _ h => h) (Or.inl ⟨by rfl, ?_⟩) ?_ ?_
            rotate_left
            ·intro w'
             go_simp
             with_reducible rfl
            rotate_left
            ·simp only [Act.put, List.setIfInBounds_toArray, List.set_cons_zero, List.set_cons_succ, i64_w, i32_w, IntKind.wrap_u8, IntKind.wrap_u32]
             rfl
            refine pure_ (i := 13) (N := some 86) (v := ?_) (a' := ?_) m14 rfl rfl (any_of HT_.out (by kernel_rfl)) (fun _ _ _ h => h) (Or.inl ⟨by rfl, ?_⟩) ?_ ?_
            rotate_left
            ·intro w'
             go_simp
             with_reducible rfl
            rotate_left
            ·simp only [Act.put, List.setIfInBounds_toArray, List.set_cons_zero, List.set_cons_succ, i64_w, i32_w, IntKind.wrap_u8, IntKind.wrap_u32]
             rfl
            refine pure_ (i := 14) (N := some 87) (v := ?_) (a' := ?_) m15 rfl rfl (any_of HT_.out (by kernel_rfl)) (fun _ _ _ h => h) (Or.inl ⟨by rfl, ?_⟩) ?_ ?_
            rotate_left
            ·intro w'
             go_simp
             with_reducible rfl
            rotate_left
            ·simp only [Act.put, List.setIfInBounds_toArray, List.set_cons_zero, List.set_cons_succ, i64_w, i32_w, IntKind.wrap_u8, IntKind.wrap_u32]
             rfl
            refine pure_ (i := 15) (N := some 88) (v := ?_) (a' := ?_) m16 rfl rfl (any_of HT_.out (by kernel_rfl)) (fun _ _ _ h => h) (Or.inl ⟨by rfl, ?_⟩) ?_ ?_
            rotate_left
            ·intro w'
             go_simp
             with_reducible rfl
            rotate_left
            ·simp only [Act.put, List.setIfInBounds_toArray, List.set_cons_zero, List.set_cons_succ, i64_w, i32_w, IntKind.wrap_u8, IntKind.wrap_u32]
             rfl
            refine pure_ (i := 16) (N := some 89) (v := ?_) (a' := ?_) m17 rfl rfl (any_of HT_.out (by kernel_rfl)) (fun _ _ _ h => h) (Or.inl ⟨by rfl, ?_⟩) ?_ ?_
            rotate_left
            ·intro w'
             go_simp
             with_reducible rfl
            rotate_left
            ·simp only [Act.put, List.setIfInBounds_toArray, List.set_cons_zero, List.set_cons_succ, i64_w, i32_w, IntKind.wrap_u8, IntKind.wrap_u32]
             rfl
            refine pure_ (i := 17) (N := some 90) (v := ?_) (a' := ?_) m18 rfl rfl (any_of HT_.out (by kernel_rfl)) (fun _ _ _ h => h) (Or.inl ⟨by rfl, ?_⟩) ?_ ?_
            rotate_left
            ·intro w'
             go_simp
             with_reducible rfl
            rotate_left
            ·simp only [Act.put, List.setIfInBounds_toArray, List.set_cons_zero, List.set_cons_succ, i64_w, i32_w, IntKind.wrap_u8, IntKind.wrap_u32]
             rfl
            refine pure_ (i := 18) (N := some 91) (v := undef) (a' := ?_) m19 rfl rfl (any_of HT_.out (by kernel_rfl)) (fun _ _ _ h => h) (Or.inr ⟨by rfl, rfl⟩) ?_ ?_
            rotate_left
            ·simp only [Act.put, List.setIfInBounds_toArray, List.set_cons_zero, List.set_cons_succ, i64_w, i32_w, IntKind.wrap_u8, IntKind.wrap_u32]
             rfl
            refine pure_ (i := 19) (N := some 92) (v := undef) (a' := ?_) m20 rfl rfl (any_of HT_.out (by kernel_rfl)) (fun _ _ _ h => h) (Or.inr ⟨by rfl, rfl⟩) ?_ ?_
            rotate_left
            ·simp only [Act.put, List.setIfInBounds_toArray, List.set_cons_zero, List.set_cons_succ, i64_w, i32_w, IntKind.wrap_u8, IntKind.wrap_u32]
             rfl
            refine pure_ (i := 20) (N := some 93) (v := undef) (a' := ?_) m21 rfl rfl (any_of HT_.out (by kernel_rfl)) (fun _ _ _ h => h) (Or.inr ⟨by rfl, rfl⟩) ?_ ?_
            rotate_left
            ·simp only [Act.put, List.setIfInBounds_toArray, List.set_cons_zero, List.set_cons_succ, i64_w, i32_w, IntKind.wrap_u8, IntKind.wrap_u32]
             rfl
            refine pure_ (i := 21) (N := some 94) (v := ?_) (a' := ?_) m22 rfl rfl (any_of HT_.out (by kernel_rfl)) (fun _ _ _ h => h) (Or.inl ⟨by rfl, ?_⟩) ?_ ?_
            rotate_left
            ·intro w'
             go_simp
             with_reducible rfl
            rotate_left
            ·simp only [Act.put, List.setIfInBounds_toArray, List.set_cons_zero, List.set_cons_succ, i64_w, i32_w, IntKind.wrap_u8, IntKind.wrap_u32]
             rfl
            refine pure_ (i := 22) (N := some 95) (v := ?_) (a' := ?_) m23 rfl rfl (any_of HT_.out (by kernel_rfl)) (fun _ _ _ h => h) (Or.inl ⟨by rfl, ?_⟩) ?_ ?_
            rotate_left
            ·intro w'
             go_simp
             with_reducible rfl
            rotate_left
            ·simp only [Act.put, List.setIfInBounds_toArray, List.set_cons_zero, List.set_cons_succ, i64_w, i32_w, IntKind.wrap_u8, IntKind.wrap_u32]
             rfl
            refine pure_ (i := 23) (N := some 96) (v := ?_) (a' := ?_) m24 rfl rfl (any_of HT_.out (by kernel_rfl)) (fun _ _ _ h => h) (Or.inl ⟨by rfl, ?_⟩) ?_ ?_
            rotate_left
            ·intro w'
             go_simp
             with_reducible rfl
            rotate_left
            ·simp only [Act.put, List.setIfInBounds_toArray, List.set_cons_zero, List.set_cons_succ, i64_w, i32_w, IntKind.wrap_u8, IntKind.wrap_u32]
             rfl
            refine pure_ (i := 27) (N := some 100) (v := ?_) (a' := ?_) m25 rfl rfl (any_of HT_.out (by kernel_rfl)) (fun _ _ _ h => h) (Or.inl ⟨by rfl, ?_⟩) ?_ ?_
            rotate_left
            ·intro w'
             go_simp
             with_reducible rfl
            rotate_left
            ·simp only [Act.put, List.setIfInBounds_toArray, List.set_cons_zero, List.set_cons_succ, i64_w, i32_w, IntKind.wrap_u8, IntKind.wrap_u32]
             rfl
            refine pure_ (i := 28) (N := some 101) (v := ?_) (a' := ?_) m26 rfl rfl (any_of HT_.out (by kernel_rfl)) (fun _ _ _ h => h) (Or.inl ⟨by rfl, ?_⟩) ?_ ?_
            rotate_left
            ·intro w'
             go_simp
             with_reducible rfl
            rotate_left
            ·simp only [Act.put, List.setIfInBounds_toArray, List.set_cons_zero, List.set_cons_succ, i64_w, i32_w, IntKind.wrap_u8, IntKind.wrap_u32]
             rfl
            refine pure_ (i := 29) (N := some 102) (v := ?_) (a' := ?_) m27 rfl rfl (any_of HT_.out (by kernel_rfl)) (fun _ _ _ h => h) (Or.inl ⟨by rfl, ?_⟩) ?_ ?_
            rotate_left
            ·intro w'
             go_simp
             with_reducible rfl
            rotate_left
            ·simp only [Act.put, List.setIfInBounds_toArray, List.set_cons_zero, List.set_cons_succ, i64_w, i32_w, IntKind.wrap_u8, IntKind.wrap_u32]
             rfl
            refine pure_ (i := 30) (N := some 103) (v := ?_) (a' := ?_) m28 rfl rfl (any_of HT_.out (by kernel_rfl)) (fun _ _ _ h => h) (Or.inl ⟨by rfl, ?_⟩) ?_ ?_
            rotate_left
            ·intro w'
             go_simp
             with_reducible rfl
            rotate_left
            ·simp only [Act.put, List.setIfInBounds_toArray, List.set_cons_zero, List.set_cons_succ, i64_w, i32_w, IntKind.wrap_u8, IntKind.wrap_u32]
             rfl
            refine pure_ (i := 31) (N := some 104) (v := ?_) (a' := ?_) m29 rfl rfl (any_of HT_.out (by kernel_rfl)) (fun _ _ _ h => h) (Or.inl ⟨by rfl, ?_⟩) ?_ ?_
            rotate_left
            ·intro w'
             go_simp
             with_reducible rfl
            rotate_left
            ·simp only [Act.put, List.setIfInBounds_toArray, List.set_cons_zero, List.set_cons_succ, i64_w, i32_w, IntKind.wrap_u8, IntKind.wrap_u32]
             rfl
            refine pure_ (i := 32) (N := some 105) (v := ?_) (a' := ?_) m30 rfl rfl (any_of HT_.out (by kernel_rfl)) (fun _ _ _ h => h) (Or.inl ⟨by rfl, ?_⟩) ?_ ?_
            rotate_left
            ·intro w'
             go_simp
             with_reducible rfl
            rotate_left
            ·simp only [Act.put, List.setIfInBounds_toArray, List.set_cons_zero, List.set_cons_succ, i64_w, i32_w, IntKind.wrap_u8, IntKind.wrap_u32]
             rfl
            refine pure_ (i := 33) (N := some 106) (v := ?_) (a' := ?_) m31 rfl rfl (any_of HT_.out (by kernel_rfl)) (fun _ _ _ h => h) (Or.inl ⟨by rfl, ?_⟩) ?_ ?_
            rotate_left
            ·intro w'
             go_simp
             with_reducible rfl
            rotate_left
            ·simp only [Act.put, List.setIfInBounds_toArray, List.set_cons_zero, List.set_cons_succ, i64_w, i32_w, IntKind.wrap_u8, IntKind.wrap_u32]
             rfl
            refine pure_ (i := 35) (N := some 108) (v := ?_) (a' := ?_) m32 rfl rfl (any_of HT_.out (by kernel_rfl)) (fun _ _ _ h => h) (Or.inl ⟨by rfl, ?_⟩) ?_ ?_
            rotate_left
            ·intro w'
             go_simp
             with_reducible rfl
            rotate_left
            ·simp only [Act.put, List.setIfInBounds_toArray, List.set_cons_zero, List.set_cons_succ, i64_w, i32_w, IntKind.wrap_u8, IntKind.wrap_u32]
             rfl
            refine take_ (i := 24) (N := some 97) (v := ?_) (a' := ?_) m33 rfl rfl (take_ofW HT_.out HW_.out (by kernel_rfl)) (fun _ _ _ h => h) (Or.inl ⟨by rfl, ?_⟩) hHeld ?_ ?_
            rotate_left
            ·rintro w' ⟨s0, s1, s2, s3, s4, s5, s6, s7⟩
             go_simp
             with_reducible rfl
            rotate_left
            ·simp only [Act.put, List.setIfInBounds_toArray, List.set_cons_zero, List.set_cons_succ, i64_w, i32_w, IntKind.wrap_u8, IntKind.wrap_u32]
             rfl
            refine take_ (i := 25) (N := some 98) (v := ?_) (a' := ?_) m34 rfl rfl (take_ofW HT_.out HW_.out (by kernel_rfl)) (fun _ _ _ h => h) (Or.inl ⟨by rfl, ?_⟩) hHeld ?_ ?_
            rotate_left
            ·rintro w' ⟨s0, s1, s2, s3, s4, s5, s6, s7⟩
             go_simp
             with_reducible rfl
            rotate_left
            ·simp only [Act.put, List.setIfInBounds_toArray, List.set_cons_zero, List.set_cons_succ, i64_w, i32_w, IntKind.wrap_u8, IntKind.wrap_u32]
             rfl
            refine pure_ (i := 26) (N := some 99) (v := ?_) (a' := ?_) m35 rfl rfl (any_of HT_.out (by kernel_rfl)) (fun _ _ _ h => h) (Or.inl ⟨by rfl, ?_⟩) ?_ ?_
            rotate_left
            ·intro w'
             go_simp
             with_reducible rfl
            rotate_left
            ·simp only [Act.put, List.setIfInBounds_toArray, List.set_cons_zero, List.set_cons_succ, i64_w, i32_w, IntKind.wrap_u8, IntKind.wrap_u32]
             rfl
            refine take_ (i := 34) (N := some 107) (v := ?_) (a' := ?_) m36 rfl rfl (take_ofW HT_.out HW_.out (by kernel_rfl)) (fun _ _ _ h => h) (Or.inl ⟨by rfl, ?_⟩) hHeld ?_ ?_
            rotate_left
            ·rintro w' ⟨s0, s1, s2, s3, s4, s5, s6, s7⟩
             go_simp
             with_reducible rfl
            rotate_left
            ·simp only [Act.put, List.setIfInBounds_toArray, List.set_cons_zero, List.set_cons_succ, i64_w, i32_w, IntKind.wrap_u8, IntKind.wrap_u32]
             rfl
            refine take_ (i := 36) (N := some 109) (v := ?_) (a' := ?_) m37 rfl rfl (take_ofW HT_.out HW_.out (by kernel_rfl)) (fun _ _ _ h => h) (Or.inl ⟨by rfl, ?_⟩) hHeld ?_ ?_
            rotate_left
            ·rintro w' ⟨s0, s1, s2, s3, s4, s5, s6, s7⟩
             go_simp
             with_reducible rfl
            rotate_left
            ·simp only [Act.put, List.setIfInBounds_toArray, List.set_cons_zero, List.set_cons_succ, i64_w, i32_w, IntKind.wrap_u8, IntKind.wrap_u32]
             rfl
            refine pure_ (i := 37) (N := some 110) (v := ?_) (a' := ?_) m38 rfl rfl (any_of HT_.out (by kernel_rfl)) (fun _ _ _ h => h) (Or.inl ⟨by rfl, ?_⟩) ?_ ?_
            rotate_left
            ·intro w'
             go_simp
             with_reducible rfl
            rotate_left
            ·simp only [Act.put, List.setIfInBounds_toArray, List.set_cons_zero, List.set_cons_succ, i64_w, i32_w, IntKind.wrap_u8, IntKind.wrap_u32]
             rfl
            refine pure_ (i := 38) (N := some 111) (v := ?_) (a' := ?_) m39 rfl rfl (any_of HT_.out (by kernel_rfl)) (fun _ _ _ h => h) (Or.inl ⟨by rfl, ?_⟩) ?_ ?_
            rotate_left
            ·intro w'
             go_simp
             with_reducible rfl
            rotate_left
            ·simp only [Act.put, List.setIfInBounds_toArray, List.set_cons_zero, List.set_cons_succ, i64_w, i32_w, IntKind.wrap_u8, IntKind.wrap_u32]
             rfl
            refine pure_ (i := 39) (N := some 112) (v := ?_) (a' := ?_) m40 rfl rfl (any_of HT_.out (by kernel_rfl)) (fun _ _ _ h => h) (Or.inl ⟨by rfl, ?_⟩) ?_ ?_
            rotate_left
            ·intro w'
             go_simp
             with_reducible rfl
            rotate_left
            ·simp only [Act.put, List.setIfInBounds_toArray, List.set_cons_zero, List.set_cons_succ, i64_w, i32_w, IntKind.wrap_u8, IntKind.wrap_u32]
             rfl
            refine pure_ (i := 40) (N := some 113) (v := ?_) (a' := ?_) m41 rfl rfl (any_of HT_.out (by kernel_rfl)) (fun _ _ _ h => h) (Or.inl ⟨by rfl, ?_⟩) ?_ ?_
            rotate_left
            ·intro w'
             go_simp
             with_reducible rfl
            rotate_left
            ·simp only [Act.put, List.setIfInBounds_toArray, List.set_cons_zero, List.set_cons_succ, i64_w, i32_w, IntKind.wrap_u8, IntKind.wrap_u32]
             rfl
            refine pure_ (i := 41) (N := some 114) (v := ?_) (a' := ?_) m42 rfl rfl (any_of HT_.out (by kernel_rfl)) (fun _ _ _ h => h) (Or.inl ⟨by rfl, ?_⟩) ?_ ?_
            rotate_left
            ·intro w'
             go_simp
             with_reducible rfl
            rotate_left
            ·simp only [Act.put, List.setIfInBounds_toArray, List.set_cons_zero, List.set_cons_succ, i64_w, i32_w, IntKind.wrap_u8, IntKind.wrap_u32]
             rfl
            refine take_ (i := 42) (N := some 115) (v := ?_) (a' := ?_) m43 rfl rfl (take_ofW HT_.out HW_.out (by kernel_rfl)) (fun _ _ _ h => h) (Or.inl ⟨by rfl, ?_⟩) hHeld ?_ ?_
            rotate_left
            ·rintro w' ⟨s0, s1, s2, s3, s4, s5, s6, s7⟩
             go_simp
             with_reducible rfl
            rotate_left
            ·simp only [Act.put, List.setIfInBounds_toArray, List.set_cons_zero, List.set_cons_succ, i64_w, i32_w, IntKind.wrap_u8, IntKind.wrap_u32]
             rfl
            refine take_ (i := 43) (N := some 116) (v := ?_) (a' := ?_) m44 rfl rfl (take_ofW HT_.out HW_.out (by kernel_rfl)) (fun _ _ _ h => h) (Or.inl ⟨by rfl, ?_⟩) hHeld ?_ ?_
            rotate_left
            ·rintro w' ⟨s0, s1, s2, s3, s4, s5, s6, s7⟩
             go_simp
             with_reducible rfl
            rotate_left
            ·simp only [Act.put, List.setIfInBounds_toArray, List.set_cons_zero, List.set_cons_succ, i64_w, i32_w, IntKind.wrap_u8, IntKind.wrap_u32]
             rfl
            refine take_ (i := 45) (N := some 118) (v := ?_) (a' := ?_) m45 rfl rfl (take_ofW HT_.out HW_.out (by kernel_rfl)) (fun _ _ _ h => h) (Or.inl ⟨by rfl, ?_⟩) hHeld ?_ ?_
            rotate_left
            ·rintro w' ⟨s0, s1, s2, s3, s4, s5, s6, s7⟩
             go_simp
             with_reducible rfl
            rotate_left
            ·simp only [Act.put, List.setIfInBounds_toArray, List.set_cons_zero, List.set_cons_succ, i64_w, i32_w, IntKind.wrap_u8, IntKind.wrap_u32]
             rfl
            refine take_ (i := 46) (N := some 119) (v := ?_) (a' := ?_) m46 rfl rfl (take_ofW HT_.out HW_.out (by kernel_rfl)) (fun _ _ _ h => h) (Or.inl ⟨by rfl, ?_⟩) hHeld ?_ ?_
            rotate_left
            ·rintro w' ⟨s0, s1, s2, s3, s4, s5, s6, s7⟩
             go_simp
             with_reducible rfl
            rotate_left
            ·simp only [Act.put, List.setIfInBounds_toArray, List.set_cons_zero, List.set_cons_succ, i64_w, i32_w, IntKind.wrap_u8, IntKind.wrap_u32]
             rfl
            refine one_ (i := 44) (N := some 117) m47 rfl rfl (one_of HT_.out (by kernel_rfl)) (by decide) (fun K hK => ?_)
            refine goes_ Tryd.func18 (by kernel_rfl) rfl #[.agg #[.int .u32 ji8, .int .i64 (wrap64 (1 + (wrap64 (Int.tmod a2 7))))], .agg #[.int .u32 ji9, .int .i64 (1 + (((Int.tdiv a2 7) % 256) % 7))]] (by rfl) rfl rfl (by (try simp only [List.map_toArray, List.map_cons, List.map_nil]); first | done | (simp only [hji8, hji9]; rfl) | rfl | (simp only [List.length_drop, List.length_take]; rfl)) ?_
            with_reducible refine (ballot_Order.calls kj44 ji8 (wrap64 (1 + (wrap64 (Int.tmod a2 7)))) ji9 (1 + (((Int.tdiv a2 7) % 256) % 7)) t180 _ A54.out).mono ?_
            rintro e w59 ⟨rfl, hb⟩
            refine ⟨_, rfl, ?_⟩
            have n0_ := aM (kB (g := gb168) (o := .cells #[.int .u32 ji8, .int .i64 (wrap64 (1 + (wrap64 (Int.tmod a2 7))))] 24 (0, 0)) (by (with_reducible repeat (first | refine kN ?_ _ | refine kD ?_ | refine kA ?_ _)); exact BK168.out) hb)
            have n1_ := aM (kB (g := gb169) (o := .cells #[.int .u32 ji9, .int .i64 (1 + (((Int.tdiv a2 7) % 256) % 7))] 24 (0, 0)) (by (with_reducible repeat (first | refine kN ?_ _ | refine kD ?_ | refine kA ?_ _)); exact BK169.out) hb)
            have n2_ := aM (kB (g := gb173) (o := .cells #[.int .u32 t170, .int .i64 t171] 24 (0, 0)) (by (with_reducible repeat (first | refine kN ?_ _ | refine kD ?_ | refine kA ?_ _)); exact BK173.out) hb)
            have n3_ := aM (kB (g := gb177) (o := .cells #[.int .u32 t174, .int .i64 t175] 24 (0, 0)) (by (with_reducible repeat (first | refine kN ?_ _ | refine kD ?_ | refine kA ?_ _)); exact BK177.out) hb)
            have n4_ := aM (below_step (by repeat (first | (with_reducible first | exact HB.out | apply bA | apply bN | apply bD | refine bS ?_ GE168.out | refine bS ?_ GE169.out | refine bS ?_ GE173.out | refine bS ?_ GE177.out) | exact HB.out)) hb)
            clear BK168
            clear BK169
            clear BK173
            clear BK177
            clear HB
            have BK168 := n0_
            have BK169 := n1_
            have BK173 := n2_
            have BK177 := n3_
            have HB := n4_
            clear n0_ n1_ n2_ n3_ n4_
            (try clear hb)
            (try clear hb2)
            (try clear hk)
            (try clear hi)
            refine hK.out _ _ ⟨(kC BK173.out 0).trans rfl, (kC BK173.out 1).trans rfl, (kC BK168.out 0).trans rfl, (kC BK168.out 1).trans rfl, (kC BK177.out 0).trans rfl, (kC BK177.out 1).trans rfl, (kC BK169.out 0).trans rfl, (kC BK169.out 1).trans rfl⟩ (fun hHeld => ?_)
            clear hK K
            refine norm_ (a' := ?_) ?_ ?_
            rotate_left
            ·show Act.put _ (some 117) _ = _
             simp only [Act.put, List.setIfInBounds_toArray, List.set_cons_zero, List.set_cons_succ, i64_w, i32_w, IntKind.wrap_u8, IntKind.wrap_u32]
             rfl
            refine one_ (i := 47) (N := some 120) m48 rfl rfl (one_of HT_.out (by kernel_rfl)) (by decide) (fun K hK => ?_)
            refine goes_ Tryd.func18 (by kernel_rfl) rfl #[.agg #[.int .u32 ji9, .int .i64 (1 + (((Int.tdiv a2 7) % 256) % 7))], .agg #[.int .u32 ji8, .int .i64 (wrap64 (1 + (wrap64 (Int.tmod a2 7))))]] (by rfl) rfl rfl (by (try simp only [List.map_toArray, List.map_cons, List.map_nil]); first | done | (simp only [hji8, hji9]; rfl) | rfl | (simp only [List.length_drop, List.length_take]; rfl)) ?_
            with_reducible refine (ballot_Order.calls kj44 ji9 (1 + (((Int.tdiv a2 7) % 256) % 7)) ji8 (wrap64 (1 + (wrap64 (Int.tmod a2 7)))) t181 _ A55.out).mono ?_
            rintro e w60 ⟨rfl, hb⟩
            refine ⟨_, rfl, ?_⟩
            have n0_ := aM (kB (g := gb168) (o := .cells #[.int .u32 ji8, .int .i64 (wrap64 (1 + (wrap64 (Int.tmod a2 7))))] 24 (0, 0)) (by (with_reducible repeat (first | refine kN ?_ _ | refine kD ?_ | refine kA ?_ _)); exact BK168.out) hb)
            have n1_ := aM (kB (g := gb169) (o := .cells #[.int .u32 ji9, .int .i64 (1 + (((Int.tdiv a2 7) % 256) % 7))] 24 (0, 0)) (by (with_reducible repeat (first | refine kN ?_ _ | refine kD ?_ | refine kA ?_ _)); exact BK169.out) hb)
            have n2_ := aM (kB (g := gb173) (o := .cells #[.int .u32 t170, .int .i64 t171] 24 (0, 0)) (by (with_reducible repeat (first | refine kN ?_ _ | refine kD ?_ | refine kA ?_ _)); exact BK173.out) hb)
            have n3_ := aM (kB (g := gb177) (o := .cells #[.int .u32 t174, .int .i64 t175] 24 (0, 0)) (by (with_reducible repeat (first | refine kN ?_ _ | refine kD ?_ | refine kA ?_ _)); exact BK177.out) hb)
            have n4_ := aM (below_step (by repeat (first | (with_reducible first | exact HB.out | apply bA | apply bN | apply bD | refine bS ?_ GE168.out | refine bS ?_ GE169.out | refine bS ?_ GE173.out | refine bS ?_ GE177.out) | exact HB.out)) hb)
            clear BK168
            clear BK169
            clear BK173
            clear BK177
            clear HB
            have BK168 := n0_
            have BK169 := n1_
            have BK173 := n2_
            have BK177 := n3_
            have HB := n4_
            clear n0_ n1_ n2_ n3_ n4_
            (try clear hb)
            (try clear hb2)
            (try clear hk)
            (try clear hi)
            refine hK.out _ _ ⟨(kC BK173.out 0).trans rfl, (kC BK173.out 1).trans rfl, (kC BK168.out 0).trans rfl, (kC BK168.out 1).trans rfl, (kC BK177.out 0).trans rfl, (kC BK177.out 1).trans rfl, (kC BK169.out 0).trans rfl, (kC BK169.out 1).trans rfl⟩ (fun hHeld => ?_)
            clear hK K
            refine norm_ (a' := ?_) ?_ ?_
            rotate_left
            ·show Act.put _ (some 120) _ = _
             simp only [Act.put, List.setIfInBounds_toArray, List.set_cons_zero, List.set_cons_succ, i64_w, i32_w, IntKind.wrap_u8, IntKind.wrap_u32]
             rfl
            refine pure_ (i := 48) (N := some 121) (v := ?_) (a' := ?_) m49 rfl rfl (any_of HT_.out (by kernel_rfl)) (fun _ _ _ h => h) (Or.inl ⟨by rfl, ?_⟩) ?_ ?_
            rotate_left
            ·intro w'
             go_simp
             with_reducible rfl
            rotate_left
            ·simp only [Act.put, List.setIfInBounds_toArray, List.set_cons_zero, List.set_cons_succ, i64_w, i32_w, IntKind.wrap_u8, IntKind.wrap_u32]
             rfl
            refine pure_ (i := 49) (N := some 122) (v := ?_) (a' := ?_) m50 rfl rfl (any_of HT_.out (by kernel_rfl)) (fun _ _ _ h => h) (Or.inl ⟨by rfl, ?_⟩) ?_ ?_
            rotate_left
            ·intro w'
             go_simp
             with_reducible rfl
            rotate_left
            ·simp only [Act.put, List.setIfInBounds_toArray, List.set_cons_zero, List.set_cons_succ, i64_w, i32_w, IntKind.wrap_u8, IntKind.wrap_u32]
             rfl
            refine pure_ (i := 50) (N := some 123) (v := ?_) (a' := ?_) m51 rfl rfl (any_of HT_.out (by kernel_rfl)) (fun _ _ _ h => h) (Or.inl ⟨by rfl, ?_⟩) ?_ ?_
            rotate_left
            ·intro w'
             go_simp
             with_reducible rfl
            rotate_left
            ·simp only [Act.put, List.setIfInBounds_toArray, List.set_cons_zero, List.set_cons_succ, i64_w, i32_w, IntKind.wrap_u8, IntKind.wrap_u32]
             rfl
            refine pure_ (i := 51) (N := some 10) (v := ?_) (a' := ?_) m52 rfl rfl (any_of HT_.out (by kernel_rfl)) (fun _ _ _ h => h) (Or.inl ⟨by rfl, ?_⟩) ?_ ?_
            rotate_left
            ·intro w'
             go_simp
             with_reducible rfl
            rotate_left
            ·simp only [Act.put, List.setIfInBounds_toArray, List.set_cons_zero, List.set_cons_succ, i64_w, i32_w, IntKind.wrap_u8, IntKind.wrap_u32]
             rfl
            refine done_ (done_of HT_.out (by kernel_rfl)) ?_
            try go_wp2
            go_ret
            exact ⟨by first | rfl | (simp [errW_none, errW_some] <;> rfl) | (simp only [← hji8, ← hji9]; first | rfl | (simp [errW_none, errW_some] <;> rfl)) | (simp [*, errW_none, errW_some] <;> rfl), by repeat (first | (with_reducible first | exact HB.out | apply bA | apply bN | apply bD | refine bS ?_ GE168.out | refine bS ?_ GE169.out | refine bS ?_ GE173.out | refine bS ?_ GE177.out) | exact HB.out)⟩
           ·rw [if_neg c53] at H
            have c53b0 : ((t170 == t174 && (t171 == t175)) == (ji8 == ji9)) = false := by simpa using c53
            (try (have c53b1 : decide ((t170 == t174 && (t171 == t175)) = (ji8 == ji9)) = false := by simpa using c53))
            (try (have c53b2 : ((t170 == t174 && (t171 == t175)) == (ji8 == ji9)) = false := by simpa using c53))
            (try (have c53b3 : ¬ ((t170 == t174 && (t171 == t175)) = (ji8 == ji9)) := by simpa using c53))
            clear c53
            obtain rfl := Option.some.inj H
            try go_wp2
            have n0_ := aM (kD BK168.out)
            have n1_ := aM (kD BK169.out)
            have n2_ := aM (kD BK173.out)
            have n3_ := aM (kD BK177.out)
            have n4_ := aM (bD HB.out)
            clear BK168
            clear BK169
            clear BK173
            clear BK177
            clear HB
            have BK168 := n0_
            have BK169 := n1_
            have BK173 := n2_
            have BK177 := n3_
            have HB := n4_
            clear n0_ n1_ n2_ n3_ n4_
            refine start_ (n := 52) (S := fun w' => w'.cell? ⟨gb173, 0, none⟩ = some (.int .u32 t170) ∧ w'.cell? ⟨gb173, 1, none⟩ = some (.int .i64 t171) ∧ w'.cell? ⟨gb168, 0, none⟩ = some (.int .u32 ji8) ∧ w'.cell? ⟨gb168, 1, none⟩ = some (.int .i64 (wrap64 (1 + (wrap64 (Int.tmod a2 7))))) ∧ w'.cell? ⟨gb177, 0, none⟩ = some (.int .u32 t174) ∧ w'.cell? ⟨gb177, 1, none⟩ = some (.int .i64 t175) ∧ w'.cell? ⟨gb169, 0, none⟩ = some (.int .u32 ji9) ∧ w'.cell? ⟨gb169, 1, none⟩ = some (.int .i64 (1 + (((Int.tdiv a2 7) % 256) % 7)))) (ds := []) m0 (by kernel_rfl) rfl rfl ⟨(kC BK173.out 0).trans rfl, (kC BK173.out 1).trans rfl, (kC BK168.out 0).trans rfl, (kC BK168.out 1).trans rfl, (kC BK177.out 0).trans rfl, (kC BK177.out 1).trans rfl, (kC BK169.out 0).trans rfl, (kC BK169.out 1).trans rfl⟩ (fun hHeld => ?_); refine with_tabW comitialaw06_BallotNext.tab12 comitialaw06_BallotNext.bits12 (fun HT_ HW_ => ?_)
            generalize wc.drew = w61 at BK168 BK169 BK173 BK177 HB hHeld ⊢
            refine pure_ (i := 0) (N := some 73) (v := ?_) (a' := ?_) m1 rfl rfl (any_of HT_.out (by kernel_rfl)) (fun _ _ _ h => h) (Or.inl ⟨by rfl, ?_⟩) ?_ ?_
            rotate_left
            ·intro w'
             go_simp
             with_reducible rfl
            rotate_left
            ·simp only [Act.put, List.setIfInBounds_toArray, List.set_cons_zero, List.set_cons_succ, i64_w, i32_w, IntKind.wrap_u8, IntKind.wrap_u32]
             rfl
            refine pure_ (i := 1) (N := some 74) (v := ?_) (a' := ?_) m2 rfl rfl (any_of HT_.out (by kernel_rfl)) (fun _ _ _ h => h) (Or.inl ⟨by rfl, ?_⟩) ?_ ?_
            rotate_left
            ·intro w'
             go_simp
             with_reducible rfl
            rotate_left
            ·simp only [Act.put, List.setIfInBounds_toArray, List.set_cons_zero, List.set_cons_succ, i64_w, i32_w, IntKind.wrap_u8, IntKind.wrap_u32]
             rfl
            refine take_ (i := 2) (N := some 75) (v := ?_) (a' := ?_) m3 rfl rfl (take_ofW HT_.out HW_.out (by kernel_rfl)) (fun _ _ _ h => h) (Or.inl ⟨by rfl, ?_⟩) hHeld ?_ ?_
            rotate_left
            ·rintro w' ⟨s0, s1, s2, s3, s4, s5, s6, s7⟩
             go_simp
             with_reducible rfl
            rotate_left
            ·simp only [Act.put, List.setIfInBounds_toArray, List.set_cons_zero, List.set_cons_succ, i64_w, i32_w, IntKind.wrap_u8, IntKind.wrap_u32]
             rfl
            refine take_ (i := 3) (N := some 76) (v := ?_) (a' := ?_) m4 rfl rfl (take_ofW HT_.out HW_.out (by kernel_rfl)) (fun _ _ _ h => h) (Or.inl ⟨by rfl, ?_⟩) hHeld ?_ ?_
            rotate_left
            ·rintro w' ⟨s0, s1, s2, s3, s4, s5, s6, s7⟩
             go_simp
             with_reducible rfl
            rotate_left
            ·simp only [Act.put, List.setIfInBounds_toArray, List.set_cons_zero, List.set_cons_succ, i64_w, i32_w, IntKind.wrap_u8, IntKind.wrap_u32]
             rfl
            refine one_ (i := 4) (N := some 77) m5 rfl rfl (one_of HT_.out (by kernel_rfl)) (by decide) (fun K hK => ?_)
            refine goes_ Tryd.func18 (by kernel_rfl) rfl #[.agg #[.int .u32 t170, .int .i64 t171], .agg #[.int .u32 ji8, .int .i64 (wrap64 (1 + (wrap64 (Int.tmod a2 7))))]] (by rfl) rfl rfl (by (try simp only [List.map_toArray, List.map_cons, List.map_nil]); first | done | (simp only [hji8]; rfl) | rfl | (simp only [List.length_drop, List.length_take]; rfl)) ?_
            with_reducible refine (ballot_Order.calls kj44 t170 t171 ji8 (wrap64 (1 + (wrap64 (Int.tmod a2 7)))) t178 _ A48.out).mono ?_
            rintro e w62 ⟨rfl, hb⟩
            refine ⟨_, rfl, ?_⟩
            have n0_ := aM (kB (g := gb168) (o := .cells #[.int .u32 ji8, .int .i64 (wrap64 (1 + (wrap64 (Int.tmod a2 7))))] 24 (0, 0)) (by (with_reducible repeat (first | refine kN ?_ _ | refine kD ?_ | refine kA ?_ _)); exact BK168.out) hb)
            have n1_ := aM (kB (g := gb169) (o := .cells #[.int .u32 ji9, .int .i64 (1 + (((Int.tdiv a2 7) % 256) % 7))] 24 (0, 0)) (by (with_reducible repeat (first | refine kN ?_ _ | refine kD ?_ | refine kA ?_ _)); exact BK169.out) hb)
            have n2_ := aM (kB (g := gb173) (o := .cells #[.int .u32 t170, .int .i64 t171] 24 (0, 0)) (by (with_reducible repeat (first | refine kN ?_ _ | refine kD ?_ | refine kA ?_ _)); exact BK173.out) hb)
            have n3_ := aM (kB (g := gb177) (o := .cells #[.int .u32 t174, .int .i64 t175] 24 (0, 0)) (by (with_reducible repeat (first | refine kN ?_ _ | refine kD ?_ | refine kA ?_ _)); exact BK177.out) hb)
            have n4_ := aM (below_step (by repeat (first | (with_reducible first | exact HB.out | apply bA | apply bN | apply bD | refine bS ?_ GE168.out | refine bS ?_ GE169.out | refine bS ?_ GE173.out | refine bS ?_ GE177.out) | exact HB.out)) hb)
            clear BK168
            clear BK169
            clear BK173
            clear BK177
            clear HB
            have BK168 := n0_
            have BK169 := n1_
            have BK173 := n2_
            have BK177 := n3_
            have HB := n4_
            clear n0_ n1_ n2_ n3_ n4_
            (try clear hb)
            (try clear hb2)
            (try clear hk)
            (try clear hi)
            refine hK.out _ _ ⟨(kC BK173.out 0).trans rfl, (kC BK173.out 1).trans rfl, (kC BK168.out 0).trans rfl, (kC BK168.out 1).trans rfl, (kC BK177.out 0).trans rfl, (kC BK177.out 1).trans rfl, (kC BK169.out 0).trans rfl, (kC BK169.out 1).trans rfl⟩ (fun hHeld => ?_)
            clear hK K
            refine norm_ (a' := ?_) ?_ ?_
            rotate_left
            ·show Act.put _ (some 77) _ = _
             simp only [Act.put, List.setIfInBounds_toArray, List.set_cons_zero, List.set_cons_succ, i64_w, i32_w, IntKind.wrap_u8, IntKind.wrap_u32]
             rfl
            refine pure_ (i := 5) (N := some 78) (v := ?_) (a' := ?_) m6 rfl rfl (any_of HT_.out (by kernel_rfl)) (fun _ _ _ h => h) (Or.inl ⟨by rfl, ?_⟩) ?_ ?_
            rotate_left
            ·intro w'
             go_simp
             with_reducible rfl
            rotate_left
            ·simp only [Act.put, List.setIfInBounds_toArray, List.set_cons_zero, List.set_cons_succ, i64_w, i32_w, IntKind.wrap_u8, IntKind.wrap_u32]
             rfl
            refine pure_ (i := 6) (N := some 79) (v := ?_) (a' := ?_) m7 rfl rfl (any_of HT_.out (by kernel_rfl)) (fun _ _ _ h => h) (Or.inl ⟨by rfl, ?_⟩) ?_ ?_
            rotate_left
            ·intro w'
             go_simp
             with_reducible rfl
            rotate_left
            ·simp only [Act.put, List.setIfInBounds_toArray, List.set_cons_zero, List.set_cons_succ, i64_w, i32_w, IntKind.wrap_u8, IntKind.wrap_u32]
             rfl
            refine pure_ (i := 7) (N := some 80) (v := ?_) (a' := ?_) m8 rfl rfl (any_of HT_.out (by kernel_rfl)) (fun _ _ _ h => h) (Or.inl ⟨by rfl, ?_⟩) ?_ ?_
            rotate_left
            ·intro w'
             go_simp
             with_reducible rfl
            rotate_left
            ·simp only [Act.put, List.setIfInBounds_toArray, List.set_cons_zero, List.set_cons_succ, i64_w, i32_w, IntKind.wrap_u8, IntKind.wrap_u32]
             rfl
            refine take_ (i := 8) (N := some 81) (v := ?_) (a' := ?_) m9 rfl rfl (take_ofW HT_.out HW_.out (by kernel_rfl)) (fun _ _ _ h => h) (Or.inl ⟨by rfl, ?_⟩) hHeld ?_ ?_
            rotate_left
            ·rintro w' ⟨s0, s1, s2, s3, s4, s5, s6, s7⟩
             go_simp
             with_reducible rfl
            rotate_left
            ·simp only [Act.put, List.setIfInBounds_toArray, List.set_cons_zero, List.set_cons_succ, i64_w, i32_w, IntKind.wrap_u8, IntKind.wrap_u32]
             rfl
            refine one_ (i := 9) (N := some 82) m10 rfl rfl (one_of HT_.out (by kernel_rfl)) (by decide) (fun K hK => ?_)
            refine goes_ Tryd.func15 (by kernel_rfl) rfl #[.agg #[.int .u32 t170, .int .i64 t171]] (by rfl) rfl rfl (by (try simp only [List.map_toArray, List.map_cons, List.map_nil]); first | done | rfl | (simp only [List.length_drop, List.length_take]; rfl)) ?_
            with_reducible refine (ballot_Right.calls t170 t171 true _ A50.out).mono ?_
            rintro e w63 ⟨rfl, hb⟩
            refine ⟨_, rfl, ?_⟩
            have n0_ := aM (kB (g := gb168) (o := .cells #[.int .u32 ji8, .int .i64 (wrap64 (1 + (wrap64 (Int.tmod a2 7))))] 24 (0, 0)) (by (with_reducible repeat (first | refine kN ?_ _ | refine kD ?_ | refine kA ?_ _)); exact BK168.out) hb)
            have n1_ := aM (kB (g := gb169) (o := .cells #[.int .u32 ji9, .int .i64 (1 + (((Int.tdiv a2 7) % 256) % 7))] 24 (0, 0)) (by (with_reducible repeat (first | refine kN ?_ _ | refine kD ?_ | refine kA ?_ _)); exact BK169.out) hb)
            have n2_ := aM (kB (g := gb173) (o := .cells #[.int .u32 t170, .int .i64 t171] 24 (0, 0)) (by (with_reducible repeat (first | refine kN ?_ _ | refine kD ?_ | refine kA ?_ _)); exact BK173.out) hb)
            have n3_ := aM (kB (g := gb177) (o := .cells #[.int .u32 t174, .int .i64 t175] 24 (0, 0)) (by (with_reducible repeat (first | refine kN ?_ _ | refine kD ?_ | refine kA ?_ _)); exact BK177.out) hb)
            have n4_ := aM (below_step (by repeat (first | (with_reducible first | exact HB.out | apply bA | apply bN | apply bD | refine bS ?_ GE168.out | refine bS ?_ GE169.out | refine bS ?_ GE173.out | refine bS ?_ GE177.out) | exact HB.out)) hb)
            clear BK168
            clear BK169
            clear BK173
            clear BK177
            clear HB
            have BK168 := n0_
            have BK169 := n1_
            have BK173 := n2_
            have BK177 := n3_
            have HB := n4_
            clear n0_ n1_ n2_ n3_ n4_
            (try clear hb)
            (try clear hb2)
            (try clear hk)
            (try clear hi)
            refine hK.out _ _ ⟨(kC BK173.out 0).trans rfl, (kC BK173.out 1).trans rfl, (kC BK168.out 0).trans rfl, (kC BK168.out 1).trans rfl, (kC BK177.out 0).trans rfl, (kC BK177.out 1).trans rfl, (kC BK169.out 0).trans rfl, (kC BK169.out 1).trans rfl⟩ (fun hHeld => ?_)
            clear hK K
            refine norm_ (a' := ?_) ?_ ?_
            rotate_left
            ·show Act.put _ (some 82) _ = _
             simp only [Act.put, List.setIfInBounds_toArray, List.set_cons_zero, List.set_cons_succ, i64_w, i32_w, IntKind.wrap_u8, IntKind.wrap_u32]
             rfl
            refine pure_ (i := 10) (N := some 83) (v := ?_) (a' := ?_) m11 rfl rfl (any_of HT_.out (by kernel_rfl)) (fun _ _ _ h => h) (Or.inl ⟨by rfl, ?_⟩) ?_ ?_
            rotate_left
            ·intro w'
             go_simp
             with_reducible rfl
            rotate_left
            ·simp only [Act.put, List.setIfInBounds_toArray, List.set_cons_zero, List.set_cons_succ, i64_w, i32_w, IntKind.wrap_u8, IntKind.wrap_u32]
             rfl
            refine pure_ (i := 11) (N := some 84) (v := ?_) (a' := ?_) m12 rfl rfl (any_of HT_.out (by kernel_rfl)) (fun _ _ _ h => h) (Or.inl ⟨by rfl, ?_⟩) ?_ ?_
            rotate_left
            ·intro w'
             go_simp
             with_reducible rfl
            rotate_left
            ·simp only [Act.put, List.setIfInBounds_toArray, List.set_cons_zero, List.set_cons_succ, i64_w, i32_w, IntKind.wrap_u8, IntKind.wrap_u32]
             rfl
            refine pure_ (i := 12) (N := some 85) (v := ?_) (a' := ?_) m13 rfl rfl (any_of HT_.out (by kernel_rfl)) (fun _ _ _ h => h) (Or.inl ⟨by rfl, ?_⟩) ?_ ?_
            rotate_left
            ·intro w'
             go_simp
             with_reducible rfl
            rotate_left
            ·simp only [Act.put, List.setIfInBounds_toArray, List.set_cons_zero, List.set_cons_succ, i64_w, i32_w, IntKind.wrap_u8, IntKind.wrap_u32]
             rfl
            refine pure_ (i := 13) (N := some 86) (v := ?_) (a' := ?_) m14 rfl rfl (any_of HT_.out (by kernel_rfl)) (fun _ _ _ h => h) (Or.inl ⟨by rfl, ?_⟩) ?_ ?_
            rotate_left
            ·intro w'
             go_simp
             with_reducible rfl
            rotate_left
            ·simp only [Act.put, List.setIfInBounds_toArray, List.set_cons_zero, List.set_cons_succ, i64_w, i32_w, IntKind.wrap_u8, IntKind.wrap_u32]
             rfl
            refine pure_ (i := 14) (N := some 87) (v := ?_) (a' := ?_) m15 rfl rfl (any_of HT_.out (by kernel_rfl)) (fun _ _ _ h => h) (Or.inl ⟨by rfl, ?_⟩) ?_ ?_
            rotate_left
            ·intro w'
             go_simp
             with_reducible rfl
            rotate_left
            ·simp only [Act.put, List.setIfInBounds_toArray, List.set_cons_zero, List.set_cons_succ, i64_w, i32_w, IntKind.wrap_u8, IntKind.wrap_u32]
             rfl
            refine pure_ (i := 15) (N := some 88) (v := ?_) (a' := ?_) m16 rfl rfl (any_of HT_.out (by kernel_rfl)) (fun _ _ _ h => h) (Or.inl ⟨by rfl, ?_⟩) ?_ ?_
            rotate_left
            ·intro w'
             go_simp
             with_reducible rfl
            rotate_left
            ·simp only [Act.put, List.setIfInBounds_toArray, List.set_cons_zero, List.set_cons_succ, i64_w, i32_w, IntKind.wrap_u8, IntKind.wrap_u32]
             rfl
            refine pure_ (i := 16) (N := some 89) (v := ?_) (a' := ?_) m17 rfl rfl (any_of HT_.out (by kernel_rfl)) (fun _ _ _ h => h) (Or.inl ⟨by rfl, ?_⟩) ?_ ?_
            rotate_left
            ·intro w'
             go_simp
             with_reducible rfl
            rotate_left
            ·simp only [Act.put, List.setIfInBounds_toArray, List.set_cons_zero, List.set_cons_succ, i64_w, i32_w, IntKind.wrap_u8, IntKind.wrap_u32]
             rfl
            refine pure_ (i := 17) (N := some 90) (v := ?_) (a' := ?_) m18 rfl rfl (any_of HT_.out (by kernel_rfl)) (fun _ _ _ h => h) (Or.inl ⟨by rfl, ?_⟩) ?_ ?_
            rotate_left
            ·intro w'
             go_simp
             with_reducible rfl
            rotate_left
            ·simp only [Act.put, List.setIfInBounds_toArray, List.set_cons_zero, List.set_cons_succ, i64_w, i32_w, IntKind.wrap_u8, IntKind.wrap_u32]
             rfl
            refine pure_ (i := 18) (N := some 91) (v := undef) (a' := ?_) m19 rfl rfl (any_of HT_.out (by kernel_rfl)) (fun _ _ _ h => h) (Or.inr ⟨by rfl, rfl⟩) ?_ ?_
            rotate_left
            ·simp only [Act.put, List.setIfInBounds_toArray, List.set_cons_zero, List.set_cons_succ, i64_w, i32_w, IntKind.wrap_u8, IntKind.wrap_u32]
             rfl
            refine pure_ (i := 19) (N := some 92) (v := undef) (a' := ?_) m20 rfl rfl (any_of HT_.out (by kernel_rfl)) (fun _ _ _ h => h) (Or.inr ⟨by rfl, rfl⟩) ?_ ?_
            rotate_left
            ·simp only [Act.put, List.setIfInBounds_toArray, List.set_cons_zero, List.set_cons_succ, i64_w, i32_w, IntKind.wrap_u8, IntKind.wrap_u32]
             rfl
            refine pure_ (i := 20) (N := some 93) (v := undef) (a' := ?_) m21 rfl rfl (any_of HT_.out (by kernel_rfl)) (fun _ _ _ h => h) (Or.inr ⟨by rfl, rfl⟩) ?_ ?_
            rotate_left
            ·simp only [Act.put, List.setIfInBounds_toArray, List.set_cons_zero, List.set_cons_succ, i64_w, i32_w, IntKind.wrap_u8, IntKind.wrap_u32]
             rfl
            refine pure_ (i := 21) (N := some 94) (v := ?_) (a' := ?_) m22 rfl rfl (any_of HT_.out (by kernel_rfl)) (fun _ _ _ h => h) (Or.inl ⟨by rfl, ?_⟩) ?_ ?_
            rotate_left
            ·intro w'
             go_simp
             with_reducible rfl
            rotate_left
            ·simp only [Act.put, List.setIfInBounds_toArray, List.set_cons_zero, List.set_cons_succ, i64_w, i32_w, IntKind.wrap_u8, IntKind.wrap_u32]
             rfl
            refine pure_ (i := 22) (N := some 95) (v := ?_) (a' := ?_) m23 rfl rfl (any_of HT_.out (by kernel_rfl)) (fun _ _ _ h => h) (Or.inl ⟨by rfl, ?_⟩) ?_ ?_
            rotate_left
            ·intro w'
             go_simp
             with_reducible rfl
            rotate_left
            ·simp only [Act.put, List.setIfInBounds_toArray, List.set_cons_zero, List.set_cons_succ, i64_w, i32_w, IntKind.wrap_u8, IntKind.wrap_u32]
             rfl
            refine pure_ (i := 23) (N := some 96) (v := ?_) (a' := ?_) m24 rfl rfl (any_of HT_.out (by kernel_rfl)) (fun _ _ _ h => h) (Or.inl ⟨by rfl, ?_⟩) ?_ ?_
            rotate_left
            ·intro w'
             go_simp
             with_reducible rfl
            rotate_left
            ·simp only [Act.put, List.setIfInBounds_toArray, List.set_cons_zero, List.set_cons_succ, i64_w, i32_w, IntKind.wrap_u8, IntKind.wrap_u32]
             rfl
            refine pure_ (i := 27) (N := some 100) (v := ?_) (a' := ?_) m25 rfl rfl (any_of HT_.out (by kernel_rfl)) (fun _ _ _ h => h) (Or.inl ⟨by rfl, ?_⟩) ?_ ?_
            rotate_left
            ·intro w'
             go_simp
             with_reducible rfl
            rotate_left
            ·simp only [Act.put, List.setIfInBounds_toArray, List.set_cons_zero, List.set_cons_succ, i64_w, i32_w, IntKind.wrap_u8, IntKind.wrap_u32]
             rfl
            refine pure_ (i := 28) (N := some 101) (v := ?_) (a' := ?_) m26 rfl rfl (any_of HT_.out (by kernel_rfl)) (fun _ _ _ h => h) (Or.inl ⟨by rfl, ?_⟩) ?_ ?_
            rotate_left
            ·intro w'
             go_simp
             with_reducible rfl
            rotate_left
            ·simp only [Act.put, List.setIfInBounds_toArray, List.set_cons_zero, List.set_cons_succ, i64_w, i32_w, IntKind.wrap_u8, IntKind.wrap_u32]
             rfl
            refine pure_ (i := 29) (N := some 102) (v := ?_) (a' := ?_) m27 rfl rfl (any_of HT_.out (by kernel_rfl)) (fun _ _ _ h => h) (Or.inl ⟨by rfl, ?_⟩) ?_ ?_
            rotate_left
            ·intro w'
             go_simp
             with_reducible rfl
            rotate_left
            ·simp only [Act.put, List.setIfInBounds_toArray, List.set_cons_zero, List.set_cons_succ, i64_w, i32_w, IntKind.wrap_u8, IntKind.wrap_u32]
             rfl
            refine pure_ (i := 30) (N := some 103) (v := ?_) (a' := ?_) m28 rfl rfl (any_of HT_.out (by kernel_rfl)) (fun _ _ _ h => h) (Or.inl ⟨by rfl, ?_⟩) ?_ ?_
            rotate_left
            ·intro w'
             go_simp
             with_reducible rfl
            rotate_left
            ·simp only [Act.put, List.setIfInBounds_toArray, List.set_cons_zero, List.set_cons_succ, i64_w, i32_w, IntKind.wrap_u8, IntKind.wrap_u32]
             rfl
            refine pure_ (i := 31) (N := some 104) (v := ?_) (a' := ?_) m29 rfl rfl (any_of HT_.out (by kernel_rfl)) (fun _ _ _ h => h) (Or.inl ⟨by rfl, ?_⟩) ?_ ?_
            rotate_left
            ·intro w'
             go_simp
             with_reducible rfl
            rotate_left
            ·simp only [Act.put, List.setIfInBounds_toArray, List.set_cons_zero, List.set_cons_succ, i64_w, i32_w, IntKind.wrap_u8, IntKind.wrap_u32]
             rfl
            refine pure_ (i := 32) (N := some 105) (v := ?_) (a' := ?_) m30 rfl rfl (any_of HT_.out (by kernel_rfl)) (fun _ _ _ h => h) (Or.inl ⟨by rfl, ?_⟩) ?_ ?_
            rotate_left
            ·intro w'
             go_simp
             with_reducible rfl
            rotate_left
            ·simp only [Act.put, List.setIfInBounds_toArray, List.set_cons_zero, List.set_cons_succ, i64_w, i32_w, IntKind.wrap_u8, IntKind.wrap_u32]
             rfl
            refine pure_ (i := 33) (N := some 106) (v := ?_) (a' := ?_) m31 rfl rfl (any_of HT_.out (by kernel_rfl)) (fun _ _ _ h => h) (Or.inl ⟨by rfl, ?_⟩) ?_ ?_
            rotate_left
            ·intro w'
             go_simp
             with_reducible rfl
            rotate_left
            ·simp only [Act.put, List.setIfInBounds_toArray, List.set_cons_zero, List.set_cons_succ, i64_w, i32_w, IntKind.wrap_u8, IntKind.wrap_u32]
             rfl
            refine pure_ (i := 35) (N := some 108) (v := ?_) (a' := ?_) m32 rfl rfl (any_of HT_.out (by kernel_rfl)) (fun _ _ _ h => h) (Or.inl ⟨by rfl, ?_⟩) ?_ ?_
            rotate_left
            ·intro w'
             go_simp
             with_reducible rfl
            rotate_left
            ·simp only [Act.put, List.setIfInBounds_toArray, List.set_cons_zero, List.set_cons_succ, i64_w, i32_w, IntKind.wrap_u8, IntKind.wrap_u32]
             rfl
            refine take_ (i := 24) (N := some 97) (v := ?_) (a' := ?_) m33 rfl rfl (take_ofW HT_.out HW_.out (by kernel_rfl)) (fun _ _ _ h => h) (Or.inl ⟨by rfl, ?_⟩) hHeld ?_ ?_
            rotate_left
            ·rintro w' ⟨s0, s1, s2, s3, s4, s5, s6, s7⟩
             go_simp
             with_reducible rfl
            rotate_left
            ·simp only [Act.put, List.setIfInBounds_toArray, List.set_cons_zero, List.set_cons_succ, i64_w, i32_w, IntKind.wrap_u8, IntKind.wrap_u32]
             rfl
            refine take_ (i := 25) (N := some 98) (v := ?_) (a' := ?_) m34 rfl rfl (take_ofW HT_.out HW_.out (by kernel_rfl)) (fun _ _ _ h => h) (Or.inl ⟨by rfl, ?_⟩) hHeld ?_ ?_
            rotate_left
            ·rintro w' ⟨s0, s1, s2, s3, s4, s5, s6, s7⟩
             go_simp
             with_reducible rfl
            rotate_left
            ·simp only [Act.put, List.setIfInBounds_toArray, List.set_cons_zero, List.set_cons_succ, i64_w, i32_w, IntKind.wrap_u8, IntKind.wrap_u32]
             rfl
            refine pure_ (i := 26) (N := some 99) (v := ?_) (a' := ?_) m35 rfl rfl (any_of HT_.out (by kernel_rfl)) (fun _ _ _ h => h) (Or.inl ⟨by rfl, ?_⟩) ?_ ?_
            rotate_left
            ·intro w'
             go_simp
             with_reducible rfl
            rotate_left
            ·simp only [Act.put, List.setIfInBounds_toArray, List.set_cons_zero, List.set_cons_succ, i64_w, i32_w, IntKind.wrap_u8, IntKind.wrap_u32]
             rfl
            refine take_ (i := 34) (N := some 107) (v := ?_) (a' := ?_) m36 rfl rfl (take_ofW HT_.out HW_.out (by kernel_rfl)) (fun _ _ _ h => h) (Or.inl ⟨by rfl, ?_⟩) hHeld ?_ ?_
            rotate_left
            ·rintro w' ⟨s0, s1, s2, s3, s4, s5, s6, s7⟩
             go_simp
             with_reducible rfl
            rotate_left
            ·simp only [Act.put, List.setIfInBounds_toArray, List.set_cons_zero, List.set_cons_succ, i64_w, i32_w, IntKind.wrap_u8, IntKind.wrap_u32]
             rfl
            refine take_ (i := 36) (N := some 109) (v := ?_) (a' := ?_) m37 rfl rfl (take_ofW HT_.out HW_.out (by kernel_rfl)) (fun _ _ _ h => h) (Or.inl ⟨by rfl, ?_⟩) hHeld ?_ ?_
            rotate_left
            ·rintro w' ⟨s0, s1, s2, s3, s4, s5, s6, s7⟩
             go_simp
             with_reducible rfl
            rotate_left
            ·simp only [Act.put, List.setIfInBounds_toArray, List.set_cons_zero, List.set_cons_succ, i64_w, i32_w, IntKind.wrap_u8, IntKind.wrap_u32]
             rfl
            refine pure_ (i := 37) (N := some 110) (v := ?_) (a' := ?_) m38 rfl rfl (any_of HT_.out (by kernel_rfl)) (fun _ _ _ h => h) (Or.inl ⟨by rfl, ?_⟩) ?_ ?_
            rotate_left
            ·intro w'
             go_simp
             with_reducible rfl
            rotate_left
            ·simp only [Act.put, List.setIfInBounds_toArray, List.set_cons_zero, List.set_cons_succ, i64_w, i32_w, IntKind.wrap_u8, IntKind.wrap_u32]
             rfl
            refine pure_ (i := 38) (N := some 111) (v := ?_) (a' := ?_) m39 rfl rfl (any_of HT_.out (by kernel_rfl)) (fun _ _ _ h => h) (Or.inl ⟨by rfl, ?_⟩) ?_ ?_
            rotate_left
            ·intro w'
             go_simp
             with_reducible rfl
            rotate_left
            ·simp only [Act.put, List.setIfInBounds_toArray, List.set_cons_zero, List.set_cons_succ, i64_w, i32_w, IntKind.wrap_u8, IntKind.wrap_u32]
             rfl
            refine pure_ (i := 39) (N := some 112) (v := ?_) (a' := ?_) m40 rfl rfl (any_of HT_.out (by kernel_rfl)) (fun _ _ _ h => h) (Or.inl ⟨by rfl, ?_⟩) ?_ ?_
            rotate_left
            ·intro w'
             go_simp
             with_reducible rfl
            rotate_left
            ·simp only [Act.put, List.setIfInBounds_toArray, List.set_cons_zero, List.set_cons_succ, i64_w, i32_w, IntKind.wrap_u8, IntKind.wrap_u32]
             rfl
            refine pure_ (i := 40) (N := some 113) (v := ?_) (a' := ?_) m41 rfl rfl (any_of HT_.out (by kernel_rfl)) (fun _ _ _ h => h) (Or.inl ⟨by rfl, ?_⟩) ?_ ?_
            rotate_left
            ·intro w'
             go_simp
             with_reducible rfl
            rotate_left
            ·simp only [Act.put, List.setIfInBounds_toArray, List.set_cons_zero, List.set_cons_succ, i64_w, i32_w, IntKind.wrap_u8, IntKind.wrap_u32]
             rfl
            refine pure_ (i := 41) (N := some 114) (v := ?_) (a' := ?_) m42 rfl rfl (any_of HT_.out (by kernel_rfl)) (fun _ _ _ h => h) (Or.inl ⟨by rfl, ?_⟩) ?_ ?_
            rotate_left
            ·intro w'
             go_simp
             with_reducible rfl
            rotate_left
            ·simp only [Act.put, List.setIfInBounds_toArray, List.set_cons_zero, List.set_cons_succ, i64_w, i32_w, IntKind.wrap_u8, IntKind.wrap_u32]
             rfl
            refine pure_ (i := 42) (N := some 115) (v := undef) (a' := ?_) m43 rfl rfl (any_of HT_.out (by kernel_rfl)) (fun _ _ _ h => h) (Or.inr ⟨by rfl, rfl⟩) ?_ ?_
            rotate_left
            ·simp only [Act.put, List.setIfInBounds_toArray, List.set_cons_zero, List.set_cons_succ, i64_w, i32_w, IntKind.wrap_u8, IntKind.wrap_u32]
             rfl
            refine pure_ (i := 43) (N := some 116) (v := undef) (a' := ?_) m44 rfl rfl (any_of HT_.out (by kernel_rfl)) (fun _ _ _ h => h) (Or.inr ⟨by rfl, rfl⟩) ?_ ?_
            rotate_left
            ·simp only [Act.put, List.setIfInBounds_toArray, List.set_cons_zero, List.set_cons_succ, i64_w, i32_w, IntKind.wrap_u8, IntKind.wrap_u32]
             rfl
            refine pure_ (i := 44) (N := some 117) (v := undef) (a' := ?_) m53 rfl rfl (any_of HT_.out (by kernel_rfl)) (fun _ _ _ h => h) (Or.inr ⟨by rfl, rfl⟩) ?_ ?_
            rotate_left
            ·simp only [Act.put, List.setIfInBounds_toArray, List.set_cons_zero, List.set_cons_succ, i64_w, i32_w, IntKind.wrap_u8, IntKind.wrap_u32]
             rfl
            refine pure_ (i := 45) (N := some 118) (v := undef) (a' := ?_) m54 rfl rfl (any_of HT_.out (by kernel_rfl)) (fun _ _ _ h => h) (Or.inr ⟨by rfl, rfl⟩) ?_ ?_
            rotate_left
            ·simp only [Act.put, List.setIfInBounds_toArray, List.set_cons_zero, List.set_cons_succ, i64_w, i32_w, IntKind.wrap_u8, IntKind.wrap_u32]
             rfl
            refine pure_ (i := 46) (N := some 119) (v := undef) (a' := ?_) m47 rfl rfl (any_of HT_.out (by kernel_rfl)) (fun _ _ _ h => h) (Or.inr ⟨by rfl, rfl⟩) ?_ ?_
            rotate_left
            ·simp only [Act.put, List.setIfInBounds_toArray, List.set_cons_zero, List.set_cons_succ, i64_w, i32_w, IntKind.wrap_u8, IntKind.wrap_u32]
             rfl
            refine pure_ (i := 47) (N := some 120) (v := undef) (a' := ?_) m48 rfl rfl (any_of HT_.out (by kernel_rfl)) (fun _ _ _ h => h) (Or.inr ⟨by rfl, rfl⟩) ?_ ?_
            rotate_left
            ·simp only [Act.put, List.setIfInBounds_toArray, List.set_cons_zero, List.set_cons_succ, i64_w, i32_w, IntKind.wrap_u8, IntKind.wrap_u32]
             rfl
            refine pure_ (i := 48) (N := some 121) (v := undef) (a' := ?_) m49 rfl rfl (any_of HT_.out (by kernel_rfl)) (fun _ _ _ h => h) (Or.inr ⟨by rfl, rfl⟩) ?_ ?_
            rotate_left
            ·simp only [Act.put, List.setIfInBounds_toArray, List.set_cons_zero, List.set_cons_succ, i64_w, i32_w, IntKind.wrap_u8, IntKind.wrap_u32]
             rfl
            refine pure_ (i := 49) (N := some 122) (v := undef) (a' := ?_) m50 rfl rfl (any_of HT_.out (by kernel_rfl)) (fun _ _ _ h => h) (Or.inr ⟨by rfl, rfl⟩) ?_ ?_
            rotate_left
            ·simp only [Act.put, List.setIfInBounds_toArray, List.set_cons_zero, List.set_cons_succ, i64_w, i32_w, IntKind.wrap_u8, IntKind.wrap_u32]
             rfl
            refine pure_ (i := 50) (N := some 123) (v := ?_) (a' := ?_) m51 rfl rfl (any_of HT_.out (by kernel_rfl)) (fun _ _ _ h => h) (Or.inl ⟨by rfl, ?_⟩) ?_ ?_
            rotate_left
            ·intro w'
             go_simp
             with_reducible rfl
            rotate_left
            ·simp only [Act.put, List.setIfInBounds_toArray, List.set_cons_zero, List.set_cons_succ, i64_w, i32_w, IntKind.wrap_u8, IntKind.wrap_u32]
             rfl
            refine pure_ (i := 51) (N := some 10) (v := ?_) (a' := ?_) m52 rfl rfl (any_of HT_.out (by kernel_rfl)) (fun _ _ _ h => h) (Or.inl ⟨by rfl, ?_⟩) ?_ ?_
            rotate_left
            ·intro w'
             go_simp
             with_reducible rfl
            rotate_left
            ·simp only [Act.put, List.setIfInBounds_toArray, List.set_cons_zero, List.set_cons_succ, i64_w, i32_w, IntKind.wrap_u8, IntKind.wrap_u32]
             rfl
            refine done_ (done_of HT_.out (by kernel_rfl)) ?_
            try go_wp2
            go_ret
            exact ⟨by first | rfl | (simp [errW_none, errW_some] <;> rfl) | (simp only [← hji8, ← hji9]; first | rfl | (simp [errW_none, errW_some] <;> rfl)) | (simp [*, errW_none, errW_some] <;> rfl), by repeat (first | (with_reducible first | exact HB.out | apply bA | apply bN | apply bD | refine bS ?_ GE168.out | refine bS ?_ GE169.out | refine bS ?_ GE173.out | refine bS ?_ GE177.out) | exact HB.out)⟩
          ·rw [if_neg c52] at H
           have c52b0 : ((Int.tmod a3 7) == (Int.tmod a4 7)) = false := beq_eq_false_iff_ne.mpr c52
           have c52b1 : ((Int.tmod a3 7) != (Int.tmod a4 7)) = true := bne_iff_ne.mpr c52
           by_cases c64 : (!(t170 == t174) || (!(t171 == t175))) = true
           ·rw [if_pos c64] at H
            have c64b0 : (!(t170 == t174) || (!(t171 == t175))) = true := c64
            clear c64
            by_cases c65 : ((t170 == t174 && (t171 == t175)) == false) = true
            ·rw [if_pos c65] at H
             have c65b0 : ((t170 == t174 && (t171 == t175)) == false) = true := c65
             (try (have c65b1 : decide ((t170 == t174 && (t171 == t175)) = false) = true := by simpa using c65))
             (try (have c65b2 : ((t170 == t174 && (t171 == t175)) == false) = true := by simpa using c65))
             clear c65
             replace H := Option.bind_eq_some_iff.mp H
             obtain ⟨t182, A660, H⟩ := H
             replace H : ((ballot_Order.f kj44 ji9 (1 + (((Int.tdiv a2 7) % 256) % 7)) ji8 (wrap64 (1 + (wrap64 (Int.tmod a2 7))))).bind fun t183 => (some (t182 == (wrap64 (-t183))))) = some r := H
             have A66 := aM A660
             clear A660
             replace H := Option.bind_eq_some_iff.mp H
             obtain ⟨t183, A670, H⟩ := H
             replace H : (some (t182 == (wrap64 (-t183)))) = some r := H
             have A67 := aM A670
             clear A670
             obtain rfl := Option.some.inj H
             try go_wp2
             have n0_ := aM (kD BK168.out)
             have n1_ := aM (kD BK169.out)
             have n2_ := aM (kD BK173.out)
             have n3_ := aM (kD BK177.out)
             have n4_ := aM (bD HB.out)
             clear BK168
             clear BK169
             clear BK173
             clear BK177
             clear HB
             have BK168 := n0_
             have BK169 := n1_
             have BK173 := n2_
             have BK177 := n3_
             have HB := n4_
             clear n0_ n1_ n2_ n3_ n4_
             refine start_ (n := 52) (S := fun w' => w'.cell? ⟨gb173, 0, none⟩ = some (.int .u32 t170) ∧ w'.cell? ⟨gb173, 1, none⟩ = some (.int .i64 t171) ∧ w'.cell? ⟨gb168, 0, none⟩ = some (.int .u32 ji8) ∧ w'.cell? ⟨gb168, 1, none⟩ = some (.int .i64 (wrap64 (1 + (wrap64 (Int.tmod a2 7))))) ∧ w'.cell? ⟨gb177, 0, none⟩ = some (.int .u32 t174) ∧ w'.cell? ⟨gb177, 1, none⟩ = some (.int .i64 t175) ∧ w'.cell? ⟨gb169, 0, none⟩ = some (.int .u32 ji9) ∧ w'.cell? ⟨gb169, 1, none⟩ = some (.int .i64 (1 + (((Int.tdiv a2 7) % 256) % 7)))) (ds := []) m0 (by kernel_rfl) rfl rfl ⟨(kC BK173.out 0).trans rfl, (kC BK173.out 1).trans rfl, (kC BK168.out 0).trans rfl, (kC BK168.out 1).trans rfl, (kC BK177.out 0).trans rfl, (kC BK177.out 1).trans rfl, (kC BK169.out 0).trans rfl, (kC BK169.out 1).trans rfl⟩ (fun hHeld => ?_); refine with_tabW comitialaw06_BallotNext.tab12 comitialaw06_BallotNext.bits12 (fun HT_ HW_ => ?_)
             generalize wc.drew = w68 at BK168 BK169 BK173 BK177 HB hHeld ⊢
             refine pure_ (i := 0) (N := some 73) (v := ?_) (a' := ?_) m1 rfl rfl (any_of HT_.out (by kernel_rfl)) (fun _ _ _ h => h) (Or.inl ⟨by rfl, ?_⟩) ?_ ?_
             rotate_left
             ·intro w'
              go_simp
              with_reducible rfl
             rotate_left
             ·simp only [Act.put, List.setIfInBounds_toArray, List.set_cons_zero, List.set_cons_succ, i64_w, i32_w, IntKind.wrap_u8, IntKind.wrap_u32]
              rfl
             refine pure_ (i := 1) (N := some 74) (v := ?_) (a' := ?_) m2 rfl rfl (any_of HT_.out (by kernel_rfl)) (fun _ _ _ h => h) (Or.inl ⟨by rfl, ?_⟩) ?_ ?_
             rotate_left
             ·intro w'
              go_simp
              with_reducible rfl
             rotate_left
             ·simp only [Act.put, List.setIfInBounds_toArray, List.set_cons_zero, List.set_cons_succ, i64_w, i32_w, IntKind.wrap_u8, IntKind.wrap_u32]
              rfl
             refine take_ (i := 2) (N := some 75) (v := ?_) (a' := ?_) m3 rfl rfl (take_ofW HT_.out HW_.out (by kernel_rfl)) (fun _ _ _ h => h) (Or.inl ⟨by rfl, ?_⟩) hHeld ?_ ?_
             rotate_left
             ·rintro w' ⟨s0, s1, s2, s3, s4, s5, s6, s7⟩
              go_simp
              with_reducible rfl
             rotate_left
             ·simp only [Act.put, List.setIfInBounds_toArray, List.set_cons_zero, List.set_cons_succ, i64_w, i32_w, IntKind.wrap_u8, IntKind.wrap_u32]
              rfl
             refine take_ (i := 3) (N := some 76) (v := ?_) (a' := ?_) m4 rfl rfl (take_ofW HT_.out HW_.out (by kernel_rfl)) (fun _ _ _ h => h) (Or.inl ⟨by rfl, ?_⟩) hHeld ?_ ?_
             rotate_left
             ·rintro w' ⟨s0, s1, s2, s3, s4, s5, s6, s7⟩
              go_simp
              with_reducible rfl
             rotate_left
             ·simp only [Act.put, List.setIfInBounds_toArray, List.set_cons_zero, List.set_cons_succ, i64_w, i32_w, IntKind.wrap_u8, IntKind.wrap_u32]
              rfl
             refine one_ (i := 4) (N := some 77) m5 rfl rfl (one_of HT_.out (by kernel_rfl)) (by decide) (fun K hK => ?_)
             refine goes_ Tryd.func18 (by kernel_rfl) rfl #[.agg #[.int .u32 t170, .int .i64 t171], .agg #[.int .u32 ji8, .int .i64 (wrap64 (1 + (wrap64 (Int.tmod a2 7))))]] (by rfl) rfl rfl (by (try simp only [List.map_toArray, List.map_cons, List.map_nil]); first | done | (simp only [hji8]; rfl) | rfl | (simp only [List.length_drop, List.length_take]; rfl)) ?_
             with_reducible refine (ballot_Order.calls kj44 t170 t171 ji8 (wrap64 (1 + (wrap64 (Int.tmod a2 7)))) t178 _ A48.out).mono ?_
             rintro e w69 ⟨rfl, hb⟩
             refine ⟨_, rfl, ?_⟩
             have n0_ := aM (kB (g := gb168) (o := .cells #[.int .u32 ji8, .int .i64 (wrap64 (1 + (wrap64 (Int.tmod a2 7))))] 24 (0, 0)) (by (with_reducible repeat (first | refine kN ?_ _ | refine kD ?_ | refine kA ?_ _)); exact BK168.out) hb)
             have n1_ := aM (kB (g := gb169) (o := .cells #[.int .u32 ji9, .int .i64 (1 + (((Int.tdiv a2 7) % 256) % 7))] 24 (0, 0)) (by (with_reducible repeat (first | refine kN ?_ _ | refine kD ?_ | refine kA ?_ _)); exact BK169.out) hb)
             have n2_ := aM (kB (g := gb173) (o := .cells #[.int .u32 t170, .int .i64 t171] 24 (0, 0)) (by (with_reducible repeat (first | refine kN ?_ _ | refine kD ?_ | refine kA ?_ _)); exact BK173.out) hb)
             have n3_ := aM (kB (g := gb177) (o := .cells #[.int .u32 t174, .int .i64 t175] 24 (0, 0)) (by (with_reducible repeat (first | refine kN ?_ _ | refine kD ?_ | refine kA ?_ _)); exact BK177.out) hb)
             have n4_ := aM (below_step (by repeat (first | (with_reducible first | exact HB.out | apply bA | apply bN | apply bD | refine bS ?_ GE168.out | refine bS ?_ GE169.out | refine bS ?_ GE173.out | refine bS ?_ GE177.out) | exact HB.out)) hb)
             clear BK168
             clear BK169
             clear BK173
             clear BK177
             clear HB
             have BK168 := n0_
             have BK169 := n1_
             have BK173 := n2_
             have BK177 := n3_
             have HB := n4_
             clear n0_ n1_ n2_ n3_ n4_
             (try clear hb)
             (try clear hb2)
             (try clear hk)
             (try clear hi)
             refine hK.out _ _ ⟨(kC BK173.out 0).trans rfl, (kC BK173.out 1).trans rfl, (kC BK168.out 0).trans rfl, (kC BK168.out 1).trans rfl, (kC BK177.out 0).trans rfl, (kC BK177.out 1).trans rfl, (kC BK169.out 0).trans rfl, (kC BK169.out 1).trans rfl⟩ (fun hHeld => ?_)
             clear hK K
             refine norm_ (a' := ?_) ?_ ?_
             rotate_left
             ·show Act.put _ (some 77) _ = _
              simp only [Act.put, List.setIfInBounds_toArray, List.set_cons_zero, List.set_cons_succ, i64_w, i32_w, IntKind.wrap_u8, IntKind.wrap_u32]
              rfl
             refine pure_ (i := 5) (N := some 78) (v := ?_) (a' := ?_) m6 rfl rfl (any_of HT_.out (by kernel_rfl)) (fun _ _ _ h => h) (Or.inl ⟨by rfl, ?_⟩) ?_ ?_
             rotate_left
             ·intro w'
              go_simp
              with_reducible rfl
             rotate_left
             ·simp only [Act.put, List.setIfInBounds_toArray, List.set_cons_zero, List.set_cons_succ, i64_w, i32_w, IntKind.wrap_u8, IntKind.wrap_u32]
              rfl
             refine pure_ (i := 6) (N := some 79) (v := ?_) (a' := ?_) m7 rfl rfl (any_of HT_.out (by kernel_rfl)) (fun _ _ _ h => h) (Or.inl ⟨by rfl, ?_⟩) ?_ ?_
             rotate_left
             ·intro w'
              go_simp
              with_reducible rfl
             rotate_left
             ·simp only [Act.put, List.setIfInBounds_toArray, List.set_cons_zero, List.set_cons_succ, i64_w, i32_w, IntKind.wrap_u8, IntKind.wrap_u32]
              rfl
             refine pure_ (i := 7) (N := some 80) (v := ?_) (a' := ?_) m8 rfl rfl (any_of HT_.out (by kernel_rfl)) (fun _ _ _ h => h) (Or.inl ⟨by rfl, ?_⟩) ?_ ?_
             rotate_left
             ·intro w'
              go_simp
              with_reducible rfl
             rotate_left
             ·simp only [Act.put, List.setIfInBounds_toArray, List.set_cons_zero, List.set_cons_succ, i64_w, i32_w, IntKind.wrap_u8, IntKind.wrap_u32]
              rfl
             refine take_ (i := 8) (N := some 81) (v := ?_) (a' := ?_) m9 rfl rfl (take_ofW HT_.out HW_.out (by kernel_rfl)) (fun _ _ _ h => h) (Or.inl ⟨by rfl, ?_⟩) hHeld ?_ ?_
             rotate_left
             ·rintro w' ⟨s0, s1, s2, s3, s4, s5, s6, s7⟩
              go_simp
              with_reducible rfl
             rotate_left
             ·simp only [Act.put, List.setIfInBounds_toArray, List.set_cons_zero, List.set_cons_succ, i64_w, i32_w, IntKind.wrap_u8, IntKind.wrap_u32]
              rfl
             refine one_ (i := 9) (N := some 82) m10 rfl rfl (one_of HT_.out (by kernel_rfl)) (by decide) (fun K hK => ?_)
             refine goes_ Tryd.func15 (by kernel_rfl) rfl #[.agg #[.int .u32 t170, .int .i64 t171]] (by rfl) rfl rfl (by (try simp only [List.map_toArray, List.map_cons, List.map_nil]); first | done | rfl | (simp only [List.length_drop, List.length_take]; rfl)) ?_
             with_reducible refine (ballot_Right.calls t170 t171 true _ A50.out).mono ?_
             rintro e w70 ⟨rfl, hb⟩
             refine ⟨_, rfl, ?_⟩
             have n0_ := aM (kB (g := gb168) (o := .cells #[.int .u32 ji8, .int .i64 (wrap64 (1 + (wrap64 (Int.tmod a2 7))))] 24 (0, 0)) (by (with_reducible repeat (first | refine kN ?_ _ | refine kD ?_ | refine kA ?_ _)); exact BK168.out) hb)
             have n1_ := aM (kB (g := gb169) (o := .cells #[.int .u32 ji9, .int .i64 (1 + (((Int.tdiv a2 7) % 256) % 7))] 24 (0, 0)) (by (with_reducible repeat (first | refine kN ?_ _ | refine kD ?_ | refine kA ?_ _)); exact BK169.out) hb)
             have n2_ := aM (kB (g := gb173) (o := .cells #[.int .u32 t170, .int .i64 t171] 24 (0, 0)) (by (with_reducible repeat (first | refine kN ?_ _ | refine kD ?_ | refine kA ?_ _)); exact BK173.out) hb)
             have n3_ := aM (kB (g := gb177) (o := .cells #[.int .u32 t174, .int .i64 t175] 24 (0, 0)) (by (with_reducible repeat (first | refine kN ?_ _ | refine kD ?_ | refine kA ?_ _)); exact BK177.out) hb)
             have n4_ := aM (below_step (by repeat (first | (with_reducible first | exact HB.out | apply bA | apply bN | apply bD | refine bS ?_ GE168.out | refine bS ?_ GE169.out | refine bS ?_ GE173.out | refine bS ?_ GE177.out) | exact HB.out)) hb)
             clear BK168
             clear BK169
             clear BK173
             clear BK177
             clear HB
             have BK168 := n0_
             have BK169 := n1_
             have BK173 := n2_
             have BK177 := n3_
             have HB := n4_
             clear n0_ n1_ n2_ n3_ n4_
             (try clear hb)
             (try clear hb2)
             (try clear hk)
             (try clear hi)
             refine hK.out _ _ ⟨(kC BK173.out 0).trans rfl, (kC BK173.out 1).trans rfl, (kC BK168.out 0).trans rfl, (kC BK168.out 1).trans rfl, (kC BK177.out 0).trans rfl, (kC BK177.out 1).trans rfl, (kC BK169.out 0).trans rfl, (kC BK169.out 1).trans rfl⟩ (fun hHeld => ?_)
             clear hK K
             refine norm_ (a' := ?_) ?_ ?_
             rotate_left
             ·show Act.put _ (some 82) _ = _
              simp only [Act.put, List.setIfInBounds_toArray, List.set_cons_zero, List.set_cons_succ, i64_w, i32_w, IntKind.wrap_u8, IntKind.wrap_u32]
              rfl
             refine pure_ (i := 10) (N := some 83) (v := ?_) (a' := ?_) m11 rfl rfl (any_of HT_.out (by kernel_rfl)) (fun _ _ _ h => h) (Or.inl ⟨by rfl, ?_⟩) ?_ ?_
             rotate_left
             ·intro w'
              go_simp
              with_reducible rfl
             rotate_left
             ·simp only [Act.put, List.setIfInBounds_toArray, List.set_cons_zero, List.set_cons_succ, i64_w, i32_w, IntKind.wrap_u8, IntKind.wrap_u32]
              rfl
             refine pure_ (i := 11) (N := some 84) (v := ?_) (a' := ?_) m12 rfl rfl (any_of HT_.out (by kernel_rfl)) (fun _ _ _ h => h) (Or.inl ⟨by rfl, ?_⟩) ?_ ?_
             rotate_left
             ·intro w'
              go_simp
              with_reducible rfl
             rotate_left
             ·simp only [Act.put, List.setIfInBounds_toArray, List.set_cons_zero, List.set_cons_succ, i64_w, i32_w, IntKind.wrap_u8, IntKind.wrap_u32]
              rfl
             refine pure_ (i := 12) (N := some 85) (v := ?_) (a' := ?_) m13 rfl rfl (any_of HT_.out (by kernel_rfl)) (fun _ _ _ h => h) (Or.inl ⟨by rfl, ?_⟩) ?_ ?_
             rotate_left
             ·intro w'
              go_simp
              with_reducible rfl
             rotate_left
             ·simp only [Act.put, List.setIfInBounds_toArray, List.set_cons_zero, List.set_cons_succ, i64_w, i32_w, IntKind.wrap_u8, IntKind.wrap_u32]
              rfl
             refine pure_ (i := 13) (N := some 86) (v := ?_) (a' := ?_) m14 rfl rfl (any_of HT_.out (by kernel_rfl)) (fun _ _ _ h => h) (Or.inl ⟨by rfl, ?_⟩) ?_ ?_
             rotate_left
             ·intro w'
              go_simp
              with_reducible rfl
             rotate_left
             ·simp only [Act.put, List.setIfInBounds_toArray, List.set_cons_zero, List.set_cons_succ, i64_w, i32_w, IntKind.wrap_u8, IntKind.wrap_u32]
              rfl
             refine pure_ (i := 14) (N := some 87) (v := ?_) (a' := ?_) m15 rfl rfl (any_of HT_.out (by kernel_rfl)) (fun _ _ _ h => h) (Or.inl ⟨by rfl, ?_⟩) ?_ ?_
             rotate_left
             ·intro w'
              go_simp
              with_reducible rfl
             rotate_left
             ·simp only [Act.put, List.setIfInBounds_toArray, List.set_cons_zero, List.set_cons_succ, i64_w, i32_w, IntKind.wrap_u8, IntKind.wrap_u32]
              rfl
             refine pure_ (i := 15) (N := some 88) (v := ?_) (a' := ?_) m16 rfl rfl (any_of HT_.out (by kernel_rfl)) (fun _ _ _ h => h) (Or.inl ⟨by rfl, ?_⟩) ?_ ?_
             rotate_left
             ·intro w'
              go_simp
              with_reducible rfl
             rotate_left
             ·simp only [Act.put, List.setIfInBounds_toArray, List.set_cons_zero, List.set_cons_succ, i64_w, i32_w, IntKind.wrap_u8, IntKind.wrap_u32]
              rfl
             refine pure_ (i := 16) (N := some 89) (v := ?_) (a' := ?_) m17 rfl rfl (any_of HT_.out (by kernel_rfl)) (fun _ _ _ h => h) (Or.inl ⟨by rfl, ?_⟩) ?_ ?_
             rotate_left
             ·intro w'
              go_simp
              with_reducible rfl
             rotate_left
             ·simp only [Act.put, List.setIfInBounds_toArray, List.set_cons_zero, List.set_cons_succ, i64_w, i32_w, IntKind.wrap_u8, IntKind.wrap_u32]
              rfl
             refine pure_ (i := 17) (N := some 90) (v := ?_) (a' := ?_) m18 rfl rfl (any_of HT_.out (by kernel_rfl)) (fun _ _ _ h => h) (Or.inl ⟨by rfl, ?_⟩) ?_ ?_
             rotate_left
             ·intro w'
              go_simp
              with_reducible rfl
             rotate_left
             ·simp only [Act.put, List.setIfInBounds_toArray, List.set_cons_zero, List.set_cons_succ, i64_w, i32_w, IntKind.wrap_u8, IntKind.wrap_u32]
              rfl
             refine take_ (i := 18) (N := some 91) (v := ?_) (a' := ?_) m19 rfl rfl (take_ofW HT_.out HW_.out (by kernel_rfl)) (fun _ _ _ h => h) (Or.inl ⟨by rfl, ?_⟩) hHeld ?_ ?_
             rotate_left
             ·rintro w' ⟨s0, s1, s2, s3, s4, s5, s6, s7⟩
              go_simp
              with_reducible rfl
             rotate_left
             ·simp only [Act.put, List.setIfInBounds_toArray, List.set_cons_zero, List.set_cons_succ, i64_w, i32_w, IntKind.wrap_u8, IntKind.wrap_u32]
              rfl
             refine take_ (i := 19) (N := some 92) (v := ?_) (a' := ?_) m20 rfl rfl (take_ofW HT_.out HW_.out (by kernel_rfl)) (fun _ _ _ h => h) (Or.inl ⟨by rfl, ?_⟩) hHeld ?_ ?_
             rotate_left
             ·rintro w' ⟨s0, s1, s2, s3, s4, s5, s6, s7⟩
              go_simp
              with_reducible rfl
             rotate_left
             ·simp only [Act.put, List.setIfInBounds_toArray, List.set_cons_zero, List.set_cons_succ, i64_w, i32_w, IntKind.wrap_u8, IntKind.wrap_u32]
              rfl
             refine pure_ (i := 20) (N := some 93) (v := ?_) (a' := ?_) m21 rfl rfl (any_of HT_.out (by kernel_rfl)) (fun _ _ _ h => h) (Or.inl ⟨by rfl, ?_⟩) ?_ ?_
             rotate_left
             ·intro w'
              go_simp
              with_reducible rfl
             rotate_left
             ·simp only [Act.put, List.setIfInBounds_toArray, List.set_cons_zero, List.set_cons_succ, i64_w, i32_w, IntKind.wrap_u8, IntKind.wrap_u32]
              rfl
             refine pure_ (i := 21) (N := some 94) (v := ?_) (a' := ?_) m22 rfl rfl (any_of HT_.out (by kernel_rfl)) (fun _ _ _ h => h) (Or.inl ⟨by rfl, ?_⟩) ?_ ?_
             rotate_left
             ·intro w'
              go_simp
              with_reducible rfl
             rotate_left
             ·simp only [Act.put, List.setIfInBounds_toArray, List.set_cons_zero, List.set_cons_succ, i64_w, i32_w, IntKind.wrap_u8, IntKind.wrap_u32]
              rfl
             refine pure_ (i := 22) (N := some 95) (v := ?_) (a' := ?_) m23 rfl rfl (any_of HT_.out (by kernel_rfl)) (fun _ _ _ h => h) (Or.inl ⟨by rfl, ?_⟩) ?_ ?_
             rotate_left
             ·intro w'
              go_simp
              with_reducible rfl
             rotate_left
             ·simp only [Act.put, List.setIfInBounds_toArray, List.set_cons_zero, List.set_cons_succ, i64_w, i32_w, IntKind.wrap_u8, IntKind.wrap_u32]
              rfl
             refine pure_ (i := 23) (N := some 96) (v := ?_) (a' := ?_) m24 rfl rfl (any_of HT_.out (by kernel_rfl)) (fun _ _ _ h => h) (Or.inl ⟨by rfl, ?_⟩) ?_ ?_
             rotate_left
             ·intro w'
              go_simp
              with_reducible rfl
             rotate_left
             ·simp only [Act.put, List.setIfInBounds_toArray, List.set_cons_zero, List.set_cons_succ, i64_w, i32_w, IntKind.wrap_u8, IntKind.wrap_u32]
              rfl
             refine pure_ (i := 27) (N := some 100) (v := ?_) (a' := ?_) m25 rfl rfl (any_of HT_.out (by kernel_rfl)) (fun _ _ _ h => h) (Or.inl ⟨by rfl, ?_⟩) ?_ ?_
             rotate_left
             ·intro w'
              go_simp
              with_reducible rfl
             rotate_left
             ·simp only [Act.put, List.setIfInBounds_toArray, List.set_cons_zero, List.set_cons_succ, i64_w, i32_w, IntKind.wrap_u8, IntKind.wrap_u32]
              rfl
             refine pure_ (i := 28) (N := some 101) (v := ?_) (a' := ?_) m26 rfl rfl (any_of HT_.out (by kernel_rfl)) (fun _ _ _ h => h) (Or.inl ⟨by rfl, ?_⟩) ?_ ?_
             rotate_left
             ·intro w'
              go_simp
              with_reducible rfl
             rotate_left
             ·simp only [Act.put, List.setIfInBounds_toArray, List.set_cons_zero, List.set_cons_succ, i64_w, i32_w, IntKind.wrap_u8, IntKind.wrap_u32]
              rfl
             refine pure_ (i := 29) (N := some 102) (v := ?_) (a' := ?_) m27 rfl rfl (any_of HT_.out (by kernel_rfl)) (fun _ _ _ h => h) (Or.inl ⟨by rfl, ?_⟩) ?_ ?_
             rotate_left
             ·intro w'
              go_simp
              with_reducible rfl
             rotate_left
             ·simp only [Act.put, List.setIfInBounds_toArray, List.set_cons_zero, List.set_cons_succ, i64_w, i32_w, IntKind.wrap_u8, IntKind.wrap_u32]
              rfl
             refine pure_ (i := 30) (N := some 103) (v := ?_) (a' := ?_) m28 rfl rfl (any_of HT_.out (by kernel_rfl)) (fun _ _ _ h => h) (Or.inl ⟨by rfl, ?_⟩) ?_ ?_
             rotate_left
             ·intro w'
              go_simp
              with_reducible rfl
             rotate_left
             ·simp only [Act.put, List.setIfInBounds_toArray, List.set_cons_zero, List.set_cons_succ, i64_w, i32_w, IntKind.wrap_u8, IntKind.wrap_u32]
              rfl
             refine pure_ (i := 31) (N := some 104) (v := ?_) (a' := ?_) m29 rfl rfl (any_of HT_.out (by kernel_rfl)) (fun _ _ _ h => h) (Or.inl ⟨by rfl, ?_⟩) ?_ ?_
             rotate_left
             ·intro w'
              go_simp
              with_reducible rfl
             rotate_left
             ·simp only [Act.put, List.setIfInBounds_toArray, List.set_cons_zero, List.set_cons_succ, i64_w, i32_w, IntKind.wrap_u8, IntKind.wrap_u32]
              rfl
             refine pure_ (i := 32) (N := some 105) (v := ?_) (a' := ?_) m30 rfl rfl (any_of HT_.out (by kernel_rfl)) (fun _ _ _ h => h) (Or.inl ⟨by rfl, ?_⟩) ?_ ?_
             rotate_left
             ·intro w'
              go_simp
              with_reducible rfl
             rotate_left
             ·simp only [Act.put, List.setIfInBounds_toArray, List.set_cons_zero, List.set_cons_succ, i64_w, i32_w, IntKind.wrap_u8, IntKind.wrap_u32]
              rfl
             refine pure_ (i := 33) (N := some 106) (v := undef) (a' := ?_) m31 rfl rfl (any_of HT_.out (by kernel_rfl)) (fun _ _ _ h => h) (Or.inr ⟨by rfl, rfl⟩) ?_ ?_
             rotate_left
             ·simp only [Act.put, List.setIfInBounds_toArray, List.set_cons_zero, List.set_cons_succ, i64_w, i32_w, IntKind.wrap_u8, IntKind.wrap_u32]
              rfl
             refine pure_ (i := 34) (N := some 107) (v := undef) (a' := ?_) m55 rfl rfl (any_of HT_.out (by kernel_rfl)) (fun _ _ _ h => h) (Or.inr ⟨by rfl, rfl⟩) ?_ ?_
             rotate_left
             ·simp only [Act.put, List.setIfInBounds_toArray, List.set_cons_zero, List.set_cons_succ, i64_w, i32_w, IntKind.wrap_u8, IntKind.wrap_u32]
              rfl
             refine pure_ (i := 35) (N := some 108) (v := undef) (a' := ?_) m56 rfl rfl (any_of HT_.out (by kernel_rfl)) (fun _ _ _ h => h) (Or.inr ⟨by rfl, rfl⟩) ?_ ?_
             rotate_left
             ·simp only [Act.put, List.setIfInBounds_toArray, List.set_cons_zero, List.set_cons_succ, i64_w, i32_w, IntKind.wrap_u8, IntKind.wrap_u32]
              rfl
             refine pure_ (i := 36) (N := some 109) (v := undef) (a' := ?_) m57 rfl rfl (any_of HT_.out (by kernel_rfl)) (fun _ _ _ h => h) (Or.inr ⟨by rfl, rfl⟩) ?_ ?_
             rotate_left
             ·simp only [Act.put, List.setIfInBounds_toArray, List.set_cons_zero, List.set_cons_succ, i64_w, i32_w, IntKind.wrap_u8, IntKind.wrap_u32]
              rfl
             refine pure_ (i := 37) (N := some 110) (v := undef) (a' := ?_) m58 rfl rfl (any_of HT_.out (by kernel_rfl)) (fun _ _ _ h => h) (Or.inr ⟨by rfl, rfl⟩) ?_ ?_
             rotate_left
             ·simp only [Act.put, List.setIfInBounds_toArray, List.set_cons_zero, List.set_cons_succ, i64_w, i32_w, IntKind.wrap_u8, IntKind.wrap_u32]
              rfl
             refine pure_ (i := 38) (N := some 111) (v := ?_) (a' := ?_) m59 rfl rfl (any_of HT_.out (by kernel_rfl)) (fun _ _ _ h => h) (Or.inl ⟨by rfl, ?_⟩) ?_ ?_
             rotate_left
             ·intro w'
              go_simp
              with_reducible rfl
             rotate_left
             ·simp only [Act.put, List.setIfInBounds_toArray, List.set_cons_zero, List.set_cons_succ, i64_w, i32_w, IntKind.wrap_u8, IntKind.wrap_u32]
              rfl
             refine take_ (i := 24) (N := some 97) (v := ?_) (a' := ?_) m60 rfl rfl (take_ofW HT_.out HW_.out (by kernel_rfl)) (fun _ _ _ h => h) (Or.inl ⟨by rfl, ?_⟩) hHeld ?_ ?_
             rotate_left
             ·rintro w' ⟨s0, s1, s2, s3, s4, s5, s6, s7⟩
              go_simp
              with_reducible rfl
             rotate_left
             ·simp only [Act.put, List.setIfInBounds_toArray, List.set_cons_zero, List.set_cons_succ, i64_w, i32_w, IntKind.wrap_u8, IntKind.wrap_u32]
              rfl
             refine take_ (i := 25) (N := some 98) (v := ?_) (a' := ?_) m61 rfl rfl (take_ofW HT_.out HW_.out (by kernel_rfl)) (fun _ _ _ h => h) (Or.inl ⟨by rfl, ?_⟩) hHeld ?_ ?_
             rotate_left
             ·rintro w' ⟨s0, s1, s2, s3, s4, s5, s6, s7⟩
              go_simp
              with_reducible rfl
             rotate_left
             ·simp only [Act.put, List.setIfInBounds_toArray, List.set_cons_zero, List.set_cons_succ, i64_w, i32_w, IntKind.wrap_u8, IntKind.wrap_u32]
              rfl
             refine pure_ (i := 26) (N := some 99) (v := ?_) (a' := ?_) m39 rfl rfl (any_of HT_.out (by kernel_rfl)) (fun _ _ _ h => h) (Or.inl ⟨by rfl, ?_⟩) ?_ ?_
             rotate_left
             ·intro w'
              go_simp
              with_reducible rfl
             rotate_left
             ·simp only [Act.put, List.setIfInBounds_toArray, List.set_cons_zero, List.set_cons_succ, i64_w, i32_w, IntKind.wrap_u8, IntKind.wrap_u32]
              rfl
             refine pure_ (i := 39) (N := some 112) (v := ?_) (a' := ?_) m40 rfl rfl (any_of HT_.out (by kernel_rfl)) (fun _ _ _ h => h) (Or.inl ⟨by rfl, ?_⟩) ?_ ?_
             rotate_left
             ·intro w'
              go_simp
              with_reducible rfl
             rotate_left
             ·simp only [Act.put, List.setIfInBounds_toArray, List.set_cons_zero, List.set_cons_succ, i64_w, i32_w, IntKind.wrap_u8, IntKind.wrap_u32]
              rfl
             refine pure_ (i := 40) (N := some 113) (v := ?_) (a' := ?_) m41 rfl rfl (any_of HT_.out (by kernel_rfl)) (fun _ _ _ h => h) (Or.inl ⟨by rfl, ?_⟩) ?_ ?_
             rotate_left
             ·intro w'
              go_simp
              with_reducible rfl
             rotate_left
             ·simp only [Act.put, List.setIfInBounds_toArray, List.set_cons_zero, List.set_cons_succ, i64_w, i32_w, IntKind.wrap_u8, IntKind.wrap_u32]
              rfl
             refine pure_ (i := 41) (N := some 114) (v := ?_) (a' := ?_) m42 rfl rfl (any_of HT_.out (by kernel_rfl)) (fun _ _ _ h => h) (Or.inl ⟨by rfl, ?_⟩) ?_ ?_
             rotate_left
             ·intro w'
              go_simp
              with_reducible rfl
             rotate_left
             ·simp only [Act.put, List.setIfInBounds_toArray, List.set_cons_zero, List.set_cons_succ, i64_w, i32_w, IntKind.wrap_u8, IntKind.wrap_u32]
              rfl
             refine take_ (i := 42) (N := some 115) (v := ?_) (a' := ?_) m43 rfl rfl (take_ofW HT_.out HW_.out (by kernel_rfl)) (fun _ _ _ h => h) (Or.inl ⟨by rfl, ?_⟩) hHeld ?_ ?_
             rotate_left
             ·rintro w' ⟨s0, s1, s2, s3, s4, s5, s6, s7⟩
              go_simp
              with_reducible rfl
             rotate_left
             ·simp only [Act.put, List.setIfInBounds_toArray, List.set_cons_zero, List.set_cons_succ, i64_w, i32_w, IntKind.wrap_u8, IntKind.wrap_u32]
              rfl
             refine take_ (i := 43) (N := some 116) (v := ?_) (a' := ?_) m44 rfl rfl (take_ofW HT_.out HW_.out (by kernel_rfl)) (fun _ _ _ h => h) (Or.inl ⟨by rfl, ?_⟩) hHeld ?_ ?_
             rotate_left
             ·rintro w' ⟨s0, s1, s2, s3, s4, s5, s6, s7⟩
              go_simp
              with_reducible rfl
             rotate_left
             ·simp only [Act.put, List.setIfInBounds_toArray, List.set_cons_zero, List.set_cons_succ, i64_w, i32_w, IntKind.wrap_u8, IntKind.wrap_u32]
              rfl
             refine take_ (i := 45) (N := some 118) (v := ?_) (a' := ?_) m45 rfl rfl (take_ofW HT_.out HW_.out (by kernel_rfl)) (fun _ _ _ h => h) (Or.inl ⟨by rfl, ?_⟩) hHeld ?_ ?_
             rotate_left
             ·rintro w' ⟨s0, s1, s2, s3, s4, s5, s6, s7⟩
              go_simp
              with_reducible rfl
             rotate_left
             ·simp only [Act.put, List.setIfInBounds_toArray, List.set_cons_zero, List.set_cons_succ, i64_w, i32_w, IntKind.wrap_u8, IntKind.wrap_u32]
              rfl
             refine take_ (i := 46) (N := some 119) (v := ?_) (a' := ?_) m46 rfl rfl (take_ofW HT_.out HW_.out (by kernel_rfl)) (fun _ _ _ h => h) (Or.inl ⟨by rfl, ?_⟩) hHeld ?_ ?_
             rotate_left
             ·rintro w' ⟨s0, s1, s2, s3, s4, s5, s6, s7⟩
              go_simp
              with_reducible rfl
             rotate_left
             ·simp only [Act.put, List.setIfInBounds_toArray, List.set_cons_zero, List.set_cons_succ, i64_w, i32_w, IntKind.wrap_u8, IntKind.wrap_u32]
              rfl
             refine one_ (i := 44) (N := some 117) m47 rfl rfl (one_of HT_.out (by kernel_rfl)) (by decide) (fun K hK => ?_)
             refine goes_ Tryd.func18 (by kernel_rfl) rfl #[.agg #[.int .u32 ji8, .int .i64 (wrap64 (1 + (wrap64 (Int.tmod a2 7))))], .agg #[.int .u32 ji9, .int .i64 (1 + (((Int.tdiv a2 7) % 256) % 7))]] (by rfl) rfl rfl (by (try simp only [List.map_toArray, List.map_cons, List.map_nil]); first | done | (simp only [hji8, hji9]; rfl) | rfl | (simp only [List.length_drop, List.length_take]; rfl)) ?_
             with_reducible refine (ballot_Order.calls kj44 ji8 (wrap64 (1 + (wrap64 (Int.tmod a2 7)))) ji9 (1 + (((Int.tdiv a2 7) % 256) % 7)) t182 _ A66.out).mono ?_
             rintro e w71 ⟨rfl, hb⟩
             refine ⟨_, rfl, ?_⟩
             have n0_ := aM (kB (g := gb168) (o := .cells #[.int .u32 ji8, .int .i64 (wrap64 (1 + (wrap64 (Int.tmod a2 7))))] 24 (0, 0)) (by (with_reducible repeat (first | refine kN ?_ _ | refine kD ?_ | refine kA ?_ _)); exact BK168.out) hb)
             have n1_ := aM (kB (g := gb169) (o := .cells #[.int .u32 ji9, .int .i64 (1 + (((Int.tdiv a2 7) % 256) % 7))] 24 (0, 0)) (by (with_reducible repeat (first | refine kN ?_ _ | refine kD ?_ | refine kA ?_ _)); exact BK169.out) hb)
             have n2_ := aM (kB (g := gb173) (o := .cells #[.int .u32 t170, .int .i64 t171] 24 (0, 0)) (by (with_reducible repeat (first | refine kN ?_ _ | refine kD ?_ | refine kA ?_ _)); exact BK173.out) hb)
             have n3_ := aM (kB (g := gb177) (o := .cells #[.int .u32 t174, .int .i64 t175] 24 (0, 0)) (by (with_reducible repeat (first | refine kN ?_ _ | refine kD ?_ | refine kA ?_ _)); exact BK177.out) hb)
             have n4_ := aM (below_step (by repeat (first | (with_reducible first | exact HB.out | apply bA | apply bN | apply bD | refine bS ?_ GE168.out | refine bS ?_ GE169.out | refine bS ?_ GE173.out | refine bS ?_ GE177.out) | exact HB.out)) hb)
             clear BK168
             clear BK169
             clear BK173
             clear BK177
             clear HB
             have BK168 := n0_
             have BK169 := n1_
             have BK173 := n2_
             have BK177 := n3_
             have HB := n4_
             clear n0_ n1_ n2_ n3_ n4_
             (try clear hb)
             (try clear hb2)
             (try clear hk)
             (try clear hi)
             refine hK.out _ _ ⟨(kC BK173.out 0).trans rfl, (kC BK173.out 1).trans rfl, (kC BK168.out 0).trans rfl, (kC BK168.out 1).trans rfl, (kC BK177.out 0).trans rfl, (kC BK177.out 1).trans rfl, (kC BK169.out 0).trans rfl, (kC BK169.out 1).trans rfl⟩ (fun hHeld => ?_)
             clear hK K
             refine norm_ (a' := ?_) ?_ ?_
             rotate_left
             ·show Act.put _ (some 117) _ = _
              simp only [Act.put, List.setIfInBounds_toArray, List.set_cons_zero, List.set_cons_succ, i64_w, i32_w, IntKind.wrap_u8, IntKind.wrap_u32]
              rfl
             refine one_ (i := 47) (N := some 120) m48 rfl rfl (one_of HT_.out (by kernel_rfl)) (by decide) (fun K hK => ?_)
             refine goes_ Tryd.func18 (by kernel_rfl) rfl #[.agg #[.int .u32 ji9, .int .i64 (1 + (((Int.tdiv a2 7) % 256) % 7))], .agg #[.int .u32 ji8, .int .i64 (wrap64 (1 + (wrap64 (Int.tmod a2 7))))]] (by rfl) rfl rfl (by (try simp only [List.map_toArray, List.map_cons, List.map_nil]); first | done | (simp only [hji8, hji9]; rfl) | rfl | (simp only [List.length_drop, List.length_take]; rfl)) ?_
             with_reducible refine (ballot_Order.calls kj44 ji9 (1 + (((Int.tdiv a2 7) % 256) % 7)) ji8 (wrap64 (1 + (wrap64 (Int.tmod a2 7)))) t183 _ A67.out).mono ?_
             rintro e w72 ⟨rfl, hb⟩
             refine ⟨_, rfl, ?_⟩
             have n0_ := aM (kB (g := gb168) (o := .cells #[.int .u32 ji8, .int .i64 (wrap64 (1 + (wrap64 (Int.tmod a2 7))))] 24 (0, 0)) (by (with_reducible repeat (first | refine kN ?_ _ | refine kD ?_ | refine kA ?_ _)); exact BK168.out) hb)
             have n1_ := aM (kB (g := gb169) (o := .cells #[.int .u32 ji9, .int .i64 (1 + (((Int.tdiv a2 7) % 256) % 7))] 24 (0, 0)) (by (with_reducible repeat (first | refine kN ?_ _ | refine kD ?_ | refine kA ?_ _)); exact BK169.out) hb)
             have n2_ := aM (kB (g := gb173) (o := .cells #[.int .u32 t170, .int .i64 t171] 24 (0, 0)) (by (with_reducible repeat (first | refine kN ?_ _ | refine kD ?_ | refine kA ?_ _)); exact BK173.out) hb)
             have n3_ := aM (kB (g := gb177) (o := .cells #[.int .u32 t174, .int .i64 t175] 24 (0, 0)) (by (with_reducible repeat (first | refine kN ?_ _ | refine kD ?_ | refine kA ?_ _)); exact BK177.out) hb)
             have n4_ := aM (below_step (by repeat (first | (with_reducible first | exact HB.out | apply bA | apply bN | apply bD | refine bS ?_ GE168.out | refine bS ?_ GE169.out | refine bS ?_ GE173.out | refine bS ?_ GE177.out) | exact HB.out)) hb)
             clear BK168
             clear BK169
             clear BK173
             clear BK177
             clear HB
             have BK168 := n0_
             have BK169 := n1_
             have BK173 := n2_
             have BK177 := n3_
             have HB := n4_
             clear n0_ n1_ n2_ n3_ n4_
             (try clear hb)
             (try clear hb2)
             (try clear hk)
             (try clear hi)
             refine hK.out _ _ ⟨(kC BK173.out 0).trans rfl, (kC BK173.out 1).trans rfl, (kC BK168.out 0).trans rfl, (kC BK168.out 1).trans rfl, (kC BK177.out 0).trans rfl, (kC BK177.out 1).trans rfl, (kC BK169.out 0).trans rfl, (kC BK169.out 1).trans rfl⟩ (fun hHeld => ?_)
             clear hK K
             refine norm_ (a' := ?_) ?_ ?_
             rotate_left
             ·show Act.put _ (some 120) _ = _
              simp only [Act.put, List.setIfInBounds_toArray, List.set_cons_zero, List.set_cons_succ, i64_w, i32_w, IntKind.wrap_u8, IntKind.wrap_u32]
              rfl
             refine pure_ (i := 48) (N := some 121) (v := ?_) (a' := ?_) m49 rfl rfl (any_of HT_.out (by kernel_rfl)) (fun _ _ _ h => h) (Or.inl ⟨by rfl, ?_⟩) ?_ ?_
             rotate_left
             ·intro w'
              go_simp
              with_reducible rfl
             rotate_left
             ·simp only [Act.put, List.setIfInBounds_toArray, List.set_cons_zero, List.set_cons_succ, i64_w, i32_w, IntKind.wrap_u8, IntKind.wrap_u32]
              rfl
             refine pure_ (i := 49) (N := some 122) (v := ?_) (a' := ?_) m50 rfl rfl (any_of HT_.out (by kernel_rfl)) (fun _ _ _ h => h) (Or.inl ⟨by rfl, ?_⟩) ?_ ?_
             rotate_left
             ·intro w'
              go_simp
              with_reducible rfl
             rotate_left
             ·simp only [Act.put, List.setIfInBounds_toArray, List.set_cons_zero, List.set_cons_succ, i64_w, i32_w, IntKind.wrap_u8, IntKind.wrap_u32]
              rfl
             refine pure_ (i := 50) (N := some 123) (v := ?_) (a' := ?_) m51 rfl rfl (any_of HT_.out (by kernel_rfl)) (fun _ _ _ h => h) (Or.inl ⟨by rfl, ?_⟩) ?_ ?_
             rotate_left
             ·intro w'
              go_simp
              with_reducible rfl
             rotate_left
             ·simp only [Act.put, List.setIfInBounds_toArray, List.set_cons_zero, List.set_cons_succ, i64_w, i32_w, IntKind.wrap_u8, IntKind.wrap_u32]
              rfl
             refine pure_ (i := 51) (N := some 10) (v := ?_) (a' := ?_) m52 rfl rfl (any_of HT_.out (by kernel_rfl)) (fun _ _ _ h => h) (Or.inl ⟨by rfl, ?_⟩) ?_ ?_
             rotate_left
             ·intro w'
              go_simp
              with_reducible rfl
             rotate_left
             ·simp only [Act.put, List.setIfInBounds_toArray, List.set_cons_zero, List.set_cons_succ, i64_w, i32_w, IntKind.wrap_u8, IntKind.wrap_u32]
              rfl
             refine done_ (done_of HT_.out (by kernel_rfl)) ?_
             try go_wp2
             go_ret
             exact ⟨by first | rfl | (simp [errW_none, errW_some] <;> rfl) | (simp only [← hji8, ← hji9]; first | rfl | (simp [errW_none, errW_some] <;> rfl)) | (simp [*, errW_none, errW_some] <;> rfl), by repeat (first | (with_reducible first | exact HB.out | apply bA | apply bN | apply bD | refine bS ?_ GE168.out | refine bS ?_ GE169.out | refine bS ?_ GE173.out | refine bS ?_ GE177.out) | exact HB.out)⟩
            ·exfalso
             revert c64b0 c65
             generalize (t170 == t174) = p_
             generalize (t171 == t175) = q_
             cases p_ <;> cases q_ <;> decide
           ·rw [if_neg c64] at H
            have c64b0 : (!(t170 == t174) || (!(t171 == t175))) = false := by simpa using c64
            clear c64
            obtain rfl := Option.some.inj H
            try go_wp2
            have n0_ := aM (kD BK168.out)
            have n1_ := aM (kD BK169.out)
            have n2_ := aM (kD BK173.out)
            have n3_ := aM (kD BK177.out)
            have n4_ := aM (bD HB.out)
            clear BK168
            clear BK169
            clear BK173
            clear BK177
            clear HB
            have BK168 := n0_
            have BK169 := n1_
            have BK173 := n2_
            have BK177 := n3_
            have HB := n4_
            clear n0_ n1_ n2_ n3_ n4_
            refine start_ (n := 52) (S := fun w' => w'.cell? ⟨gb173, 0, none⟩ = some (.int .u32 t170) ∧ w'.cell? ⟨gb173, 1, none⟩ = some (.int .i64 t171) ∧ w'.cell? ⟨gb168, 0, none⟩ = some (.int .u32 ji8) ∧ w'.cell? ⟨gb168, 1, none⟩ = some (.int .i64 (wrap64 (1 + (wrap64 (Int.tmod a2 7))))) ∧ w'.cell? ⟨gb177, 0, none⟩ = some (.int .u32 t174) ∧ w'.cell? ⟨gb177, 1, none⟩ = some (.int .i64 t175)) (ds := []) m0 (by kernel_rfl) rfl rfl ⟨(kC BK173.out 0).trans rfl, (kC BK173.out 1).trans rfl, (kC BK168.out 0).trans rfl, (kC BK168.out 1).trans rfl, (kC BK177.out 0).trans rfl, (kC BK177.out 1).trans rfl⟩ (fun hHeld => ?_); refine with_tabW comitialaw06_BallotNext.tab12 comitialaw06_BallotNext.bits12 (fun HT_ HW_ => ?_)
            generalize wc.drew = w76 at BK168 BK169 BK173 BK177 HB hHeld ⊢
            refine pure_ (i := 0) (N := some 73) (v := ?_) (a' := ?_) m1 rfl rfl (any_of HT_.out (by kernel_rfl)) (fun _ _ _ h => h) (Or.inl ⟨by rfl, ?_⟩) ?_ ?_
            rotate_left
            ·intro w'
             go_simp
             with_reducible rfl
            rotate_left
            ·simp only [Act.put, List.setIfInBounds_toArray, List.set_cons_zero, List.set_cons_succ, i64_w, i32_w, IntKind.wrap_u8, IntKind.wrap_u32]
             rfl
            refine pure_ (i := 1) (N := some 74) (v := ?_) (a' := ?_) m2 rfl rfl (any_of HT_.out (by kernel_rfl)) (fun _ _ _ h => h) (Or.inl ⟨by rfl, ?_⟩) ?_ ?_
            rotate_left
            ·intro w'
             go_simp
             with_reducible rfl
            rotate_left
            ·simp only [Act.put, List.setIfInBounds_toArray, List.set_cons_zero, List.set_cons_succ, i64_w, i32_w, IntKind.wrap_u8, IntKind.wrap_u32]
             rfl
            refine take_ (i := 2) (N := some 75) (v := ?_) (a' := ?_) m3 rfl rfl (take_ofW HT_.out HW_.out (by kernel_rfl)) (fun _ _ _ h => h) (Or.inl ⟨by rfl, ?_⟩) hHeld ?_ ?_
            rotate_left
            ·rintro w' ⟨s0, s1, s2, s3, s4, s5⟩
             go_simp
             with_reducible rfl
            rotate_left
            ·simp only [Act.put, List.setIfInBounds_toArray, List.set_cons_zero, List.set_cons_succ, i64_w, i32_w, IntKind.wrap_u8, IntKind.wrap_u32]
             rfl
            refine take_ (i := 3) (N := some 76) (v := ?_) (a' := ?_) m4 rfl rfl (take_ofW HT_.out HW_.out (by kernel_rfl)) (fun _ _ _ h => h) (Or.inl ⟨by rfl, ?_⟩) hHeld ?_ ?_
            rotate_left
            ·rintro w' ⟨s0, s1, s2, s3, s4, s5⟩
             go_simp
             with_reducible rfl
            rotate_left
            ·simp only [Act.put, List.setIfInBounds_toArray, List.set_cons_zero, List.set_cons_succ, i64_w, i32_w, IntKind.wrap_u8, IntKind.wrap_u32]
             rfl
            refine one_ (i := 4) (N := some 77) m5 rfl rfl (one_of HT_.out (by kernel_rfl)) (by decide) (fun K hK => ?_)
            refine goes_ Tryd.func18 (by kernel_rfl) rfl #[.agg #[.int .u32 t170, .int .i64 t171], .agg #[.int .u32 ji8, .int .i64 (wrap64 (1 + (wrap64 (Int.tmod a2 7))))]] (by rfl) rfl rfl (by (try simp only [List.map_toArray, List.map_cons, List.map_nil]); first | done | (simp only [hji8]; rfl) | rfl | (simp only [List.length_drop, List.length_take]; rfl)) ?_
            with_reducible refine (ballot_Order.calls kj44 t170 t171 ji8 (wrap64 (1 + (wrap64 (Int.tmod a2 7)))) t178 _ A48.out).mono ?_
            rintro e w77 ⟨rfl, hb⟩
            refine ⟨_, rfl, ?_⟩
            have n0_ := aM (kB (g := gb168) (o := .cells #[.int .u32 ji8, .int .i64 (wrap64 (1 + (wrap64 (Int.tmod a2 7))))] 24 (0, 0)) (by (with_reducible repeat (first | refine kN ?_ _ | refine kD ?_ | refine kA ?_ _)); exact BK168.out) hb)
            have n1_ := aM (kB (g := gb169) (o := .cells #[.int .u32 ji9, .int .i64 (1 + (((Int.tdiv a2 7) % 256) % 7))] 24 (0, 0)) (by (with_reducible repeat (first | refine kN ?_ _ | refine kD ?_ | refine kA ?_ _)); exact BK169.out) hb)
            have n2_ := aM (kB (g := gb173) (o := .cells #[.int .u32 t170, .int .i64 t171] 24 (0, 0)) (by (with_reducible repeat (first | refine kN ?_ _ | refine kD ?_ | refine kA ?_ _)); exact BK173.out) hb)
            have n3_ := aM (kB (g := gb177) (o := .cells #[.int .u32 t174, .int .i64 t175] 24 (0, 0)) (by (with_reducible repeat (first | refine kN ?_ _ | refine kD ?_ | refine kA ?_ _)); exact BK177.out) hb)
            have n4_ := aM (below_step (by repeat (first | (with_reducible first | exact HB.out | apply bA | apply bN | apply bD | refine bS ?_ GE168.out | refine bS ?_ GE169.out | refine bS ?_ GE173.out | refine bS ?_ GE177.out) | exact HB.out)) hb)
            clear BK168
            clear BK169
            clear BK173
            clear BK177
            clear HB
            have BK168 := n0_
            have BK169 := n1_
            have BK173 := n2_
            have BK177 := n3_
            have HB := n4_
            clear n0_ n1_ n2_ n3_ n4_
            (try clear hb)
            (try clear hb2)
            (try clear hk)
            (try clear hi)
            refine hK.out _ _ ⟨(kC BK173.out 0).trans rfl, (kC BK173.out 1).trans rfl, (kC BK168.out 0).trans rfl, (kC BK168.out 1).trans rfl, (kC BK177.out 0).trans rfl, (kC BK177.out 1).trans rfl⟩ (fun hHeld => ?_)
            clear hK K
            refine norm_ (a' := ?_) ?_ ?_
            rotate_left
            ·show Act.put _ (some 77) _ = _
             simp only [Act.put, List.setIfInBounds_toArray, List.set_cons_zero, List.set_cons_succ, i64_w, i32_w, IntKind.wrap_u8, IntKind.wrap_u32]
             rfl
            refine pure_ (i := 5) (N := some 78) (v := ?_) (a' := ?_) m6 rfl rfl (any_of HT_.out (by kernel_rfl)) (fun _ _ _ h => h) (Or.inl ⟨by rfl, ?_⟩) ?_ ?_
            rotate_left
            ·intro w'
             go_simp
             with_reducible rfl
            rotate_left
            ·simp only [Act.put, List.setIfInBounds_toArray, List.set_cons_zero, List.set_cons_succ, i64_w, i32_w, IntKind.wrap_u8, IntKind.wrap_u32]
             rfl
            refine pure_ (i := 6) (N := some 79) (v := ?_) (a' := ?_) m7 rfl rfl (any_of HT_.out (by kernel_rfl)) (fun _ _ _ h => h) (Or.inl ⟨by rfl, ?_⟩) ?_ ?_
            rotate_left
            ·intro w'
             go_simp
             with_reducible rfl
            rotate_left
            ·simp only [Act.put, List.setIfInBounds_toArray, List.set_cons_zero, List.set_cons_succ, i64_w, i32_w, IntKind.wrap_u8, IntKind.wrap_u32]
             rfl
            refine pure_ (i := 7) (N := some 80) (v := ?_) (a' := ?_) m8 rfl rfl (any_of HT_.out (by kernel_rfl)) (fun _ _ _ h => h) (Or.inl ⟨by rfl, ?_⟩) ?_ ?_
            rotate_left
            ·intro w'
             go_simp
             with_reducible rfl
            rotate_left
            ·simp only [Act.put, List.setIfInBounds_toArray, List.set_cons_zero, List.set_cons_succ, i64_w, i32_w, IntKind.wrap_u8, IntKind.wrap_u32]
             rfl
            refine take_ (i := 8) (N := some 81) (v := ?_) (a' := ?_) m9 rfl rfl (take_ofW HT_.out HW_.out (by kernel_rfl)) (fun _ _ _ h => h) (Or.inl ⟨by rfl, ?_⟩) hHeld ?_ ?_
            rotate_left
            ·rintro w' ⟨s0, s1, s2, s3, s4, s5⟩
             go_simp
             with_reducible rfl
            rotate_left
            ·simp only [Act.put, List.setIfInBounds_toArray, List.set_cons_zero, List.set_cons_succ, i64_w, i32_w, IntKind.wrap_u8, IntKind.wrap_u32]
             rfl
            refine one_ (i := 9) (N := some 82) m10 rfl rfl (one_of HT_.out (by kernel_rfl)) (by decide) (fun K hK => ?_)
            refine goes_ Tryd.func15 (by kernel_rfl) rfl #[.agg #[.int .u32 t170, .int .i64 t171]] (by rfl) rfl rfl (by (try simp only [List.map_toArray, List.map_cons, List.map_nil]); first | done | rfl | (simp only [List.length_drop, List.length_take]; rfl)) ?_
            with_reducible refine (ballot_Right.calls t170 t171 true _ A50.out).mono ?_
            rintro e w78 ⟨rfl, hb⟩
            refine ⟨_, rfl, ?_⟩
            have n0_ := aM (kB (g := gb168) (o := .cells #[.int .u32 ji8, .int .i64 (wrap64 (1 + (wrap64 (Int.tmod a2 7))))] 24 (0, 0)) (by (with_reducible repeat (first | refine kN ?_ _ | refine kD ?_ | refine kA ?_ _)); exact BK168.out) hb)
            have n1_ := aM (kB (g := gb169) (o := .cells #[.int .u32 ji9, .int .i64 (1 + (((Int.tdiv a2 7) % 256) % 7))] 24 (0, 0)) (by (with_reducible repeat (first | refine kN ?_ _ | refine kD ?_ | refine kA ?_ _)); exact BK169.out) hb)
            have n2_ := aM (kB (g := gb173) (o := .cells #[.int .u32 t170, .int .i64 t171] 24 (0, 0)) (by (with_reducible repeat (first | refine kN ?_ _ | refine kD ?_ | refine kA ?_ _)); exact BK173.out) hb)
            have n3_ := aM (kB (g := gb177) (o := .cells #[.int .u32 t174, .int .i64 t175] 24 (0, 0)) (by (with_reducible repeat (first | refine kN ?_ _ | refine kD ?_ | refine kA ?_ _)); exact BK177.out) hb)
            have n4_ := aM (below_step (by repeat (first | (with_reducible first | exact HB.out | apply bA | apply bN | apply bD | refine bS ?_ GE168.out | refine bS ?_ GE169.out | refine bS ?_ GE173.out | refine bS ?_ GE177.out) | exact HB.out)) hb)
            clear BK168
            clear BK169
            clear BK173
            clear BK177
            clear HB
            have BK168 := n0_
            have BK169 := n1_
            have BK173 := n2_
            have BK177 := n3_
            have HB := n4_
            clear n0_ n1_ n2_ n3_ n4_
            (try clear hb)
            (try clear hb2)
            (try clear hk)
            (try clear hi)
            refine hK.out _ _ ⟨(kC BK173.out 0).trans rfl, (kC BK173.out 1).trans rfl, (kC BK168.out 0).trans rfl, (kC BK168.out 1).trans rfl, (kC BK177.out 0).trans rfl, (kC BK177.out 1).trans rfl⟩ (fun hHeld => ?_)
            clear hK K
            refine norm_ (a' := ?_) ?_ ?_
            rotate_left
            ·show Act.put _ (some 82) _ = _
             simp only [Act.put, List.setIfInBounds_toArray, List.set_cons_zero, List.set_cons_succ, i64_w, i32_w, IntKind.wrap_u8, IntKind.wrap_u32]
             rfl
            refine pure_ (i := 10) (N := some 83) (v := ?_) (a' := ?_) m11 rfl rfl (any_of HT_.out (by kernel_rfl)) (fun _ _ _ h => h) (Or.inl ⟨by rfl, ?_⟩) ?_ ?_
            rotate_left
            ·intro w'
             go_simp
             with_reducible rfl
            rotate_left
            ·simp only [Act.put, List.setIfInBounds_toArray, List.set_cons_zero, List.set_cons_succ, i64_w, i32_w, IntKind.wrap_u8, IntKind.wrap_u32]
             rfl
            refine pure_ (i := 11) (N := some 84) (v := ?_) (a' := ?_) m12 rfl rfl (any_of HT_.out (by kernel_rfl)) (fun _ _ _ h => h) (Or.inl ⟨by rfl, ?_⟩) ?_ ?_
            rotate_left
            ·intro w'
             go_simp
             with_reducible rfl
            rotate_left
            ·simp only [Act.put, List.setIfInBounds_toArray, List.set_cons_zero, List.set_cons_succ, i64_w, i32_w, IntKind.wrap_u8, IntKind.wrap_u32]
             rfl
            refine pure_ (i := 12) (N := some 85) (v := ?_) (a' := ?_) m13 rfl rfl (any_of HT_.out (by kernel_rfl)) (fun _ _ _ h => h) (Or.inl ⟨by rfl, ?_⟩) ?_ ?_
            rotate_left
            ·intro w'
             go_simp
             with_reducible rfl
            rotate_left
            ·simp only [Act.put, List.setIfInBounds_toArray, List.set_cons_zero, List.set_cons_succ, i64_w, i32_w, IntKind.wrap_u8, IntKind.wrap_u32]
             rfl
            refine pure_ (i := 13) (N := some 86) (v := ?_) (a' := ?_) m14 rfl rfl (any_of HT_.out (by kernel_rfl)) (fun _ _ _ h => h) (Or.inl ⟨by rfl, ?_⟩) ?_ ?_
            rotate_left
            ·intro w'
             go_simp
             with_reducible rfl
            rotate_left
            ·simp only [Act.put, List.setIfInBounds_toArray, List.set_cons_zero, List.set_cons_succ, i64_w, i32_w, IntKind.wrap_u8, IntKind.wrap_u32]
             rfl
            refine pure_ (i := 14) (N := some 87) (v := ?_) (a' := ?_) m15 rfl rfl (any_of HT_.out (by kernel_rfl)) (fun _ _ _ h => h) (Or.inl ⟨by rfl, ?_⟩) ?_ ?_
            rotate_left
            ·intro w'
             go_simp
             with_reducible rfl
            rotate_left
            ·simp only [Act.put, List.setIfInBounds_toArray, List.set_cons_zero, List.set_cons_succ, i64_w, i32_w, IntKind.wrap_u8, IntKind.wrap_u32]
             rfl
            refine pure_ (i := 15) (N := some 88) (v := ?_) (a' := ?_) m16 rfl rfl (any_of HT_.out (by kernel_rfl)) (fun _ _ _ h => h) (Or.inl ⟨by rfl, ?_⟩) ?_ ?_
            rotate_left
            ·intro w'
             go_simp
             with_reducible rfl
            rotate_left
            ·simp only [Act.put, List.setIfInBounds_toArray, List.set_cons_zero, List.set_cons_succ, i64_w, i32_w, IntKind.wrap_u8, IntKind.wrap_u32]
             rfl
            refine pure_ (i := 16) (N := some 89) (v := ?_) (a' := ?_) m17 rfl rfl (any_of HT_.out (by kernel_rfl)) (fun _ _ _ h => h) (Or.inl ⟨by rfl, ?_⟩) ?_ ?_
            rotate_left
            ·intro w'
             go_simp
             with_reducible rfl
            rotate_left
            ·simp only [Act.put, List.setIfInBounds_toArray, List.set_cons_zero, List.set_cons_succ, i64_w, i32_w, IntKind.wrap_u8, IntKind.wrap_u32]
             rfl
            refine pure_ (i := 17) (N := some 90) (v := ?_) (a' := ?_) m18 rfl rfl (any_of HT_.out (by kernel_rfl)) (fun _ _ _ h => h) (Or.inl ⟨by rfl, ?_⟩) ?_ ?_
            rotate_left
            ·intro w'
             go_simp
             with_reducible rfl
            rotate_left
            ·simp only [Act.put, List.setIfInBounds_toArray, List.set_cons_zero, List.set_cons_succ, i64_w, i32_w, IntKind.wrap_u8, IntKind.wrap_u32]
             rfl
            refine take_ (i := 18) (N := some 91) (v := ?_) (a' := ?_) m19 rfl rfl (take_ofW HT_.out HW_.out (by kernel_rfl)) (fun _ _ _ h => h) (Or.inl ⟨by rfl, ?_⟩) hHeld ?_ ?_
            rotate_left
            ·rintro w' ⟨s0, s1, s2, s3, s4, s5⟩
             go_simp
             with_reducible rfl
            rotate_left
            ·simp only [Act.put, List.setIfInBounds_toArray, List.set_cons_zero, List.set_cons_succ, i64_w, i32_w, IntKind.wrap_u8, IntKind.wrap_u32]
             rfl
            refine take_ (i := 19) (N := some 92) (v := ?_) (a' := ?_) m20 rfl rfl (take_ofW HT_.out HW_.out (by kernel_rfl)) (fun _ _ _ h => h) (Or.inl ⟨by rfl, ?_⟩) hHeld ?_ ?_
            rotate_left
            ·rintro w' ⟨s0, s1, s2, s3, s4, s5⟩
             go_simp
             with_reducible rfl
            rotate_left
            ·simp only [Act.put, List.setIfInBounds_toArray, List.set_cons_zero, List.set_cons_succ, i64_w, i32_w, IntKind.wrap_u8, IntKind.wrap_u32]
             rfl
            refine pure_ (i := 20) (N := some 93) (v := ?_) (a' := ?_) m21 rfl rfl (any_of HT_.out (by kernel_rfl)) (fun _ _ _ h => h) (Or.inl ⟨by rfl, ?_⟩) ?_ ?_
            rotate_left
            ·intro w'
             go_simp
             with_reducible rfl
            rotate_left
            ·simp only [Act.put, List.setIfInBounds_toArray, List.set_cons_zero, List.set_cons_succ, i64_w, i32_w, IntKind.wrap_u8, IntKind.wrap_u32]
             rfl
            refine pure_ (i := 21) (N := some 94) (v := ?_) (a' := ?_) m22 rfl rfl (any_of HT_.out (by kernel_rfl)) (fun _ _ _ h => h) (Or.inl ⟨by rfl, ?_⟩) ?_ ?_
            rotate_left
            ·intro w'
             go_simp
             with_reducible rfl
            rotate_left
            ·simp only [Act.put, List.setIfInBounds_toArray, List.set_cons_zero, List.set_cons_succ, i64_w, i32_w, IntKind.wrap_u8, IntKind.wrap_u32]
             rfl
            refine pure_ (i := 22) (N := some 95) (v := ?_) (a' := ?_) m23 rfl rfl (any_of HT_.out (by kernel_rfl)) (fun _ _ _ h => h) (Or.inl ⟨by rfl, ?_⟩) ?_ ?_
            rotate_left
            ·intro w'
             go_simp
             with_reducible rfl
            rotate_left
            ·simp only [Act.put, List.setIfInBounds_toArray, List.set_cons_zero, List.set_cons_succ, i64_w, i32_w, IntKind.wrap_u8, IntKind.wrap_u32]
             rfl
            refine pure_ (i := 23) (N := some 96) (v := ?_) (a' := ?_) m24 rfl rfl (any_of HT_.out (by kernel_rfl)) (fun _ _ _ h => h) (Or.inl ⟨by rfl, ?_⟩) ?_ ?_
            rotate_left
            ·intro w'
             go_simp
             with_reducible rfl
            rotate_left
            ·simp only [Act.put, List.setIfInBounds_toArray, List.set_cons_zero, List.set_cons_succ, i64_w, i32_w, IntKind.wrap_u8, IntKind.wrap_u32]
             rfl
            refine pure_ (i := 24) (N := some 97) (v := undef) (a' := ?_) m62 rfl rfl (any_of HT_.out (by kernel_rfl)) (fun _ _ _ h => h) (Or.inr ⟨by rfl, rfl⟩) ?_ ?_
            rotate_left
            ·simp only [Act.put, List.setIfInBounds_toArray, List.set_cons_zero, List.set_cons_succ, i64_w, i32_w, IntKind.wrap_u8, IntKind.wrap_u32]
             rfl
            refine pure_ (i := 25) (N := some 98) (v := undef) (a' := ?_) m63 rfl rfl (any_of HT_.out (by kernel_rfl)) (fun _ _ _ h => h) (Or.inr ⟨by rfl, rfl⟩) ?_ ?_
            rotate_left
            ·simp only [Act.put, List.setIfInBounds_toArray, List.set_cons_zero, List.set_cons_succ, i64_w, i32_w, IntKind.wrap_u8, IntKind.wrap_u32]
             rfl
            refine pure_ (i := 26) (N := some 99) (v := undef) (a' := ?_) m64 rfl rfl (any_of HT_.out (by kernel_rfl)) (fun _ _ _ h => h) (Or.inr ⟨by rfl, rfl⟩) ?_ ?_
            rotate_left
            ·simp only [Act.put, List.setIfInBounds_toArray, List.set_cons_zero, List.set_cons_succ, i64_w, i32_w, IntKind.wrap_u8, IntKind.wrap_u32]
             rfl
            refine pure_ (i := 27) (N := some 100) (v := undef) (a' := ?_) m65 rfl rfl (any_of HT_.out (by kernel_rfl)) (fun _ _ _ h => h) (Or.inr ⟨by rfl, rfl⟩) ?_ ?_
            rotate_left
            ·simp only [Act.put, List.setIfInBounds_toArray, List.set_cons_zero, List.set_cons_succ, i64_w, i32_w, IntKind.wrap_u8, IntKind.wrap_u32]
             rfl
            refine pure_ (i := 28) (N := some 101) (v := undef) (a' := ?_) m66 rfl rfl (any_of HT_.out (by kernel_rfl)) (fun _ _ _ h => h) (Or.inr ⟨by rfl, rfl⟩) ?_ ?_
            rotate_left
            ·simp only [Act.put, List.setIfInBounds_toArray, List.set_cons_zero, List.set_cons_succ, i64_w, i32_w, IntKind.wrap_u8, IntKind.wrap_u32]
             rfl
            refine pure_ (i := 29) (N := some 102) (v := undef) (a' := ?_) m67 rfl rfl (any_of HT_.out (by kernel_rfl)) (fun _ _ _ h => h) (Or.inr ⟨by rfl, rfl⟩) ?_ ?_
            rotate_left
            ·simp only [Act.put, List.setIfInBounds_toArray, List.set_cons_zero, List.set_cons_succ, i64_w, i32_w, IntKind.wrap_u8, IntKind.wrap_u32]
             rfl
            refine pure_ (i := 30) (N := some 103) (v := undef) (a' := ?_) m68 rfl rfl (any_of HT_.out (by kernel_rfl)) (fun _ _ _ h => h) (Or.inr ⟨by rfl, rfl⟩) ?_ ?_
            rotate_left
            ·simp only [Act.put, List.setIfInBounds_toArray, List.set_cons_zero, List.set_cons_succ, i64_w, i32_w, IntKind.wrap_u8, IntKind.wrap_u32]
             rfl
            refine pure_ (i := 31) (N := some 104) (v := undef) (a' := ?_) m69 rfl rfl (any_of HT_.out (by kernel_rfl)) (fun _ _ _ h => h) (Or.inr ⟨by rfl, rfl⟩) ?_ ?_
            rotate_left
            ·simp only [Act.put, List.setIfInBounds_toArray, List.set_cons_zero, List.set_cons_succ, i64_w, i32_w, IntKind.wrap_u8, IntKind.wrap_u32]
             rfl
            refine pure_ (i := 32) (N := some 105) (v := undef) (a' := ?_) m70 rfl rfl (any_of HT_.out (by kernel_rfl)) (fun _ _ _ h => h) (Or.inr ⟨by rfl, rfl⟩) ?_ ?_
            rotate_left
            ·simp only [Act.put, List.setIfInBounds_toArray, List.set_cons_zero, List.set_cons_succ, i64_w, i32_w, IntKind.wrap_u8, IntKind.wrap_u32]
             rfl
            refine pure_ (i := 33) (N := some 106) (v := undef) (a' := ?_) m71 rfl rfl (any_of HT_.out (by kernel_rfl)) (fun _ _ _ h => h) (Or.inr ⟨by rfl, rfl⟩) ?_ ?_
            rotate_left
            ·simp only [Act.put, List.setIfInBounds_toArray, List.set_cons_zero, List.set_cons_succ, i64_w, i32_w, IntKind.wrap_u8, IntKind.wrap_u32]
             rfl
            refine pure_ (i := 34) (N := some 107) (v := undef) (a' := ?_) m72 rfl rfl (any_of HT_.out (by kernel_rfl)) (fun _ _ _ h => h) (Or.inr ⟨by rfl, rfl⟩) ?_ ?_
            rotate_left
            ·simp only [Act.put, List.setIfInBounds_toArray, List.set_cons_zero, List.set_cons_succ, i64_w, i32_w, IntKind.wrap_u8, IntKind.wrap_u32]
             rfl
            refine pure_ (i := 35) (N := some 108) (v := undef) (a' := ?_) m36 rfl rfl (any_of HT_.out (by kernel_rfl)) (fun _ _ _ h => h) (Or.inr ⟨by rfl, rfl⟩) ?_ ?_
            rotate_left
            ·simp only [Act.put, List.setIfInBounds_toArray, List.set_cons_zero, List.set_cons_succ, i64_w, i32_w, IntKind.wrap_u8, IntKind.wrap_u32]
             rfl
            refine pure_ (i := 36) (N := some 109) (v := undef) (a' := ?_) m37 rfl rfl (any_of HT_.out (by kernel_rfl)) (fun _ _ _ h => h) (Or.inr ⟨by rfl, rfl⟩) ?_ ?_
            rotate_left
            ·simp only [Act.put, List.setIfInBounds_toArray, List.set_cons_zero, List.set_cons_succ, i64_w, i32_w, IntKind.wrap_u8, IntKind.wrap_u32]
             rfl
            refine pure_ (i := 37) (N := some 110) (v := undef) (a' := ?_) m38 rfl rfl (any_of HT_.out (by kernel_rfl)) (fun _ _ _ h => h) (Or.inr ⟨by rfl, rfl⟩) ?_ ?_
            rotate_left
            ·simp only [Act.put, List.setIfInBounds_toArray, List.set_cons_zero, List.set_cons_succ, i64_w, i32_w, IntKind.wrap_u8, IntKind.wrap_u32]
             rfl
            refine pure_ (i := 38) (N := some 111) (v := undef) (a' := ?_) m39 rfl rfl (any_of HT_.out (by kernel_rfl)) (fun _ _ _ h => h) (Or.inr ⟨by rfl, rfl⟩) ?_ ?_
            rotate_left
            ·simp only [Act.put, List.setIfInBounds_toArray, List.set_cons_zero, List.set_cons_succ, i64_w, i32_w, IntKind.wrap_u8, IntKind.wrap_u32]
             rfl
            refine pure_ (i := 39) (N := some 112) (v := undef) (a' := ?_) m40 rfl rfl (any_of HT_.out (by kernel_rfl)) (fun _ _ _ h => h) (Or.inr ⟨by rfl, rfl⟩) ?_ ?_
            rotate_left
            ·simp only [Act.put, List.setIfInBounds_toArray, List.set_cons_zero, List.set_cons_succ, i64_w, i32_w, IntKind.wrap_u8, IntKind.wrap_u32]
             rfl
            refine pure_ (i := 40) (N := some 113) (v := ?_) (a' := ?_) m41 rfl rfl (any_of HT_.out (by kernel_rfl)) (fun _ _ _ h => h) (Or.inl ⟨by rfl, ?_⟩) ?_ ?_
            rotate_left
            ·intro w'
             go_simp
             with_reducible rfl
            rotate_left
            ·simp only [Act.put, List.setIfInBounds_toArray, List.set_cons_zero, List.set_cons_succ, i64_w, i32_w, IntKind.wrap_u8, IntKind.wrap_u32]
             rfl
            refine pure_ (i := 41) (N := some 114) (v := ?_) (a' := ?_) m42 rfl rfl (any_of HT_.out (by kernel_rfl)) (fun _ _ _ h => h) (Or.inl ⟨by rfl, ?_⟩) ?_ ?_
            rotate_left
            ·intro w'
             go_simp
             with_reducible rfl
            rotate_left
            ·simp only [Act.put, List.setIfInBounds_toArray, List.set_cons_zero, List.set_cons_succ, i64_w, i32_w, IntKind.wrap_u8, IntKind.wrap_u32]
             rfl
            refine pure_ (i := 42) (N := some 115) (v := undef) (a' := ?_) m43 rfl rfl (any_of HT_.out (by kernel_rfl)) (fun _ _ _ h => h) (Or.inr ⟨by rfl, rfl⟩) ?_ ?_
            rotate_left
            ·simp only [Act.put, List.setIfInBounds_toArray, List.set_cons_zero, List.set_cons_succ, i64_w, i32_w, IntKind.wrap_u8, IntKind.wrap_u32]
             rfl
            refine pure_ (i := 43) (N := some 116) (v := undef) (a' := ?_) m44 rfl rfl (any_of HT_.out (by kernel_rfl)) (fun _ _ _ h => h) (Or.inr ⟨by rfl, rfl⟩) ?_ ?_
            rotate_left
            ·simp only [Act.put, List.setIfInBounds_toArray, List.set_cons_zero, List.set_cons_succ, i64_w, i32_w, IntKind.wrap_u8, IntKind.wrap_u32]
             rfl
            refine pure_ (i := 44) (N := some 117) (v := undef) (a' := ?_) m53 rfl rfl (any_of HT_.out (by kernel_rfl)) (fun _ _ _ h => h) (Or.inr ⟨by rfl, rfl⟩) ?_ ?_
            rotate_left
            ·simp only [Act.put, List.setIfInBounds_toArray, List.set_cons_zero, List.set_cons_succ, i64_w, i32_w, IntKind.wrap_u8, IntKind.wrap_u32]
             rfl
            refine pure_ (i := 45) (N := some 118) (v := undef) (a' := ?_) m54 rfl rfl (any_of HT_.out (by kernel_rfl)) (fun _ _ _ h => h) (Or.inr ⟨by rfl, rfl⟩) ?_ ?_
            rotate_left
            ·simp only [Act.put, List.setIfInBounds_toArray, List.set_cons_zero, List.set_cons_succ, i64_w, i32_w, IntKind.wrap_u8, IntKind.wrap_u32]
             rfl
            refine pure_ (i := 46) (N := some 119) (v := undef) (a' := ?_) m47 rfl rfl (any_of HT_.out (by kernel_rfl)) (fun _ _ _ h => h) (Or.inr ⟨by rfl, rfl⟩) ?_ ?_
            rotate_left
            ·simp only [Act.put, List.setIfInBounds_toArray, List.set_cons_zero, List.set_cons_succ, i64_w, i32_w, IntKind.wrap_u8, IntKind.wrap_u32]
             rfl
            refine pure_ (i := 47) (N := some 120) (v := undef) (a' := ?_) m48 rfl rfl (any_of HT_.out (by kernel_rfl)) (fun _ _ _ h => h) (Or.inr ⟨by rfl, rfl⟩) ?_ ?_
            rotate_left
            ·simp only [Act.put, List.setIfInBounds_toArray, List.set_cons_zero, List.set_cons_succ, i64_w, i32_w, IntKind.wrap_u8, IntKind.wrap_u32]
             rfl
            refine pure_ (i := 48) (N := some 121) (v := undef) (a' := ?_) m49 rfl rfl (any_of HT_.out (by kernel_rfl)) (fun _ _ _ h => h) (Or.inr ⟨by rfl, rfl⟩) ?_ ?_
            rotate_left
            ·simp only [Act.put, List.setIfInBounds_toArray, List.set_cons_zero, List.set_cons_succ, i64_w, i32_w, IntKind.wrap_u8, IntKind.wrap_u32]
             rfl
            refine pure_ (i := 49) (N := some 122) (v := undef) (a' := ?_) m50 rfl rfl (any_of HT_.out (by kernel_rfl)) (fun _ _ _ h => h) (Or.inr ⟨by rfl, rfl⟩) ?_ ?_
            rotate_left
            ·simp only [Act.put, List.setIfInBounds_toArray, List.set_cons_zero, List.set_cons_succ, i64_w, i32_w, IntKind.wrap_u8, IntKind.wrap_u32]
             rfl
            refine pure_ (i := 50) (N := some 123) (v := ?_) (a' := ?_) m51 rfl rfl (any_of HT_.out (by kernel_rfl)) (fun _ _ _ h => h) (Or.inl ⟨by rfl, ?_⟩) ?_ ?_
            rotate_left
            ·intro w'
             go_simp
             with_reducible rfl
            rotate_left
            ·simp only [Act.put, List.setIfInBounds_toArray, List.set_cons_zero, List.set_cons_succ, i64_w, i32_w, IntKind.wrap_u8, IntKind.wrap_u32]
             rfl
            refine pure_ (i := 51) (N := some 10) (v := ?_) (a' := ?_) m52 rfl rfl (any_of HT_.out (by kernel_rfl)) (fun _ _ _ h => h) (Or.inl ⟨by rfl, ?_⟩) ?_ ?_
            rotate_left
            ·intro w'
             go_simp
             with_reducible rfl
            rotate_left
            ·simp only [Act.put, List.setIfInBounds_toArray, List.set_cons_zero, List.set_cons_succ, i64_w, i32_w, IntKind.wrap_u8, IntKind.wrap_u32]
             rfl
            refine done_ (done_of HT_.out (by kernel_rfl)) ?_
            try go_wp2
            go_ret
            exact ⟨by first | rfl | (simp [errW_none, errW_some] <;> rfl) | (simp only [← hji8, ← hji9]; first | rfl | (simp [errW_none, errW_some] <;> rfl)) | (simp [*, errW_none, errW_some] <;> rfl), by repeat (first | (with_reducible first | exact HB.out | apply bA | apply bN | apply bD | refine bS ?_ GE168.out | refine bS ?_ GE169.out | refine bS ?_ GE173.out | refine bS ?_ GE177.out) | exact HB.out)⟩
         ·replace c51 := Bool.eq_false_iff.mpr c51
          subst c51
          have H1 : (some false) = some r := by rw [if_neg (show ¬ (false = true) by decide)] at H; exact H
          clear H
          have H := H1
          clear H1
          obtain rfl := Option.some.inj H
          try go_wp2
          have n0_ := aM (kD BK168.out)
          have n1_ := aM (kD BK169.out)
          have n2_ := aM (kD BK173.out)
          have n3_ := aM (kD BK177.out)
          have n4_ := aM (bD HB.out)
          clear BK168
          clear BK169
          clear BK173
          clear BK177
          clear HB
          have BK168 := n0_
          have BK169 := n1_
          have BK173 := n2_
          have BK177 := n3_
          have HB := n4_
          clear n0_ n1_ n2_ n3_ n4_
          refine start_ (n := 52) (S := fun w' => w'.cell? ⟨gb173, 0, none⟩ = some (.int .u32 t170) ∧ w'.cell? ⟨gb173, 1, none⟩ = some (.int .i64 t171) ∧ w'.cell? ⟨gb168, 0, none⟩ = some (.int .u32 ji8) ∧ w'.cell? ⟨gb168, 1, none⟩ = some (.int .i64 (wrap64 (1 + (wrap64 (Int.tmod a2 7)))))) (ds := []) m0 (by kernel_rfl) rfl rfl ⟨(kC BK173.out 0).trans rfl, (kC BK173.out 1).trans rfl, (kC BK168.out 0).trans rfl, (kC BK168.out 1).trans rfl⟩ (fun hHeld => ?_); refine with_tabW comitialaw06_BallotNext.tab12 comitialaw06_BallotNext.bits12 (fun HT_ HW_ => ?_)
          generalize wc.drew = w79 at BK168 BK169 BK173 BK177 HB hHeld ⊢
          refine pure_ (i := 0) (N := some 73) (v := ?_) (a' := ?_) m1 rfl rfl (any_of HT_.out (by kernel_rfl)) (fun _ _ _ h => h) (Or.inl ⟨by rfl, ?_⟩) ?_ ?_
          rotate_left
          ·intro w'
           go_simp
           with_reducible rfl
          rotate_left
          ·simp only [Act.put, List.setIfInBounds_toArray, List.set_cons_zero, List.set_cons_succ, i64_w, i32_w, IntKind.wrap_u8, IntKind.wrap_u32]
           rfl
          refine pure_ (i := 1) (N := some 74) (v := ?_) (a' := ?_) m2 rfl rfl (any_of HT_.out (by kernel_rfl)) (fun _ _ _ h => h) (Or.inl ⟨by rfl, ?_⟩) ?_ ?_
          rotate_left
          ·intro w'
           go_simp
           with_reducible rfl
          rotate_left
          ·simp only [Act.put, List.setIfInBounds_toArray, List.set_cons_zero, List.set_cons_succ, i64_w, i32_w, IntKind.wrap_u8, IntKind.wrap_u32]
           rfl
          refine take_ (i := 2) (N := some 75) (v := ?_) (a' := ?_) m3 rfl rfl (take_ofW HT_.out HW_.out (by kernel_rfl)) (fun _ _ _ h => h) (Or.inl ⟨by rfl, ?_⟩) hHeld ?_ ?_
          rotate_left
          ·rintro w' ⟨s0, s1, s2, s3⟩
           go_simp
           with_reducible rfl
          rotate_left
          ·simp only [Act.put, List.setIfInBounds_toArray, List.set_cons_zero, List.set_cons_succ, i64_w, i32_w, IntKind.wrap_u8, IntKind.wrap_u32]
           rfl
          refine take_ (i := 3) (N := some 76) (v := ?_) (a' := ?_) m4 rfl rfl (take_ofW HT_.out HW_.out (by kernel_rfl)) (fun _ _ _ h => h) (Or.inl ⟨by rfl, ?_⟩) hHeld ?_ ?_
          rotate_left
          ·rintro w' ⟨s0, s1, s2, s3⟩
           go_simp
           with_reducible rfl
          rotate_left
          ·simp only [Act.put, List.setIfInBounds_toArray, List.set_cons_zero, List.set_cons_succ, i64_w, i32_w, IntKind.wrap_u8, IntKind.wrap_u32]
           rfl
          refine one_ (i := 4) (N := some 77) m5 rfl rfl (one_of HT_.out (by kernel_rfl)) (by decide) (fun K hK => ?_)
          refine goes_ Tryd.func18 (by kernel_rfl) rfl #[.agg #[.int .u32 t170, .int .i64 t171], .agg #[.int .u32 ji8, .int .i64 (wrap64 (1 + (wrap64 (Int.tmod a2 7))))]] (by rfl) rfl rfl (by (try simp only [List.map_toArray, List.map_cons, List.map_nil]); first | done | (simp only [hji8]; rfl) | rfl | (simp only [List.length_drop, List.length_take]; rfl)) ?_
          with_reducible refine (ballot_Order.calls kj44 t170 t171 ji8 (wrap64 (1 + (wrap64 (Int.tmod a2 7)))) t178 _ A48.out).mono ?_
          rintro e w80 ⟨rfl, hb⟩
          refine ⟨_, rfl, ?_⟩
          have n0_ := aM (kB (g := gb168) (o := .cells #[.int .u32 ji8, .int .i64 (wrap64 (1 + (wrap64 (Int.tmod a2 7))))] 24 (0, 0)) (by (with_reducible repeat (first | refine kN ?_ _ | refine kD ?_ | refine kA ?_ _)); exact BK168.out) hb)
          have n1_ := aM (kB (g := gb169) (o := .cells #[.int .u32 ji9, .int .i64 (1 + (((Int.tdiv a2 7) % 256) % 7))] 24 (0, 0)) (by (with_reducible repeat (first | refine kN ?_ _ | refine kD ?_ | refine kA ?_ _)); exact BK169.out) hb)
          have n2_ := aM (kB (g := gb173) (o := .cells #[.int .u32 t170, .int .i64 t171] 24 (0, 0)) (by (with_reducible repeat (first | refine kN ?_ _ | refine kD ?_ | refine kA ?_ _)); exact BK173.out) hb)
          have n3_ := aM (kB (g := gb177) (o := .cells #[.int .u32 t174, .int .i64 t175] 24 (0, 0)) (by (with_reducible repeat (first | refine kN ?_ _ | refine kD ?_ | refine kA ?_ _)); exact BK177.out) hb)
          have n4_ := aM (below_step (by repeat (first | (with_reducible first | exact HB.out | apply bA | apply bN | apply bD | refine bS ?_ GE168.out | refine bS ?_ GE169.out | refine bS ?_ GE173.out | refine bS ?_ GE177.out) | exact HB.out)) hb)
          clear BK168
          clear BK169
          clear BK173
          clear BK177
          clear HB
          have BK168 := n0_
          have BK169 := n1_
          have BK173 := n2_
          have BK177 := n3_
          have HB := n4_
          clear n0_ n1_ n2_ n3_ n4_
          (try clear hb)
          (try clear hb2)
          (try clear hk)
          (try clear hi)
          refine hK.out _ _ ⟨(kC BK173.out 0).trans rfl, (kC BK173.out 1).trans rfl, (kC BK168.out 0).trans rfl, (kC BK168.out 1).trans rfl⟩ (fun hHeld => ?_)
          clear hK K
          refine norm_ (a' := ?_) ?_ ?_
          rotate_left
          ·show Act.put _ (some 77) _ = _
           simp only [Act.put, List.setIfInBounds_toArray, List.set_cons_zero, List.set_cons_succ, i64_w, i32_w, IntKind.wrap_u8, IntKind.wrap_u32]
           rfl
          refine pure_ (i := 5) (N := some 78) (v := ?_) (a' := ?_) m6 rfl rfl (any_of HT_.out (by kernel_rfl)) (fun _ _ _ h => h) (Or.inl ⟨by rfl, ?_⟩) ?_ ?_
          rotate_left
          ·intro w'
           go_simp
           with_reducible rfl
          rotate_left
          ·simp only [Act.put, List.setIfInBounds_toArray, List.set_cons_zero, List.set_cons_succ, i64_w, i32_w, IntKind.wrap_u8, IntKind.wrap_u32]
           rfl
          refine pure_ (i := 6) (N := some 79) (v := ?_) (a' := ?_) m7 rfl rfl (any_of HT_.out (by kernel_rfl)) (fun _ _ _ h => h) (Or.inl ⟨by rfl, ?_⟩) ?_ ?_
          rotate_left
          ·intro w'
           go_simp
           with_reducible rfl
          rotate_left
          ·simp only [Act.put, List.setIfInBounds_toArray, List.set_cons_zero, List.set_cons_succ, i64_w, i32_w, IntKind.wrap_u8, IntKind.wrap_u32]
           rfl
          refine pure_ (i := 7) (N := some 80) (v := ?_) (a' := ?_) m8 rfl rfl (any_of HT_.out (by kernel_rfl)) (fun _ _ _ h => h) (Or.inl ⟨by rfl, ?_⟩) ?_ ?_
          rotate_left
          ·intro w'
           go_simp
           with_reducible rfl
          rotate_left
          ·simp only [Act.put, List.setIfInBounds_toArray, List.set_cons_zero, List.set_cons_succ, i64_w, i32_w, IntKind.wrap_u8, IntKind.wrap_u32]
           rfl
          refine take_ (i := 8) (N := some 81) (v := ?_) (a' := ?_) m9 rfl rfl (take_ofW HT_.out HW_.out (by kernel_rfl)) (fun _ _ _ h => h) (Or.inl ⟨by rfl, ?_⟩) hHeld ?_ ?_
          rotate_left
          ·rintro w' ⟨s0, s1, s2, s3⟩
           go_simp
           with_reducible rfl
          rotate_left
          ·simp only [Act.put, List.setIfInBounds_toArray, List.set_cons_zero, List.set_cons_succ, i64_w, i32_w, IntKind.wrap_u8, IntKind.wrap_u32]
           rfl
          refine one_ (i := 9) (N := some 82) m10 rfl rfl (one_of HT_.out (by kernel_rfl)) (by decide) (fun K hK => ?_)
          refine goes_ Tryd.func15 (by kernel_rfl) rfl #[.agg #[.int .u32 t170, .int .i64 t171]] (by rfl) rfl rfl (by (try simp only [List.map_toArray, List.map_cons, List.map_nil]); first | done | rfl | (simp only [List.length_drop, List.length_take]; rfl)) ?_
          with_reducible refine (ballot_Right.calls t170 t171 false _ A50.out).mono ?_
          rintro e w81 ⟨rfl, hb⟩
          refine ⟨_, rfl, ?_⟩
          have n0_ := aM (kB (g := gb168) (o := .cells #[.int .u32 ji8, .int .i64 (wrap64 (1 + (wrap64 (Int.tmod a2 7))))] 24 (0, 0)) (by (with_reducible repeat (first | refine kN ?_ _ | refine kD ?_ | refine kA ?_ _)); exact BK168.out) hb)
          have n1_ := aM (kB (g := gb169) (o := .cells #[.int .u32 ji9, .int .i64 (1 + (((Int.tdiv a2 7) % 256) % 7))] 24 (0, 0)) (by (with_reducible repeat (first | refine kN ?_ _ | refine kD ?_ | refine kA ?_ _)); exact BK169.out) hb)
          have n2_ := aM (kB (g := gb173) (o := .cells #[.int .u32 t170, .int .i64 t171] 24 (0, 0)) (by (with_reducible repeat (first | refine kN ?_ _ | refine kD ?_ | refine kA ?_ _)); exact BK173.out) hb)
          have n3_ := aM (kB (g := gb177) (o := .cells #[.int .u32 t174, .int .i64 t175] 24 (0, 0)) (by (with_reducible repeat (first | refine kN ?_ _ | refine kD ?_ | refine kA ?_ _)); exact BK177.out) hb)
          have n4_ := aM (below_step (by repeat (first | (with_reducible first | exact HB.out | apply bA | apply bN | apply bD | refine bS ?_ GE168.out | refine bS ?_ GE169.out | refine bS ?_ GE173.out | refine bS ?_ GE177.out) | exact HB.out)) hb)
          clear BK168
          clear BK169
          clear BK173
          clear BK177
          clear HB
          have BK168 := n0_
          have BK169 := n1_
          have BK173 := n2_
          have BK177 := n3_
          have HB := n4_
          clear n0_ n1_ n2_ n3_ n4_
          (try clear hb)
          (try clear hb2)
          (try clear hk)
          (try clear hi)
          refine hK.out _ _ ⟨(kC BK173.out 0).trans rfl, (kC BK173.out 1).trans rfl, (kC BK168.out 0).trans rfl, (kC BK168.out 1).trans rfl⟩ (fun hHeld => ?_)
          clear hK K
          refine norm_ (a' := ?_) ?_ ?_
          rotate_left
          ·show Act.put _ (some 82) _ = _
           simp only [Act.put, List.setIfInBounds_toArray, List.set_cons_zero, List.set_cons_succ, i64_w, i32_w, IntKind.wrap_u8, IntKind.wrap_u32]
           rfl
          refine pure_ (i := 10) (N := some 83) (v := ?_) (a' := ?_) m11 rfl rfl (any_of HT_.out (by kernel_rfl)) (fun _ _ _ h => h) (Or.inl ⟨by rfl, ?_⟩) ?_ ?_
          rotate_left
          ·intro w'
           go_simp
           with_reducible rfl
          rotate_left
          ·simp only [Act.put, List.setIfInBounds_toArray, List.set_cons_zero, List.set_cons_succ, i64_w, i32_w, IntKind.wrap_u8, IntKind.wrap_u32]
           rfl
          refine pure_ (i := 11) (N := some 84) (v := ?_) (a' := ?_) m12 rfl rfl (any_of HT_.out (by kernel_rfl)) (fun _ _ _ h => h) (Or.inl ⟨by rfl, ?_⟩) ?_ ?_
          rotate_left
          ·intro w'
           go_simp
           with_reducible rfl
          rotate_left
          ·simp only [Act.put, List.setIfInBounds_toArray, List.set_cons_zero, List.set_cons_succ, i64_w, i32_w, IntKind.wrap_u8, IntKind.wrap_u32]
           rfl
          refine pure_ (i := 12) (N := some 85) (v := undef) (a' := ?_) m13 rfl rfl (any_of HT_.out (by kernel_rfl)) (fun _ _ _ h => h) (Or.inr ⟨by rfl, rfl⟩) ?_ ?_
          rotate_left
          ·simp only [Act.put, List.setIfInBounds_toArray, List.set_cons_zero, List.set_cons_succ, i64_w, i32_w, IntKind.wrap_u8, IntKind.wrap_u32]
           rfl
          refine pure_ (i := 13) (N := some 86) (v := undef) (a' := ?_) m14 rfl rfl (any_of HT_.out (by kernel_rfl)) (fun _ _ _ h => h) (Or.inr ⟨by rfl, rfl⟩) ?_ ?_
          rotate_left
          ·simp only [Act.put, List.setIfInBounds_toArray, List.set_cons_zero, List.set_cons_succ, i64_w, i32_w, IntKind.wrap_u8, IntKind.wrap_u32]
           rfl
          refine pure_ (i := 14) (N := some 87) (v := undef) (a' := ?_) m15 rfl rfl (any_of HT_.out (by kernel_rfl)) (fun _ _ _ h => h) (Or.inr ⟨by rfl, rfl⟩) ?_ ?_
          rotate_left
          ·simp only [Act.put, List.setIfInBounds_toArray, List.set_cons_zero, List.set_cons_succ, i64_w, i32_w, IntKind.wrap_u8, IntKind.wrap_u32]
           rfl
          refine pure_ (i := 15) (N := some 88) (v := undef) (a' := ?_) m16 rfl rfl (any_of HT_.out (by kernel_rfl)) (fun _ _ _ h => h) (Or.inr ⟨by rfl, rfl⟩) ?_ ?_
          rotate_left
          ·simp only [Act.put, List.setIfInBounds_toArray, List.set_cons_zero, List.set_cons_succ, i64_w, i32_w, IntKind.wrap_u8, IntKind.wrap_u32]
           rfl
          refine pure_ (i := 16) (N := some 89) (v := undef) (a' := ?_) m17 rfl rfl (any_of HT_.out (by kernel_rfl)) (fun _ _ _ h => h) (Or.inr ⟨by rfl, rfl⟩) ?_ ?_
          rotate_left
          ·simp only [Act.put, List.setIfInBounds_toArray, List.set_cons_zero, List.set_cons_succ, i64_w, i32_w, IntKind.wrap_u8, IntKind.wrap_u32]
           rfl
          refine pure_ (i := 17) (N := some 90) (v := undef) (a' := ?_) m18 rfl rfl (any_of HT_.out (by kernel_rfl)) (fun _ _ _ h => h) (Or.inr ⟨by rfl, rfl⟩) ?_ ?_
          rotate_left
          ·simp only [Act.put, List.setIfInBounds_toArray, List.set_cons_zero, List.set_cons_succ, i64_w, i32_w, IntKind.wrap_u8, IntKind.wrap_u32]
           rfl
          refine pure_ (i := 18) (N := some 91) (v := undef) (a' := ?_) m19 rfl rfl (any_of HT_.out (by kernel_rfl)) (fun _ _ _ h => h) (Or.inr ⟨by rfl, rfl⟩) ?_ ?_
          rotate_left
          ·simp only [Act.put, List.setIfInBounds_toArray, List.set_cons_zero, List.set_cons_succ, i64_w, i32_w, IntKind.wrap_u8, IntKind.wrap_u32]
           rfl
          refine pure_ (i := 19) (N := some 92) (v := undef) (a' := ?_) m20 rfl rfl (any_of HT_.out (by kernel_rfl)) (fun _ _ _ h => h) (Or.inr ⟨by rfl, rfl⟩) ?_ ?_
          rotate_left
          ·simp only [Act.put, List.setIfInBounds_toArray, List.set_cons_zero, List.set_cons_succ, i64_w, i32_w, IntKind.wrap_u8, IntKind.wrap_u32]
           rfl
          refine pure_ (i := 20) (N := some 93) (v := undef) (a' := ?_) m21 rfl rfl (any_of HT_.out (by kernel_rfl)) (fun _ _ _ h => h) (Or.inr ⟨by rfl, rfl⟩) ?_ ?_
          rotate_left
          ·simp only [Act.put, List.setIfInBounds_toArray, List.set_cons_zero, List.set_cons_succ, i64_w, i32_w, IntKind.wrap_u8, IntKind.wrap_u32]
           rfl
          refine pure_ (i := 21) (N := some 94) (v := undef) (a' := ?_) m22 rfl rfl (any_of HT_.out (by kernel_rfl)) (fun _ _ _ h => h) (Or.inr ⟨by rfl, rfl⟩) ?_ ?_
          rotate_left
          ·simp only [Act.put, List.setIfInBounds_toArray, List.set_cons_zero, List.set_cons_succ, i64_w, i32_w, IntKind.wrap_u8, IntKind.wrap_u32]
           rfl
          refine pure_ (i := 22) (N := some 95) (v := ?_) (a' := ?_) m23 rfl rfl (any_of HT_.out (by kernel_rfl)) (fun _ _ _ h => h) (Or.inl ⟨by rfl, ?_⟩) ?_ ?_
          rotate_left
          ·intro w'
           go_simp
           with_reducible rfl
          rotate_left
          ·simp only [Act.put, List.setIfInBounds_toArray, List.set_cons_zero, List.set_cons_succ, i64_w, i32_w, IntKind.wrap_u8, IntKind.wrap_u32]
           rfl
          refine pure_ (i := 23) (N := some 96) (v := ?_) (a' := ?_) m24 rfl rfl (any_of HT_.out (by kernel_rfl)) (fun _ _ _ h => h) (Or.inl ⟨by rfl, ?_⟩) ?_ ?_
          rotate_left
          ·intro w'
           go_simp
           with_reducible rfl
          rotate_left
          ·simp only [Act.put, List.setIfInBounds_toArray, List.set_cons_zero, List.set_cons_succ, i64_w, i32_w, IntKind.wrap_u8, IntKind.wrap_u32]
           rfl
          refine pure_ (i := 24) (N := some 97) (v := undef) (a' := ?_) m62 rfl rfl (any_of HT_.out (by kernel_rfl)) (fun _ _ _ h => h) (Or.inr ⟨by rfl, rfl⟩) ?_ ?_
          rotate_left
          ·simp only [Act.put, List.setIfInBounds_toArray, List.set_cons_zero, List.set_cons_succ, i64_w, i32_w, IntKind.wrap_u8, IntKind.wrap_u32]
           rfl
          refine pure_ (i := 25) (N := some 98) (v := undef) (a' := ?_) m63 rfl rfl (any_of HT_.out (by kernel_rfl)) (fun _ _ _ h => h) (Or.inr ⟨by rfl, rfl⟩) ?_ ?_
          rotate_left
          ·simp only [Act.put, List.setIfInBounds_toArray, List.set_cons_zero, List.set_cons_succ, i64_w, i32_w, IntKind.wrap_u8, IntKind.wrap_u32]
           rfl
          refine pure_ (i := 26) (N := some 99) (v := undef) (a' := ?_) m64 rfl rfl (any_of HT_.out (by kernel_rfl)) (fun _ _ _ h => h) (Or.inr ⟨by rfl, rfl⟩) ?_ ?_
          rotate_left
          ·simp only [Act.put, List.setIfInBounds_toArray, List.set_cons_zero, List.set_cons_succ, i64_w, i32_w, IntKind.wrap_u8, IntKind.wrap_u32]
           rfl
          refine pure_ (i := 27) (N := some 100) (v := undef) (a' := ?_) m65 rfl rfl (any_of HT_.out (by kernel_rfl)) (fun _ _ _ h => h) (Or.inr ⟨by rfl, rfl⟩) ?_ ?_
          rotate_left
          ·simp only [Act.put, List.setIfInBounds_toArray, List.set_cons_zero, List.set_cons_succ, i64_w, i32_w, IntKind.wrap_u8, IntKind.wrap_u32]
           rfl
          refine pure_ (i := 28) (N := some 101) (v := undef) (a' := ?_) m66 rfl rfl (any_of HT_.out (by kernel_rfl)) (fun _ _ _ h => h) (Or.inr ⟨by rfl, rfl⟩) ?_ ?_
          rotate_left
          ·simp only [Act.put, List.setIfInBounds_toArray, List.set_cons_zero, List.set_cons_succ, i64_w, i32_w, IntKind.wrap_u8, IntKind.wrap_u32]
           rfl
          refine pure_ (i := 29) (N := some 102) (v := undef) (a' := ?_) m67 rfl rfl (any_of HT_.out (by kernel_rfl)) (fun _ _ _ h => h) (Or.inr ⟨by rfl, rfl⟩) ?_ ?_
          rotate_left
          ·simp only [Act.put, List.setIfInBounds_toArray, List.set_cons_zero, List.set_cons_succ, i64_w, i32_w, IntKind.wrap_u8, IntKind.wrap_u32]
           rfl
          refine pure_ (i := 30) (N := some 103) (v := undef) (a' := ?_) m68 rfl rfl (any_of HT_.out (by kernel_rfl)) (fun _ _ _ h => h) (Or.inr ⟨by rfl, rfl⟩) ?_ ?_
          rotate_left
          ·simp only [Act.put, List.setIfInBounds_toArray, List.set_cons_zero, List.set_cons_succ, i64_w, i32_w, IntKind.wrap_u8, IntKind.wrap_u32]
           rfl
          refine pure_ (i := 31) (N := some 104) (v := undef) (a' := ?_) m69 rfl rfl (any_of HT_.out (by kernel_rfl)) (fun _ _ _ h => h) (Or.inr ⟨by rfl, rfl⟩) ?_ ?_
          rotate_left
          ·simp only [Act.put, List.setIfInBounds_toArray, List.set_cons_zero, List.set_cons_succ, i64_w, i32_w, IntKind.wrap_u8, IntKind.wrap_u32]
           rfl
          refine pure_ (i := 32) (N := some 105) (v := undef) (a' := ?_) m70 rfl rfl (any_of HT_.out (by kernel_rfl)) (fun _ _ _ h => h) (Or.inr ⟨by rfl, rfl⟩) ?_ ?_
          rotate_left
          ·simp only [Act.put, List.setIfInBounds_toArray, List.set_cons_zero, List.set_cons_succ, i64_w, i32_w, IntKind.wrap_u8, IntKind.wrap_u32]
           rfl
          refine pure_ (i := 33) (N := some 106) (v := undef) (a' := ?_) m71 rfl rfl (any_of HT_.out (by kernel_rfl)) (fun _ _ _ h => h) (Or.inr ⟨by rfl, rfl⟩) ?_ ?_
          rotate_left
          ·simp only [Act.put, List.setIfInBounds_toArray, List.set_cons_zero, List.set_cons_succ, i64_w, i32_w, IntKind.wrap_u8, IntKind.wrap_u32]
           rfl
          refine pure_ (i := 34) (N := some 107) (v := undef) (a' := ?_) m72 rfl rfl (any_of HT_.out (by kernel_rfl)) (fun _ _ _ h => h) (Or.inr ⟨by rfl, rfl⟩) ?_ ?_
          rotate_left
          ·simp only [Act.put, List.setIfInBounds_toArray, List.set_cons_zero, List.set_cons_succ, i64_w, i32_w, IntKind.wrap_u8, IntKind.wrap_u32]
           rfl
          refine pure_ (i := 35) (N := some 108) (v := undef) (a' := ?_) m36 rfl rfl (any_of HT_.out (by kernel_rfl)) (fun _ _ _ h => h) (Or.inr ⟨by rfl, rfl⟩) ?_ ?_
          rotate_left
          ·simp only [Act.put, List.setIfInBounds_toArray, List.set_cons_zero, List.set_cons_succ, i64_w, i32_w, IntKind.wrap_u8, IntKind.wrap_u32]
           rfl
          refine pure_ (i := 36) (N := some 109) (v := undef) (a' := ?_) m37 rfl rfl (any_of HT_.out (by kernel_rfl)) (fun _ _ _ h => h) (Or.inr ⟨by rfl, rfl⟩) ?_ ?_
          rotate_left
          ·simp only [Act.put, List.setIfInBounds_toArray, List.set_cons_zero, List.set_cons_succ, i64_w, i32_w, IntKind.wrap_u8, IntKind.wrap_u32]
           rfl
          refine pure_ (i := 37) (N := some 110) (v := undef) (a' := ?_) m38 rfl rfl (any_of HT_.out (by kernel_rfl)) (fun _ _ _ h => h) (Or.inr ⟨by rfl, rfl⟩) ?_ ?_
          rotate_left
          ·simp only [Act.put, List.setIfInBounds_toArray, List.set_cons_zero, List.set_cons_succ, i64_w, i32_w, IntKind.wrap_u8, IntKind.wrap_u32]
           rfl
          refine pure_ (i := 38) (N := some 111) (v := undef) (a' := ?_) m39 rfl rfl (any_of HT_.out (by kernel_rfl)) (fun _ _ _ h => h) (Or.inr ⟨by rfl, rfl⟩) ?_ ?_
          rotate_left
          ·simp only [Act.put, List.setIfInBounds_toArray, List.set_cons_zero, List.set_cons_succ, i64_w, i32_w, IntKind.wrap_u8, IntKind.wrap_u32]
           rfl
          refine pure_ (i := 39) (N := some 112) (v := undef) (a' := ?_) m40 rfl rfl (any_of HT_.out (by kernel_rfl)) (fun _ _ _ h => h) (Or.inr ⟨by rfl, rfl⟩) ?_ ?_
          rotate_left
          ·simp only [Act.put, List.setIfInBounds_toArray, List.set_cons_zero, List.set_cons_succ, i64_w, i32_w, IntKind.wrap_u8, IntKind.wrap_u32]
           rfl
          refine pure_ (i := 40) (N := some 113) (v := ?_) (a' := ?_) m41 rfl rfl (any_of HT_.out (by kernel_rfl)) (fun _ _ _ h => h) (Or.inl ⟨by rfl, ?_⟩) ?_ ?_
          rotate_left
          ·intro w'
           go_simp
           with_reducible rfl
          rotate_left
          ·simp only [Act.put, List.setIfInBounds_toArray, List.set_cons_zero, List.set_cons_succ, i64_w, i32_w, IntKind.wrap_u8, IntKind.wrap_u32]
           rfl
          refine pure_ (i := 41) (N := some 114) (v := ?_) (a' := ?_) m42 rfl rfl (any_of HT_.out (by kernel_rfl)) (fun _ _ _ h => h) (Or.inl ⟨by rfl, ?_⟩) ?_ ?_
          rotate_left
          ·intro w'
           go_simp
           with_reducible rfl
          rotate_left
          ·simp only [Act.put, List.setIfInBounds_toArray, List.set_cons_zero, List.set_cons_succ, i64_w, i32_w, IntKind.wrap_u8, IntKind.wrap_u32]
           rfl
          refine pure_ (i := 42) (N := some 115) (v := undef) (a' := ?_) m43 rfl rfl (any_of HT_.out (by kernel_rfl)) (fun _ _ _ h => h) (Or.inr ⟨by rfl, rfl⟩) ?_ ?_
          rotate_left
          ·simp only [Act.put, List.setIfInBounds_toArray, List.set_cons_zero, List.set_cons_succ, i64_w, i32_w, IntKind.wrap_u8, IntKind.wrap_u32]
           rfl
          refine pure_ (i := 43) (N := some 116) (v := undef) (a' := ?_) m44 rfl rfl (any_of HT_.out (by kernel_rfl)) (fun _ _ _ h => h) (Or.inr ⟨by rfl, rfl⟩) ?_ ?_
          rotate_left
          ·simp only [Act.put, List.setIfInBounds_toArray, List.set_cons_zero, List.set_cons_succ, i64_w, i32_w, IntKind.wrap_u8, IntKind.wrap_u32]
           rfl
          refine pure_ (i := 44) (N := some 117) (v := undef) (a' := ?_) m53 rfl rfl (any_of HT_.out (by kernel_rfl)) (fun _ _ _ h => h) (Or.inr ⟨by rfl, rfl⟩) ?_ ?_
          rotate_left
          ·simp only [Act.put, List.setIfInBounds_toArray, List.set_cons_zero, List.set_cons_succ, i64_w, i32_w, IntKind.wrap_u8, IntKind.wrap_u32]
           rfl
          refine pure_ (i := 45) (N := some 118) (v := undef) (a' := ?_) m54 rfl rfl (any_of HT_.out (by kernel_rfl)) (fun _ _ _ h => h) (Or.inr ⟨by rfl, rfl⟩) ?_ ?_
          rotate_left
          ·simp only [Act.put, List.setIfInBounds_toArray, List.set_cons_zero, List.set_cons_succ, i64_w, i32_w, IntKind.wrap_u8, IntKind.wrap_u32]
           rfl
          refine pure_ (i := 46) (N := some 119) (v := undef) (a' := ?_) m47 rfl rfl (any_of HT_.out (by kernel_rfl)) (fun _ _ _ h => h) (Or.inr ⟨by rfl, rfl⟩) ?_ ?_
          rotate_left
          ·simp only [Act.put, List.setIfInBounds_toArray, List.set_cons_zero, List.set_cons_succ, i64_w, i32_w, IntKind.wrap_u8, IntKind.wrap_u32]
           rfl
          refine pure_ (i := 47) (N := some 120) (v := undef) (a' := ?_) m48 rfl rfl (any_of HT_.out (by kernel_rfl)) (fun _ _ _ h => h) (Or.inr ⟨by rfl, rfl⟩) ?_ ?_
          rotate_left
          ·simp only [Act.put, List.setIfInBounds_toArray, List.set_cons_zero, List.set_cons_succ, i64_w, i32_w, IntKind.wrap_u8, IntKind.wrap_u32]
           rfl
          refine pure_ (i := 48) (N := some 121) (v := undef) (a' := ?_) m49 rfl rfl (any_of HT_.out (by kernel_rfl)) (fun _ _ _ h => h) (Or.inr ⟨by rfl, rfl⟩) ?_ ?_
          rotate_left
          ·simp only [Act.put, List.setIfInBounds_toArray, List.set_cons_zero, List.set_cons_succ, i64_w, i32_w, IntKind.wrap_u8, IntKind.wrap_u32]
           rfl
          refine pure_ (i := 49) (N := some 122) (v := undef) (a' := ?_) m50 rfl rfl (any_of HT_.out (by kernel_rfl)) (fun _ _ _ h => h) (Or.inr ⟨by rfl, rfl⟩) ?_ ?_
          rotate_left
          ·simp only [Act.put, List.setIfInBounds_toArray, List.set_cons_zero, List.set_cons_succ, i64_w, i32_w, IntKind.wrap_u8, IntKind.wrap_u32]
           rfl
          refine pure_ (i := 50) (N := some 123) (v := ?_) (a' := ?_) m51 rfl rfl (any_of HT_.out (by kernel_rfl)) (fun _ _ _ h => h) (Or.inl ⟨by rfl, ?_⟩) ?_ ?_
          rotate_left
          ·intro w'
           go_simp
           with_reducible rfl
          rotate_left
          ·simp only [Act.put, List.setIfInBounds_toArray, List.set_cons_zero, List.set_cons_succ, i64_w, i32_w, IntKind.wrap_u8, IntKind.wrap_u32]
           rfl
          refine pure_ (i := 51) (N := some 10) (v := ?_) (a' := ?_) m52 rfl rfl (any_of HT_.out (by kernel_rfl)) (fun _ _ _ h => h) (Or.inl ⟨by rfl, ?_⟩) ?_ ?_
          rotate_left
          ·intro w'
           go_simp
           with_reducible rfl
          rotate_left
          ·simp only [Act.put, List.setIfInBounds_toArray, List.set_cons_zero, List.set_cons_succ, i64_w, i32_w, IntKind.wrap_u8, IntKind.wrap_u32]
           rfl
          refine done_ (done_of HT_.out (by kernel_rfl)) ?_
          try go_wp2
          go_ret
          exact ⟨by first | rfl | (simp [errW_none, errW_some] <;> rfl) | (simp only [← hji8, ← hji9]; first | rfl | (simp [errW_none, errW_some] <;> rfl)) | (simp [*, errW_none, errW_some] <;> rfl), by repeat (first | (with_reducible first | exact HB.out | apply bA | apply bN | apply bD | refine bS ?_ GE168.out | refine bS ?_ GE169.out | refine bS ?_ GE173.out | refine bS ?_ GE177.out) | exact HB.out)⟩
        ·rw [if_neg c49] at H
         have c49b0 : decide (0 < t178) = false := decide_eq_false c49
         clear c49
         obtain rfl := Option.some.inj H
         try go_wp2
         have n0_ := aM (kD BK168.out)
         have n1_ := aM (kD BK169.out)
         have n2_ := aM (kD BK173.out)
         have n3_ := aM (kD BK177.out)
         have n4_ := aM (bD HB.out)
         clear BK168
         clear BK169
         clear BK173
         clear BK177
         clear HB
         have BK168 := n0_
         have BK169 := n1_
         have BK173 := n2_
         have BK177 := n3_
         have HB := n4_
         clear n0_ n1_ n2_ n3_ n4_
         refine start_ (n := 52) (S := fun w' => w'.cell? ⟨gb173, 0, none⟩ = some (.int .u32 t170) ∧ w'.cell? ⟨gb173, 1, none⟩ = some (.int .i64 t171) ∧ w'.cell? ⟨gb168, 0, none⟩ = some (.int .u32 ji8) ∧ w'.cell? ⟨gb168, 1, none⟩ = some (.int .i64 (wrap64 (1 + (wrap64 (Int.tmod a2 7)))))) (ds := []) m0 (by kernel_rfl) rfl rfl ⟨(kC BK173.out 0).trans rfl, (kC BK173.out 1).trans rfl, (kC BK168.out 0).trans rfl, (kC BK168.out 1).trans rfl⟩ (fun hHeld => ?_); refine with_tabW comitialaw06_BallotNext.tab12 comitialaw06_BallotNext.bits12 (fun HT_ HW_ => ?_)
         generalize wc.drew = w82 at BK168 BK169 BK173 BK177 HB hHeld ⊢
         refine pure_ (i := 0) (N := some 73) (v := ?_) (a' := ?_) m1 rfl rfl (any_of HT_.out (by kernel_rfl)) (fun _ _ _ h => h) (Or.inl ⟨by rfl, ?_⟩) ?_ ?_
         rotate_left
         ·intro w'
          go_simp
          with_reducible rfl
         rotate_left
         ·simp only [Act.put, List.setIfInBounds_toArray, List.set_cons_zero, List.set_cons_succ, i64_w, i32_w, IntKind.wrap_u8, IntKind.wrap_u32]
          rfl
         refine pure_ (i := 1) (N := some 74) (v := ?_) (a' := ?_) m2 rfl rfl (any_of HT_.out (by kernel_rfl)) (fun _ _ _ h => h) (Or.inl ⟨by rfl, ?_⟩) ?_ ?_
         rotate_left
         ·intro w'
          go_simp
          with_reducible rfl
         rotate_left
         ·simp only [Act.put, List.setIfInBounds_toArray, List.set_cons_zero, List.set_cons_succ, i64_w, i32_w, IntKind.wrap_u8, IntKind.wrap_u32]
          rfl
         refine take_ (i := 2) (N := some 75) (v := ?_) (a' := ?_) m3 rfl rfl (take_ofW HT_.out HW_.out (by kernel_rfl)) (fun _ _ _ h => h) (Or.inl ⟨by rfl, ?_⟩) hHeld ?_ ?_
         rotate_left
         ·rintro w' ⟨s0, s1, s2, s3⟩
          go_simp
          with_reducible rfl
         rotate_left
         ·simp only [Act.put, List.setIfInBounds_toArray, List.set_cons_zero, List.set_cons_succ, i64_w, i32_w, IntKind.wrap_u8, IntKind.wrap_u32]
          rfl
         refine take_ (i := 3) (N := some 76) (v := ?_) (a' := ?_) m4 rfl rfl (take_ofW HT_.out HW_.out (by kernel_rfl)) (fun _ _ _ h => h) (Or.inl ⟨by rfl, ?_⟩) hHeld ?_ ?_
         rotate_left
         ·rintro w' ⟨s0, s1, s2, s3⟩
          go_simp
          with_reducible rfl
         rotate_left
         ·simp only [Act.put, List.setIfInBounds_toArray, List.set_cons_zero, List.set_cons_succ, i64_w, i32_w, IntKind.wrap_u8, IntKind.wrap_u32]
          rfl
         refine one_ (i := 4) (N := some 77) m5 rfl rfl (one_of HT_.out (by kernel_rfl)) (by decide) (fun K hK => ?_)
         refine goes_ Tryd.func18 (by kernel_rfl) rfl #[.agg #[.int .u32 t170, .int .i64 t171], .agg #[.int .u32 ji8, .int .i64 (wrap64 (1 + (wrap64 (Int.tmod a2 7))))]] (by rfl) rfl rfl (by (try simp only [List.map_toArray, List.map_cons, List.map_nil]); first | done | (simp only [hji8]; rfl) | rfl | (simp only [List.length_drop, List.length_take]; rfl)) ?_
         with_reducible refine (ballot_Order.calls kj44 t170 t171 ji8 (wrap64 (1 + (wrap64 (Int.tmod a2 7)))) t178 _ A48.out).mono ?_
         rintro e w83 ⟨rfl, hb⟩
         refine ⟨_, rfl, ?_⟩
         have n0_ := aM (kB (g := gb168) (o := .cells #[.int .u32 ji8, .int .i64 (wrap64 (1 + (wrap64 (Int.tmod a2 7))))] 24 (0, 0)) (by (with_reducible repeat (first | refine kN ?_ _ | refine kD ?_ | refine kA ?_ _)); exact BK168.out) hb)
         have n1_ := aM (kB (g := gb169) (o := .cells #[.int .u32 ji9, .int .i64 (1 + (((Int.tdiv a2 7) % 256) % 7))] 24 (0, 0)) (by (with_reducible repeat (first | refine kN ?_ _ | refine kD ?_ | refine kA ?_ _)); exact BK169.out) hb)
         have n2_ := aM (kB (g := gb173) (o := .cells #[.int .u32 t170, .int .i64 t171] 24 (0, 0)) (by (with_reducible repeat (first | refine kN ?_ _ | refine kD ?_ | refine kA ?_ _)); exact BK173.out) hb)
         have n3_ := aM (kB (g := gb177) (o := .cells #[.int .u32 t174, .int .i64 t175] 24 (0, 0)) (by (with_reducible repeat (first | refine kN ?_ _ | refine kD ?_ | refine kA ?_ _)); exact BK177.out) hb)
         have n4_ := aM (below_step (by repeat (first | (with_reducible first | exact HB.out | apply bA | apply bN | apply bD | refine bS ?_ GE168.out | refine bS ?_ GE169.out | refine bS ?_ GE173.out | refine bS ?_ GE177.out) | exact HB.out)) hb)
         clear BK168
         clear BK169
         clear BK173
         clear BK177
         clear HB
         have BK168 := n0_
         have BK169 := n1_
         have BK173 := n2_
         have BK177 := n3_
         have HB := n4_
         clear n0_ n1_ n2_ n3_ n4_
         (try clear hb)
         (try clear hb2)
         (try clear hk)
         (try clear hi)
         refine hK.out _ _ ⟨(kC BK173.out 0).trans rfl, (kC BK173.out 1).trans rfl, (kC BK168.out 0).trans rfl, (kC BK168.out 1).trans rfl⟩ (fun hHeld => ?_)
         clear hK K
         refine norm_ (a' := ?_) ?_ ?_
         rotate_left
         ·show Act.put _ (some 77) _ = _
          simp only [Act.put, List.setIfInBounds_toArray, List.set_cons_zero, List.set_cons_succ, i64_w, i32_w, IntKind.wrap_u8, IntKind.wrap_u32]
          rfl
         refine pure_ (i := 5) (N := some 78) (v := ?_) (a' := ?_) m6 rfl rfl (any_of HT_.out (by kernel_rfl)) (fun _ _ _ h => h) (Or.inl ⟨by rfl, ?_⟩) ?_ ?_
         rotate_left
         ·intro w'
          go_simp
          with_reducible rfl
         rotate_left
         ·simp only [Act.put, List.setIfInBounds_toArray, List.set_cons_zero, List.set_cons_succ, i64_w, i32_w, IntKind.wrap_u8, IntKind.wrap_u32]
          rfl
         refine pure_ (i := 6) (N := some 79) (v := ?_) (a' := ?_) m7 rfl rfl (any_of HT_.out (by kernel_rfl)) (fun _ _ _ h => h) (Or.inl ⟨by rfl, ?_⟩) ?_ ?_
         rotate_left
         ·intro w'
          go_simp
          with_reducible rfl
         rotate_left
         ·simp only [Act.put, List.setIfInBounds_toArray, List.set_cons_zero, List.set_cons_succ, i64_w, i32_w, IntKind.wrap_u8, IntKind.wrap_u32]
          rfl
         refine pure_ (i := 7) (N := some 80) (v := ?_) (a' := ?_) m8 rfl rfl (any_of HT_.out (by kernel_rfl)) (fun _ _ _ h => h) (Or.inl ⟨by rfl, ?_⟩) ?_ ?_
         rotate_left
         ·intro w'
          go_simp
          with_reducible rfl
         rotate_left
         ·simp only [Act.put, List.setIfInBounds_toArray, List.set_cons_zero, List.set_cons_succ, i64_w, i32_w, IntKind.wrap_u8, IntKind.wrap_u32]
          rfl
         refine pure_ (i := 8) (N := some 81) (v := undef) (a' := ?_) m9 rfl rfl (any_of HT_.out (by kernel_rfl)) (fun _ _ _ h => h) (Or.inr ⟨by rfl, rfl⟩) ?_ ?_
         rotate_left
         ·simp only [Act.put, List.setIfInBounds_toArray, List.set_cons_zero, List.set_cons_succ, i64_w, i32_w, IntKind.wrap_u8, IntKind.wrap_u32]
          rfl
         refine pure_ (i := 9) (N := some 82) (v := undef) (a' := ?_) m10 rfl rfl (any_of HT_.out (by kernel_rfl)) (fun _ _ _ h => h) (Or.inr ⟨by rfl, rfl⟩) ?_ ?_
         rotate_left
         ·simp only [Act.put, List.setIfInBounds_toArray, List.set_cons_zero, List.set_cons_succ, i64_w, i32_w, IntKind.wrap_u8, IntKind.wrap_u32]
          rfl
         refine pure_ (i := 10) (N := some 83) (v := ?_) (a' := ?_) m11 rfl rfl (any_of HT_.out (by kernel_rfl)) (fun _ _ _ h => h) (Or.inl ⟨by rfl, ?_⟩) ?_ ?_
         rotate_left
         ·intro w'
          go_simp
          with_reducible rfl
         rotate_left
         ·simp only [Act.put, List.setIfInBounds_toArray, List.set_cons_zero, List.set_cons_succ, i64_w, i32_w, IntKind.wrap_u8, IntKind.wrap_u32]
          rfl
         refine pure_ (i := 11) (N := some 84) (v := ?_) (a' := ?_) m12 rfl rfl (any_of HT_.out (by kernel_rfl)) (fun _ _ _ h => h) (Or.inl ⟨by rfl, ?_⟩) ?_ ?_
         rotate_left
         ·intro w'
          go_simp
          with_reducible rfl
         rotate_left
         ·simp only [Act.put, List.setIfInBounds_toArray, List.set_cons_zero, List.set_cons_succ, i64_w, i32_w, IntKind.wrap_u8, IntKind.wrap_u32]
          rfl
         refine pure_ (i := 12) (N := some 85) (v := undef) (a' := ?_) m13 rfl rfl (any_of HT_.out (by kernel_rfl)) (fun _ _ _ h => h) (Or.inr ⟨by rfl, rfl⟩) ?_ ?_
         rotate_left
         ·simp only [Act.put, List.setIfInBounds_toArray, List.set_cons_zero, List.set_cons_succ, i64_w, i32_w, IntKind.wrap_u8, IntKind.wrap_u32]
          rfl
         refine pure_ (i := 13) (N := some 86) (v := undef) (a' := ?_) m14 rfl rfl (any_of HT_.out (by kernel_rfl)) (fun _ _ _ h => h) (Or.inr ⟨by rfl, rfl⟩) ?_ ?_
         rotate_left
         ·simp only [Act.put, List.setIfInBounds_toArray, List.set_cons_zero, List.set_cons_succ, i64_w, i32_w, IntKind.wrap_u8, IntKind.wrap_u32]
          rfl
         refine pure_ (i := 14) (N := some 87) (v := undef) (a' := ?_) m15 rfl rfl (any_of HT_.out (by kernel_rfl)) (fun _ _ _ h => h) (Or.inr ⟨by rfl, rfl⟩) ?_ ?_
         rotate_left
         ·simp only [Act.put, List.setIfInBounds_toArray, List.set_cons_zero, List.set_cons_succ, i64_w, i32_w, IntKind.wrap_u8, IntKind.wrap_u32]
          rfl
         refine pure_ (i := 15) (N := some 88) (v := undef) (a' := ?_) m16 rfl rfl (any_of HT_.out (by kernel_rfl)) (fun _ _ _ h => h) (Or.inr ⟨by rfl, rfl⟩) ?_ ?_
         rotate_left
         ·simp only [Act.put, List.setIfInBounds_toArray, List.set_cons_zero, List.set_cons_succ, i64_w, i32_w, IntKind.wrap_u8, IntKind.wrap_u32]
          rfl
         refine pure_ (i := 16) (N := some 89) (v := undef) (a' := ?_) m17 rfl rfl (any_of HT_.out (by kernel_rfl)) (fun _ _ _ h => h) (Or.inr ⟨by rfl, rfl⟩) ?_ ?_
         rotate_left
         ·simp only [Act.put, List.setIfInBounds_toArray, List.set_cons_zero, List.set_cons_succ, i64_w, i32_w, IntKind.wrap_u8, IntKind.wrap_u32]
          rfl
         refine pure_ (i := 17) (N := some 90) (v := undef) (a' := ?_) m18 rfl rfl (any_of HT_.out (by kernel_rfl)) (fun _ _ _ h => h) (Or.inr ⟨by rfl, rfl⟩) ?_ ?_
         rotate_left
         ·simp only [Act.put, List.setIfInBounds_toArray, List.set_cons_zero, List.set_cons_succ, i64_w, i32_w, IntKind.wrap_u8, IntKind.wrap_u32]
          rfl
         refine pure_ (i := 18) (N := some 91) (v := undef) (a' := ?_) m19 rfl rfl (any_of HT_.out (by kernel_rfl)) (fun _ _ _ h => h) (Or.inr ⟨by rfl, rfl⟩) ?_ ?_
         rotate_left
         ·simp only [Act.put, List.setIfInBounds_toArray, List.set_cons_zero, List.set_cons_succ, i64_w, i32_w, IntKind.wrap_u8, IntKind.wrap_u32]
          rfl
         refine pure_ (i := 19) (N := some 92) (v := undef) (a' := ?_) m20 rfl rfl (any_of HT_.out (by kernel_rfl)) (fun _ _ _ h => h) (Or.inr ⟨by rfl, rfl⟩) ?_ ?_
         rotate_left
         ·simp only [Act.put, List.setIfInBounds_toArray, List.set_cons_zero, List.set_cons_succ, i64_w, i32_w, IntKind.wrap_u8, IntKind.wrap_u32]
          rfl
         refine pure_ (i := 20) (N := some 93) (v := undef) (a' := ?_) m21 rfl rfl (any_of HT_.out (by kernel_rfl)) (fun _ _ _ h => h) (Or.inr ⟨by rfl, rfl⟩) ?_ ?_
         rotate_left
         ·simp only [Act.put, List.setIfInBounds_toArray, List.set_cons_zero, List.set_cons_succ, i64_w, i32_w, IntKind.wrap_u8, IntKind.wrap_u32]
          rfl
         refine pure_ (i := 21) (N := some 94) (v := undef) (a' := ?_) m22 rfl rfl (any_of HT_.out (by kernel_rfl)) (fun _ _ _ h => h) (Or.inr ⟨by rfl, rfl⟩) ?_ ?_
         rotate_left
         ·simp only [Act.put, List.setIfInBounds_toArray, List.set_cons_zero, List.set_cons_succ, i64_w, i32_w, IntKind.wrap_u8, IntKind.wrap_u32]
          rfl
         refine pure_ (i := 22) (N := some 95) (v := ?_) (a' := ?_) m23 rfl rfl (any_of HT_.out (by kernel_rfl)) (fun _ _ _ h => h) (Or.inl ⟨by rfl, ?_⟩) ?_ ?_
         rotate_left
         ·intro w'
          go_simp
          with_reducible rfl
         rotate_left
         ·simp only [Act.put, List.setIfInBounds_toArray, List.set_cons_zero, List.set_cons_succ, i64_w, i32_w, IntKind.wrap_u8, IntKind.wrap_u32]
          rfl
         refine pure_ (i := 23) (N := some 96) (v := ?_) (a' := ?_) m24 rfl rfl (any_of HT_.out (by kernel_rfl)) (fun _ _ _ h => h) (Or.inl ⟨by rfl, ?_⟩) ?_ ?_
         rotate_left
         ·intro w'
          go_simp
          with_reducible rfl
         rotate_left
         ·simp only [Act.put, List.setIfInBounds_toArray, List.set_cons_zero, List.set_cons_succ, i64_w, i32_w, IntKind.wrap_u8, IntKind.wrap_u32]
          rfl
         refine pure_ (i := 24) (N := some 97) (v := undef) (a' := ?_) m62 rfl rfl (any_of HT_.out (by kernel_rfl)) (fun _ _ _ h => h) (Or.inr ⟨by rfl, rfl⟩) ?_ ?_
         rotate_left
         ·simp only [Act.put, List.setIfInBounds_toArray, List.set_cons_zero, List.set_cons_succ, i64_w, i32_w, IntKind.wrap_u8, IntKind.wrap_u32]
          rfl
         refine pure_ (i := 25) (N := some 98) (v := undef) (a' := ?_) m63 rfl rfl (any_of HT_.out (by kernel_rfl)) (fun _ _ _ h => h) (Or.inr ⟨by rfl, rfl⟩) ?_ ?_
         rotate_left
         ·simp only [Act.put, List.setIfInBounds_toArray, List.set_cons_zero, List.set_cons_succ, i64_w, i32_w, IntKind.wrap_u8, IntKind.wrap_u32]
          rfl
         refine pure_ (i := 26) (N := some 99) (v := undef) (a' := ?_) m64 rfl rfl (any_of HT_.out (by kernel_rfl)) (fun _ _ _ h => h) (Or.inr ⟨by rfl, rfl⟩) ?_ ?_
         rotate_left
         ·simp only [Act.put, List.setIfInBounds_toArray, List.set_cons_zero, List.set_cons_succ, i64_w, i32_w, IntKind.wrap_u8, IntKind.wrap_u32]
          rfl
         refine pure_ (i := 27) (N := some 100) (v := undef) (a' := ?_) m65 rfl rfl (any_of HT_.out (by kernel_rfl)) (fun _ _ _ h => h) (Or.inr ⟨by rfl, rfl⟩) ?_ ?_
         rotate_left
         ·simp only [Act.put, List.setIfInBounds_toArray, List.set_cons_zero, List.set_cons_succ, i64_w, i32_w, IntKind.wrap_u8, IntKind.wrap_u32]
          rfl
         refine pure_ (i := 28) (N := some 101) (v := undef) (a' := ?_) m66 rfl rfl (any_of HT_.out (by kernel_rfl)) (fun _ _ _ h => h) (Or.inr ⟨by rfl, rfl⟩) ?_ ?_
         rotate_left
         ·simp only [Act.put, List.setIfInBounds_toArray, List.set_cons_zero, List.set_cons_succ, i64_w, i32_w, IntKind.wrap_u8, IntKind.wrap_u32]
          rfl
         refine pure_ (i := 29) (N := some 102) (v := undef) (a' := ?_) m67 rfl rfl (any_of HT_.out (by kernel_rfl)) (fun _ _ _ h => h) (Or.inr ⟨by rfl, rfl⟩) ?_ ?_
         rotate_left
         ·simp only [Act.put, List.setIfInBounds_toArray, List.set_cons_zero, List.set_cons_succ, i64_w, i32_w, IntKind.wrap_u8, IntKind.wrap_u32]
          rfl
         refine pure_ (i := 30) (N := some 103) (v := undef) (a' := ?_) m68 rfl rfl (any_of HT_.out (by kernel_rfl)) (fun _ _ _ h => h) (Or.inr ⟨by rfl, rfl⟩) ?_ ?_
         rotate_left
         ·simp only [Act.put, List.setIfInBounds_toArray, List.set_cons_zero, List.set_cons_succ, i64_w, i32_w, IntKind.wrap_u8, IntKind.wrap_u32]
          rfl
         refine pure_ (i := 31) (N := some 104) (v := undef) (a' := ?_) m69 rfl rfl (any_of HT_.out (by kernel_rfl)) (fun _ _ _ h => h) (Or.inr ⟨by rfl, rfl⟩) ?_ ?_
         rotate_left
         ·simp only [Act.put, List.setIfInBounds_toArray, List.set_cons_zero, List.set_cons_succ, i64_w, i32_w, IntKind.wrap_u8, IntKind.wrap_u32]
          rfl
         refine pure_ (i := 32) (N := some 105) (v := undef) (a' := ?_) m70 rfl rfl (any_of HT_.out (by kernel_rfl)) (fun _ _ _ h => h) (Or.inr ⟨by rfl, rfl⟩) ?_ ?_
         rotate_left
         ·simp only [Act.put, List.setIfInBounds_toArray, List.set_cons_zero, List.set_cons_succ, i64_w, i32_w, IntKind.wrap_u8, IntKind.wrap_u32]
          rfl
         refine pure_ (i := 33) (N := some 106) (v := undef) (a' := ?_) m71 rfl rfl (any_of HT_.out (by kernel_rfl)) (fun _ _ _ h => h) (Or.inr ⟨by rfl, rfl⟩) ?_ ?_
         rotate_left
         ·simp only [Act.put, List.setIfInBounds_toArray, List.set_cons_zero, List.set_cons_succ, i64_w, i32_w, IntKind.wrap_u8, IntKind.wrap_u32]
          rfl
         refine pure_ (i := 34) (N := some 107) (v := undef) (a' := ?_) m72 rfl rfl (any_of HT_.out (by kernel_rfl)) (fun _ _ _ h => h) (Or.inr ⟨by rfl, rfl⟩) ?_ ?_
         rotate_left
         ·simp only [Act.put, List.setIfInBounds_toArray, List.set_cons_zero, List.set_cons_succ, i64_w, i32_w, IntKind.wrap_u8, IntKind.wrap_u32]
          rfl
         refine pure_ (i := 35) (N := some 108) (v := undef) (a' := ?_) m36 rfl rfl (any_of HT_.out (by kernel_rfl)) (fun _ _ _ h => h) (Or.inr ⟨by rfl, rfl⟩) ?_ ?_
         rotate_left
         ·simp only [Act.put, List.setIfInBounds_toArray, List.set_cons_zero, List.set_cons_succ, i64_w, i32_w, IntKind.wrap_u8, IntKind.wrap_u32]
          rfl
         refine pure_ (i := 36) (N := some 109) (v := undef) (a' := ?_) m37 rfl rfl (any_of HT_.out (by kernel_rfl)) (fun _ _ _ h => h) (Or.inr ⟨by rfl, rfl⟩) ?_ ?_
         rotate_left
         ·simp only [Act.put, List.setIfInBounds_toArray, List.set_cons_zero, List.set_cons_succ, i64_w, i32_w, IntKind.wrap_u8, IntKind.wrap_u32]
          rfl
         refine pure_ (i := 37) (N := some 110) (v := undef) (a' := ?_) m38 rfl rfl (any_of HT_.out (by kernel_rfl)) (fun _ _ _ h => h) (Or.inr ⟨by rfl, rfl⟩) ?_ ?_
         rotate_left
         ·simp only [Act.put, List.setIfInBounds_toArray, List.set_cons_zero, List.set_cons_succ, i64_w, i32_w, IntKind.wrap_u8, IntKind.wrap_u32]
          rfl
         refine pure_ (i := 38) (N := some 111) (v := undef) (a' := ?_) m39 rfl rfl (any_of HT_.out (by kernel_rfl)) (fun _ _ _ h => h) (Or.inr ⟨by rfl, rfl⟩) ?_ ?_
         rotate_left
         ·simp only [Act.put, List.setIfInBounds_toArray, List.set_cons_zero, List.set_cons_succ, i64_w, i32_w, IntKind.wrap_u8, IntKind.wrap_u32]
          rfl
         refine pure_ (i := 39) (N := some 112) (v := undef) (a' := ?_) m40 rfl rfl (any_of HT_.out (by kernel_rfl)) (fun _ _ _ h => h) (Or.inr ⟨by rfl, rfl⟩) ?_ ?_
         rotate_left
         ·simp only [Act.put, List.setIfInBounds_toArray, List.set_cons_zero, List.set_cons_succ, i64_w, i32_w, IntKind.wrap_u8, IntKind.wrap_u32]
          rfl
         refine pure_ (i := 40) (N := some 113) (v := ?_) (a' := ?_) m41 rfl rfl (any_of HT_.out (by kernel_rfl)) (fun _ _ _ h => h) (Or.inl ⟨by rfl, ?_⟩) ?_ ?_
         rotate_left
         ·intro w'
          go_simp
          with_reducible rfl
         rotate_left
         ·simp only [Act.put, List.setIfInBounds_toArray, List.set_cons_zero, List.set_cons_succ, i64_w, i32_w, IntKind.wrap_u8, IntKind.wrap_u32]
          rfl
         refine pure_ (i := 41) (N := some 114) (v := ?_) (a' := ?_) m42 rfl rfl (any_of HT_.out (by kernel_rfl)) (fun _ _ _ h => h) (Or.inl ⟨by rfl, ?_⟩) ?_ ?_
         rotate_left
         ·intro w'
          go_simp
          with_reducible rfl
         rotate_left
         ·simp only [Act.put, List.setIfInBounds_toArray, List.set_cons_zero, List.set_cons_succ, i64_w, i32_w, IntKind.wrap_u8, IntKind.wrap_u32]
          rfl
         refine pure_ (i := 42) (N := some 115) (v := undef) (a' := ?_) m43 rfl rfl (any_of HT_.out (by kernel_rfl)) (fun _ _ _ h => h) (Or.inr ⟨by rfl, rfl⟩) ?_ ?_
         rotate_left
         ·simp only [Act.put, List.setIfInBounds_toArray, List.set_cons_zero, List.set_cons_succ, i64_w, i32_w, IntKind.wrap_u8, IntKind.wrap_u32]
          rfl
         refine pure_ (i := 43) (N := some 116) (v := undef) (a' := ?_) m44 rfl rfl (any_of HT_.out (by kernel_rfl)) (fun _ _ _ h => h) (Or.inr ⟨by rfl, rfl⟩) ?_ ?_
         rotate_left
         ·simp only [Act.put, List.setIfInBounds_toArray, List.set_cons_zero, List.set_cons_succ, i64_w, i32_w, IntKind.wrap_u8, IntKind.wrap_u32]
          rfl
         refine pure_ (i := 44) (N := some 117) (v := undef) (a' := ?_) m53 rfl rfl (any_of HT_.out (by kernel_rfl)) (fun _ _ _ h => h) (Or.inr ⟨by rfl, rfl⟩) ?_ ?_
         rotate_left
         ·simp only [Act.put, List.setIfInBounds_toArray, List.set_cons_zero, List.set_cons_succ, i64_w, i32_w, IntKind.wrap_u8, IntKind.wrap_u32]
          rfl
         refine pure_ (i := 45) (N := some 118) (v := undef) (a' := ?_) m54 rfl rfl (any_of HT_.out (by kernel_rfl)) (fun _ _ _ h => h) (Or.inr ⟨by rfl, rfl⟩) ?_ ?_
         rotate_left
         ·simp only [Act.put, List.setIfInBounds_toArray, List.set_cons_zero, List.set_cons_succ, i64_w, i32_w, IntKind.wrap_u8, IntKind.wrap_u32]
          rfl
         refine pure_ (i := 46) (N := some 119) (v := undef) (a' := ?_) m47 rfl rfl (any_of HT_.out (by kernel_rfl)) (fun _ _ _ h => h) (Or.inr ⟨by rfl, rfl⟩) ?_ ?_
         rotate_left
         ·simp only [Act.put, List.setIfInBounds_toArray, List.set_cons_zero, List.set_cons_succ, i64_w, i32_w, IntKind.wrap_u8, IntKind.wrap_u32]
          rfl
         refine pure_ (i := 47) (N := some 120) (v := undef) (a' := ?_) m48 rfl rfl (any_of HT_.out (by kernel_rfl)) (fun _ _ _ h => h) (Or.inr ⟨by rfl, rfl⟩) ?_ ?_
         rotate_left
         ·simp only [Act.put, List.setIfInBounds_toArray, List.set_cons_zero, List.set_cons_succ, i64_w, i32_w, IntKind.wrap_u8, IntKind.wrap_u32]
          rfl
         refine pure_ (i := 48) (N := some 121) (v := undef) (a' := ?_) m49 rfl rfl (any_of HT_.out (by kernel_rfl)) (fun _ _ _ h => h) (Or.inr ⟨by rfl, rfl⟩) ?_ ?_
         rotate_left
         ·simp only [Act.put, List.setIfInBounds_toArray, List.set_cons_zero, List.set_cons_succ, i64_w, i32_w, IntKind.wrap_u8, IntKind.wrap_u32]
          rfl
         refine pure_ (i := 49) (N := some 122) (v := undef) (a' := ?_) m50 rfl rfl (any_of HT_.out (by kernel_rfl)) (fun _ _ _ h => h) (Or.inr ⟨by rfl, rfl⟩) ?_ ?_
         rotate_left
         ·simp only [Act.put, List.setIfInBounds_toArray, List.set_cons_zero, List.set_cons_succ, i64_w, i32_w, IntKind.wrap_u8, IntKind.wrap_u32]
          rfl
         refine pure_ (i := 50) (N := some 123) (v := ?_) (a' := ?_) m51 rfl rfl (any_of HT_.out (by kernel_rfl)) (fun _ _ _ h => h) (Or.inl ⟨by rfl, ?_⟩) ?_ ?_
         rotate_left
         ·intro w'
          go_simp
          with_reducible rfl
         rotate_left
         ·simp only [Act.put, List.setIfInBounds_toArray, List.set_cons_zero, List.set_cons_succ, i64_w, i32_w, IntKind.wrap_u8, IntKind.wrap_u32]
          rfl
         refine pure_ (i := 51) (N := some 10) (v := ?_) (a' := ?_) m52 rfl rfl (any_of HT_.out (by kernel_rfl)) (fun _ _ _ h => h) (Or.inl ⟨by rfl, ?_⟩) ?_ ?_
         rotate_left
         ·intro w'
          go_simp
          with_reducible rfl
         rotate_left
         ·simp only [Act.put, List.setIfInBounds_toArray, List.set_cons_zero, List.set_cons_succ, i64_w, i32_w, IntKind.wrap_u8, IntKind.wrap_u32]
          rfl
         refine done_ (done_of HT_.out (by kernel_rfl)) ?_
         try go_wp2
         go_ret
         exact ⟨by first | rfl | (simp [errW_none, errW_some] <;> rfl) | (simp only [← hji8, ← hji9]; first | rfl | (simp [errW_none, errW_some] <;> rfl)) | (simp [*, errW_none, errW_some] <;> rfl), by repeat (first | (with_reducible first | exact HB.out | apply bA | apply bN | apply bD | refine bS ?_ GE168.out | refine bS ?_ GE169.out | refine bS ?_ GE173.out | refine bS ?_ GE177.out) | exact HB.out)⟩
 ·replace c7 := Bool.eq_false_iff.mpr c7
  subst c7
  have H1 : (some false) = some r := by rw [if_neg (show ¬ (false = true) by decide)] at H; exact H
  clear H
  have H := H1
  clear H1
  obtain rfl := Option.some.inj H
  go_enter Tryd.func4, Tryd.ntmps4
  go_wp2_with (first | ((with_reducible refine gate_callee (f := 9) rfl ?_); refine goesL_ (some 18) rfl rfl Tryd.func9 (by kernel_rfl) rfl #[] rfl (by (try simp only [List.map_toArray, List.map_cons, List.map_nil]); first | done | rfl | (simp only [List.length_drop, List.length_take]; rfl)) ?_; (with_reducible refine (comitialaw06_examples.calls k  false _ ?side1 A6.out).mono ?_); (case side1 => first | (with_reducible exact HSC_.out) | exact Strconv.Tab.below HSC_.out (by repeat (first | (with_reducible first | exact HB.out | apply bA | apply bN | apply bD) | exact HB.out))); rintro e w84 ⟨rfl, hb⟩; refine ⟨_, rfl, ?_⟩; have n0_ := aM (below_step (by repeat (first | (with_reducible first | exact HB.out | apply bA | apply bN | apply bD) | exact HB.out)) hb); clear HB; have HB := n0_; clear n0_; (try clear hb); (try clear hb2); (try clear hk); (try clear hi)))
  go_ret
  exact ⟨by first | rfl | (simp [errW_none, errW_some] <;> rfl) | (simp [*, errW_none, errW_some] <;> rfl), by repeat (first | (with_reducible first | exact HB.out | apply bA | apply bN | apply bD) | exact HB.out)⟩

/-- THE ONE PURE STATEMENT of comitialaw06_BallotNext. -/
def comitialaw06_BallotNext.Pure : Prop := ∀ (a0 : Int) (a1 : Int) (a2 : Int) (a3 : Int) (a4 : Int), (Lit.int .u32 a0).wf = true → (Lit.int .u32 a1).wf = true → (Lit.int .u8 a2).wf = true → (Lit.int .u8 a3).wf = true → (Lit.int .u8 a4).wf = true → ∃ k, comitialaw06_BallotNext.f k a0 a1 a2 a3 a4 = some true

end Go.Proofs.YthjpnbjcldpklaaDoor.PBallotNext
