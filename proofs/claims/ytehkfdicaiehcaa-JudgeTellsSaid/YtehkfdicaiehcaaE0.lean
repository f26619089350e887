/- The relation that all contracts speak of; what is the chapter's own example. -/
import Derived.Test.YtehkfdicaiehcaaNvB
import Derived.Test.YtehkfdicaiehcaaNf
namespace Go.Proofs.Ytehkfdicaiehcaa.Nv
open Go
def X0 : FuncId → List NV → NV → Prop := fun _ _ _ => False
abbrev E0 := EvF F X0
theorem examples_ev : evF F 2000 8 [] [] = some (.bool true, []) := by kernel_rfl
theorem c_examples (m : Mem) : E0 8 [] m (.bool true) m := EvF.any (EvF.ev 2000 examples_ev) m
end Go.Proofs.Ytehkfdicaiehcaa.Nv
