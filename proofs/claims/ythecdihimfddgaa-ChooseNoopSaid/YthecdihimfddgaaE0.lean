/- The relation that all contracts speak of, where there are sets too; what is the chapter's own example. -/
import Derived.Test.YthecdihimfddgaaGo1
namespace Go.Proofs.Ythecdihimfddgaa.Nv
open Go
theorem examples_ev : evF F 2000 9 [] [] = some (.bool true, []) := by kernel_rfl
theorem c_examples (m : Mem) : E0 9 [] m (.bool true) m := EvF.any (EvF.ev 2000 examples_ev) m
end Go.Proofs.Ythecdihimfddgaa.Nv
