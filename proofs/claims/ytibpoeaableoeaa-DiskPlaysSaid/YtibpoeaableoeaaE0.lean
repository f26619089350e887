/- The relation that all contracts speak of, with strings.Join; what is the chapter's own example. -/
import Derived.Test.YtibpoeaableoeaaXJoin
namespace Go.Proofs.Ytibpoeaableoeaa.Nv
open Go
def X0 : FuncId → List NV → NV → Prop := XJ
theorem X0_ok : XOk Try.prog X0 := XJ_ok
abbrev E0 := EvF F X0
theorem examples_ev : evX F xjF 2000 9 [] [] = some (.bool true, []) := by kernel_rfl
theorem c_examples (m : Mem) : E0 9 [] m (.bool true) m := EvF.any (EvF.evx xjF_ok 2000 examples_ev) m
theorem c_Join {a : NV} {xs : List ByteArray} {sep : ByteArray} {sz : Nat} (h1 : rowsOf a = some (sz, xs.map strR)) (h2 : sz = 1 ∨ xs = []) (h3 : xs.length ≤ 140737488355328) (h4 : (joinB xs sep).size ≤ 140737488355328) (m : Mem) : E0 27 [a, .str sep] m (.str (joinB xs sep)) m :=
  ⟨1, .inl ⟨⟨rfl, a, xs, sep, sz, rfl, h1, h2, h3, h4, rfl⟩, rfl⟩⟩
end Go.Proofs.Ytibpoeaableoeaa.Nv
