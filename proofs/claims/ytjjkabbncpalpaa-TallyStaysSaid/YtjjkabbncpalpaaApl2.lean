/- A part of a run by itself. Of no program. -/
import Derived.Test.YtjjkabbncpalpaaNvB
namespace Go.Proofs.Ytjjkabbncpalpaa.Nv
open Go
theorem W.seqI {K : Rel4} {e : Env} {m : Mem} {Q : Post} {a b : NC} (mm : Mem) (l : List (Nat × NV)) (h : W K a e m fun x e' m' => x = .normal ∧ m' = mm ∧ Pinned e' l) (h2 : ∀ e', W K b (pins e' l) mm Q) : W K (.seq a b) e m Q := by
  refine W.seq (h.mono fun x e' m' hq => ?_)
  obtain ⟨rfl, rfl, hp⟩ := hq
  show W K b e' m' Q
  have := h2 e'
  rwa [pins_eq hp] at this
end Go.Proofs.Ytjjkabbncpalpaa.Nv
