/- What one appends to, in any frame: rules. Of no program. -/
import Derived.Test.YtibpoeaableoeaaNvB
namespace Go.Proofs.Ytibpoeaableoeaa.Nv
open Go
/-- A part by itself, with what its slots hold behind it. -/
theorem W.seqI {K : Rel4} {e : Env} {m : Mem} {Q : Post} {a b : NC} (mm : Mem) (l : List (Nat × NV)) (h : W K a e m fun x e' m' => x = .normal ∧ m' = mm ∧ Pinned e' l) (h2 : ∀ e', W K b (pins e' l) mm Q) : W K (.seq a b) e m Q := by
  refine W.seq (h.mono fun x e' m' hq => ?_)
  obtain ⟨rfl, rfl, hp⟩ := hq
  show W K b e' m' Q
  have := h2 e'
  rwa [pins_eq hp] at this
theorem map_get {α β : Type} {f : α → β} {l : List α} {i : Nat} {x : α} (h : l[i]? = some x) : (l.map f)[i]? = some (f x) := by rw [List.getElem?_map, h]; rfl
theorem get_lt {α : Type} {l : List α} {i : Nat} (h : i < l.length) : ∃ x, l[i]? = some x := ⟨_, List.getElem?_eq_getElem h⟩
theorem map_nil {α β : Type} {f : α → β} {l : List α} : l.map f = [] ↔ l = [] := by simp
theorem take_succ_get {α : Type} {l : List α} {k : Nat} {x : α} (h : l[k]? = some x) : l.take (k + 1) = l.take k ++ [x] := by
  obtain ⟨hi, rfl⟩ := List.getElem?_eq_some_iff.1 h
  exact List.take_succ_eq_append_getElem hi
theorem rows_map {α : Type} {f : α → List NV} {P : α → Prop} : ∀ {rows : List (List NV)}, (∀ r ∈ rows, ∃ x, r = f x ∧ P x) → ∃ xs : List α, rows = xs.map f ∧ ∀ x ∈ xs, P x
  | [], _ => ⟨[], rfl, fun x h => by simp at h⟩
  | r :: rows, h => by
    obtain ⟨x, rfl, hx⟩ := h r (List.mem_cons_self ..)
    obtain ⟨xs, rfl, hxs⟩ := rows_map (f := f) (P := P) (rows := rows) fun r hr => h r (List.mem_cons_of_mem _ hr)
    exact ⟨x :: xs, rfl, fun y hy => by rcases List.mem_cons.1 hy with rfl | hy; exact hx; exact hxs y hy⟩
end Go.Proofs.Ytibpoeaableoeaa.Nv
