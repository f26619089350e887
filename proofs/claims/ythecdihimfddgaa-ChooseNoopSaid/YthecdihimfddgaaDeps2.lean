/- Sets of instances: what the functions come to. -/
import Derived.Test.YthecdihimfddgaaDeps1
namespace Go.Proofs.Ythecdihimfddgaa.Nv
open Go
def prev (l : List ID) : Nat → Option ID
  | 0 => none
  | j + 1 => l[j]?
theorem setFrom_step {l : List ID} {i : Nat} {x : ID} (hx : l[i]? = some x) : setFrom (prev l i) (l.drop i) = ((rightID x && (match prev l i with | none => true | some p => decide (order p x < 0))) && setFrom (prev l (i + 1)) (l.drop (i + 1))) := by
  obtain ⟨hi, rfl⟩ := List.getElem?_eq_some_iff.1 hx
  rw [List.drop_eq_getElem_cons hi]
  have h2 : prev l (i + 1) = some l[i] := hx
  rw [h2]
  cases i with
  | zero => simp [prev, setFrom]
  | succ j =>
    have : prev l (j + 1) = some l[j] := by simp [prev]
    rw [this]
    rfl
theorem map_get {α β : Type} {f : α → β} {l : List α} {i : Nat} {x : α} (h : l[i]? = some x) : (l.map f)[i]? = some (f x) := by rw [List.getElem?_map, h]; rfl
theorem map_nil {α β : Type} {f : α → β} {l : List α} : l.map f = [] ↔ l = [] := List.map_eq_nil_iff
theorem get_lt {α : Type} {l : List α} {i : Nat} (h : i < l.length) : ∃ x, l[i]? = some x := ⟨_, List.getElem?_eq_getElem h⟩
end Go.Proofs.Ythecdihimfddgaa.Nv
