/- What instances and their sets are, in plain words. Of no program. -/
import Derived.Test.YthecdihimfddgaaNvB
namespace Go.Proofs.Ythecdihimfddgaa.Nv
open Go
structure ID where
  o : Int
  n : Int
  deriving DecidableEq
def ID.c (x : ID) : List NV := [.int .i64 x.o, .int .i64 x.n]
def cmpI (a b : Int) : Int := if a < b then -1 else if b < a then 1 else 0
def orI (a b : Int) : Int := if a ≠ 0 then a else b
def order (a b : ID) : Int := orI (cmpI a.o b.o) (cmpI a.n b.n)
def rightID (x : ID) : Bool := decide (1 ≤ x.o ∧ x.o ≤ 7 ∧ 1 ≤ x.n ∧ x.n ≤ 16777215)
/-- A list that goes on behind p. -/
def setFrom : Option ID → List ID → Bool
  | _, [] => true
  | none, x :: l => rightID x && setFrom (some x) l
  | some p, x :: l => (rightID x && decide (order p x < 0)) && setFrom (some x) l
def isSet (l : List ID) : Bool := setFrom none l
def merge (second : Bool) : List ID → List ID → List ID
  | [], [] => []
  | [], b :: bs => (if second then [b] else []) ++ merge second [] bs
  | a :: as, [] => a :: merge second as []
  | a :: as, b :: bs => if order a b < 0 then a :: merge second as (b :: bs) else (if second then [b] else []) ++ (if order a b = 0 then merge second as bs else merge second (a :: as) bs)
  termination_by a b => a.length + b.length
theorem cmpI_lt {a b : Int} : cmpI a b < 0 ↔ a < b := by unfold cmpI; split <;> (try split) <;> omega
theorem cmpI_zero {a b : Int} : cmpI a b = 0 ↔ a = b := by unfold cmpI; split <;> (try split) <;> omega
theorem order_lt {a b : ID} : order a b < 0 ↔ a.o < b.o ∨ a.o = b.o ∧ a.n < b.n := by
  unfold order orI
  split
  · rename_i h; rw [cmpI_lt]; rw [Ne, cmpI_zero] at h; omega
  · rename_i h; rw [cmpI_lt]; rw [Ne, Decidable.not_not, cmpI_zero] at h; omega
theorem order_zero {a b : ID} : order a b = 0 ↔ a = b := by
  obtain ⟨ao, an⟩ := a
  obtain ⟨bo, bn⟩ := b
  show orI (cmpI ao bo) (cmpI an bn) = 0 ↔ _
  simp only [ID.mk.injEq]
  have h1 : cmpI ao bo = 0 ↔ ao = bo := cmpI_zero
  have h2 : cmpI an bn = 0 ↔ an = bn := cmpI_zero
  unfold orI
  split <;> omega
theorem cmpI_cases (a b : Int) : cmpI a b = -1 ∨ cmpI a b = 0 ∨ cmpI a b = 1 := by unfold cmpI; split <;> (try split) <;> simp
theorem order_cases (a b : ID) : order a b = -1 ∨ order a b = 0 ∨ order a b = 1 := by
  unfold order orI
  split
  · exact cmpI_cases _ _
  · exact cmpI_cases _ _
end Go.Proofs.Ythecdihimfddgaa.Nv
