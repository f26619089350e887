/- Commands: what they are, in plain words, and what the functions come to that make them. -/
import Derived.Test.YthecdihimfddgaaE0
namespace Go.Proofs.Ythecdihimfddgaa.Nv
open Go
structure Cmd where
  op : Int
  client : Int
  seq : Int
  key : ByteArray
  value : ByteArray
  deriving DecidableEq
def Cmd.c (x : Cmd) : List NV := [.int .i64 x.op, .int .i64 x.client, .int .u32 x.seq, .str x.key, .str x.value]
theorem Cmd.ext' {a b : Cmd} : a = b ↔ a.op = b.op ∧ a.client = b.client ∧ a.seq = b.seq ∧ a.key = b.key ∧ a.value = b.value := by
  cases a; cases b; simp
theorem str_beq (s t : ByteArray) : (s.toList == t.toList) = decide (s = t) := by
  by_cases h : s = t
  · subst h; simp
  · have : ¬ s.toList = t.toList := fun q => h (ba_ext q)
    simp [h, this]
theorem int_beq (a b : Int) : (a == b) = decide (a = b) := by
  by_cases h : a = b <;> simp [h]
theorem eq_cmd (a b : Cmd) : eqL [.int, .int, .int, .str, .str] a.c b.c = some (decide (a = b)) := by
  have h : decide (a = b) = (decide (a.op = b.op) && (decide (a.client = b.client) && (decide (a.seq = b.seq) && (decide (a.key = b.key) && (decide (a.value = b.value) && true))))) := by
    rw [Bool.eq_iff_iff]
    simp [Cmd.ext']
  rw [h]
  simp only [Cmd.c, eqL, eqC, if_true, str_beq, int_beq]
def cmd0 : Cmd := ⟨0, 0, 0, ByteArray.empty, ByteArray.empty⟩
def rightCmd (x : Cmd) : Bool := decide (x = cmd0) || decide (1 ≤ x.op ∧ x.op ≤ 3 ∧ 1 ≤ x.client ∧ x.client ≤ 64 ∧ 1 ≤ x.seq ∧ x.key.size ≠ 0 ∧ x.key.size ≤ 16 ∧ x.value.size ≤ 32 ∧ (x.op = 1 ∨ x.value.size = 0))
theorem empty_iff {s : ByteArray} : s = ByteArray.empty ↔ s.size = 0 := ByteArray.size_eq_zero_iff.symm
theorem rightCmd_iff {x : Cmd} : rightCmd x = true ↔ x = cmd0 ∨ (1 ≤ x.op ∧ x.op ≤ 3 ∧ 1 ≤ x.client ∧ x.client ≤ 64 ∧ 1 ≤ x.seq ∧ x.key.size ≠ 0 ∧ x.key.size ≤ 16 ∧ x.value.size ≤ 32 ∧ (x.op = 1 ∨ x.value.size = 0)) := by
  unfold rightCmd
  rw [Bool.or_eq_true, decide_eq_true_eq, decide_eq_true_eq]
theorem rightCmd_t {x : Cmd} (h0 : ¬ x = cmd0) (h : 1 ≤ x.op ∧ x.op ≤ 3 ∧ 1 ≤ x.client ∧ x.client ≤ 64 ∧ 1 ≤ x.seq ∧ x.key.size ≠ 0 ∧ x.key.size ≤ 16 ∧ x.value.size ≤ 32 ∧ (x.op = 1 ∨ x.value.size = 0)) : true = rightCmd x := (rightCmd_iff.2 (.inr h)).symm
theorem rightCmd_f {x : Cmd} (h0 : ¬ x = cmd0) (h : ¬ (1 ≤ x.op ∧ x.op ≤ 3 ∧ 1 ≤ x.client ∧ x.client ≤ 64 ∧ 1 ≤ x.seq ∧ x.key.size ≠ 0 ∧ x.key.size ≤ 16 ∧ x.value.size ≤ 32 ∧ (x.op = 1 ∨ x.value.size = 0))) : false = rightCmd x := by
  cases hr : rightCmd x
  · rfl
  · exact absurd ((rightCmd_iff.1 hr).resolve_left h0) h
/-- How many ways out a test of two strings has, by their sizes. -/
theorem ne_empty {s : ByteArray} (h : ¬ s = ByteArray.empty) : s.size ≠ 0 := fun q => h (empty_iff.2 q)
end Go.Proofs.Ythecdihimfddgaa.Nv
