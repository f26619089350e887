import Derived.Lib.ItoaMem
import Derived.Lib.SmallJoins
import Derived.Laws.Strings
import Derived.WideShapes
import Derived.OpenShut
/- Numerals are told apart: plain Lean, of no program. -/
namespace Go.Proofs.YtlljdocflfpnkaaDoor.Digits
open Go.Lib
set_option linter.unusedVariables false

theorem digit_mem (u : Nat) : ∀ c ∈ decDigits u, 48 ≤ c.toNat ∧ c.toNat ≤ 57 := by
  induction u using Nat.strongRecOn with
  | _ u ih =>
    intro c hc
    by_cases h : u < 10
    · rw [decDigits, dif_pos h, List.mem_singleton] at hc
      subst hc
      rw [UInt8.toNat_ofNat_of_lt' (by simp [UInt8.size]; omega)]; omega
    · rw [decDigits, dif_neg h, List.mem_append, List.mem_singleton] at hc
      rcases hc with hc | hc
      · exact ih (u / 10) (by omega) c hc
      · subst hc
        rw [UInt8.toNat_ofNat_of_lt' (by simp [UInt8.size]; omega)]; omega

def valD (l : List UInt8) : Nat := l.foldl (fun n c => 10 * n + (c.toNat - 48)) 0

theorem valD_dec (u : Nat) : valD (decDigits u) = u := by
  induction u using Nat.strongRecOn with
  | _ u ih =>
    by_cases h : u < 10
    · rw [decDigits, dif_pos h]
      show 10 * 0 + ((UInt8.ofNat (48 + u)).toNat - 48) = u
      rw [UInt8.toNat_ofNat_of_lt' (by simp [UInt8.size]; omega)]; omega
    · have e := ih (u / 10) (by omega)
      rw [decDigits, dif_neg h]
      unfold valD at e ⊢
      rw [List.foldl_append, e]
      show 10 * (u / 10) + ((UInt8.ofNat (48 + u % 10)).toNat - 48) = u
      rw [UInt8.toNat_ofNat_of_lt' (by simp [UInt8.size]; omega)]; omega

theorem dec_inj {a b : Nat} (h : decDigits a = decDigits b) : a = b := by
  rw [← valD_dec a, ← valD_dec b, h]

theorem nDigits_le : ∀ (k u : Nat), 1 ≤ k → u < 10 ^ k → nDigits u ≤ k
  | 0, u, h, _ => absurd h (by decide)
  | k + 1, u, _, h2 => by
    by_cases h : u < 10
    · rw [nDigits_small h]; omega
    · rw [nDigits_big h]
      cases k with
      | zero => exact absurd (by simpa using h2) h
      | succ k =>
        have := nDigits_le (k + 1) (u / 10) (by omega) (by rw [Nat.pow_succ] at h2; omega)
        omega

theorem dec_len {u : Nat} (h : u < 10 ^ 20) : (decDigits u).length ≤ 20 := by
  rw [decDigits_length]; exact nDigits_le 20 u (by decide) h

theorem itoa_len {n : Int} (h1 : -9223372036854775808 ≤ n) (h2 : n ≤ 9223372036854775807) : (itoa n).length ≤ 21 := by
  unfold itoa; split
  · have := dec_len (u := n.natAbs) (by omega); simp; omega
  · have := dec_len (u := n.toNat) (by omega); omega

theorem dec_ne_nil (u : Nat) : decDigits u ≠ [] := by
  intro h
  have := decDigits_length u
  rw [h] at this
  have := nDigits_pos u
  simp at *; omega

theorem itoa_inj {a b : Int} (h : itoa a = itoa b) : a = b := by
  unfold itoa at h
  have no : ∀ (u v : Nat), 45 :: decDigits u ≠ decDigits v := by
    intro u v e
    have := digit_mem v 45 (by rw [← e]; exact List.mem_cons_self ..)
    simp at this
  by_cases ha : a < 0
  · by_cases hb : b < 0
    · rw [if_pos ha, if_pos hb] at h
      have := dec_inj (List.cons.inj h).2
      omega
    · rw [if_pos ha, if_neg hb] at h; exact absurd h (no _ _)
  · by_cases hb : b < 0
    · rw [if_neg ha, if_pos hb] at h; exact absurd h.symm (no _ _)
    · rw [if_neg ha, if_neg hb] at h
      have := dec_inj h
      omega

/-- A list is told apart at the first byte that its head does not hold. -/
theorem split_at (c : UInt8) : ∀ {a b x y : List UInt8}, (∀ z ∈ a, z ≠ c) → (∀ z ∈ b, z ≠ c) → a ++ c :: x = b ++ c :: y → a = b ∧ x = y
  | [], [], x, y, _, _, h => ⟨rfl, (List.cons.inj h).2⟩
  | [], b :: bs, x, y, _, hb, h => absurd (List.cons.inj h).1.symm (hb b (List.mem_cons_self ..))
  | a :: as, [], x, y, ha, _, h => absurd (List.cons.inj h).1 (ha a (List.mem_cons_self ..))
  | a :: as, b :: bs, x, y, ha, hb, h => by
    obtain ⟨h1, h2⟩ := List.cons.inj h
    obtain ⟨e1, e2⟩ := split_at c (fun z hz => ha z (List.mem_cons_of_mem _ hz)) (fun z hz => hb z (List.mem_cons_of_mem _ hz)) h2
    exact ⟨by rw [h1, e1], e2⟩

theorem dec_no (u : Nat) {c : UInt8} (hc : c.toNat < 48 ∨ 57 < c.toNat) : ∀ z ∈ decDigits u, z ≠ c := by
  intro z hz e
  subst e
  have := digit_mem u z hz
  omega
theorem itoa_no (n : Int) {c : UInt8} (hc : c.toNat < 45 ∨ c.toNat = 46 ∨ c.toNat = 47 ∨ 57 < c.toNat) : ∀ z ∈ itoa n, z ≠ c := by
  intro z hz e
  subst e
  unfold itoa at hz
  split at hz
  · rcases List.mem_cons.mp hz with e | hz
    · subst e; revert hc; decide
    · have := digit_mem _ z hz; omega
  · have := digit_mem _ z hz; omega

theorem mk_toList (l : List UInt8) : (⟨l.toArray⟩ : ByteArray).toList = l := by
  rw [ByteArray.toList_eq]
theorem append_toList (a b : ByteArray) : (a ++ b).toList = a.toList ++ b.toList := by
  rw [ByteArray.toList_eq, ByteArray.toList_eq, ByteArray.toList_eq, ByteArray.data_append, Array.toList_append]
theorem toList_inj {a b : ByteArray} (h : a.toList = b.toList) : a = b := by
  rw [ByteArray.toList_eq, ByteArray.toList_eq] at h; exact Go.WideShapes.bytes_inj h
theorem size_toList (a : ByteArray) : a.size = a.toList.length := by
  rw [ByteArray.toList_eq, Array.length_toList]; rfl
theorem wrap_u64 {a : Int} (h1 : 0 ≤ a) (h2 : a < 18446744073709551616) : IntKind.u64.wrap a = a := by
  unfold IntKind.wrap; simp [IntKind.bits, IntKind.signed]; omega

end Go.Proofs.YtlljdocflfpnkaaDoor.Digits
