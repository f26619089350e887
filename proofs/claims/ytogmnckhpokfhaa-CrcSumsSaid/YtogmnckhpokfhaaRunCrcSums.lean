/- What the two printed checksums come to: the fold of CrcMath over the text's bytes. -/
import Derived.Test.YtogmnckhpokfhaaPCrcSumsx1
import Derived.Test.YtogmnckhpokfhaaCrcMath
namespace Go.Proofs.Ytogmnckhpokfhaa.RunCrcSums
set_option linter.unusedSectionVars false
open Go Go.RowKit Go.Proofs.Ytogmnckhpokfhaa.PCrcSums Go.Proofs.YtogmnckhpokfhaaW.PrintWords Go.Proofs.YtogmnckhpokfhaaW.PrintLast Go.Proofs.Ytogmnckhpokfhaa.CrcMath

def L (s : ByteArray) : List Nat := s.data.toList.map UInt8.toNat
theorem L_length (s : ByteArray) : (L s).length = s.size := by unfold L; rw [List.length_map, Array.length_toList]; rfl
theorem L_drop (s : ByteArray) (i : Nat) (h : i < s.size) : (L s).drop i = (bt s i).toNat :: (L s).drop (i + 1) := by
  have hl : i < (L s).length := by rw [L_length]; exact h
  rw [List.drop_eq_getElem_cons hl]
  congr 1
  have hb : bt s (i : Int) = ((s[i]'h).toNat : Int) := by
    unfold bt
    rw [Int.toNat_natCast, dif_pos h]
  rw [hb, Int.toNat_natCast]
  simp [L]
  rfl

theorem wrap_small {x : Int} (h0 : -9223372036854775808 ≤ x) (h1 : x < 9223372036854775808) : wrap64 x = x := by
  unfold wrap64; omega

section
variable (s : ByteArray) (hs : s.size ≤ 281474976710656)
include hs
theorem bit_first (k : Nat) (c : B32) (i : Nat) (hi : i < s.size) :
    crc_Add.l0 (k + 3) (e c) s i 0 = crc_Add.l0 k (e (st (c ^^^ BitVec.ofNat 32 (bt s i).toNat))) s i 1 := by
  obtain ⟨b0, b1⟩ := bt_range s i
  rw [crc_Add.l0, if_neg (by omega), if_pos rfl, if_pos (by omega), if_pos (by omega), byte_e b0 b1, crc_Add.j1]
  rw [wrap_small (x := 0 + 1) (by omega) (by omega), step_e]
  have e2 : Int.tmod (0 + 1) 8 = 1 := by decide
  rw [e2, if_neg (by omega), crc_Add.j2]
theorem bit_next (k : Nat) (c : B32) (i : Nat) (hi : i < s.size) (b : Int) (h1 : 1 ≤ b) (h2 : b ≤ 6) :
    crc_Add.l0 (k + 3) (e c) s i b = crc_Add.l0 k (e (st c)) s i (b + 1) := by
  rw [crc_Add.l0, if_neg (by omega), if_neg (by omega), crc_Add.j1, wrap_small (x := b + 1) (by omega) (by omega), step_e]
  have e2 : Int.tmod (b + 1) 8 = b + 1 := by rw [Int.tmod_eq_emod_of_nonneg (by omega)]; omega
  rw [e2, if_neg (by omega), crc_Add.j2]
theorem bit_last (k : Nat) (c : B32) (i : Nat) (hi : i < s.size) :
    crc_Add.l0 (k + 3) (e c) s i 7 = crc_Add.l0 k (e (st c)) s ((i + 1 : Nat) : Int) 0 := by
  have e2 : Int.tmod (7 + 1) 8 = 0 := by decide
  rw [crc_Add.l0, if_neg (by omega), if_neg (by omega), crc_Add.j1, wrap_small (x := 7 + 1) (by omega) (by omega), step_e, e2, if_pos rfl, crc_Add.j2, wrap_small (x := (i : Int) + 1) (by omega) (by omega)]
  rfl
theorem one_byte (k : Nat) (c : B32) (i : Nat) (hi : i < s.size) :
    crc_Add.l0 (k + 24) (e c) s i 0 = crc_Add.l0 k (e (byt c (bt s i).toNat)) s ((i + 1 : Nat) : Int) 0 := by
  have a0 := bit_first s hs (k + 21) c i hi
  have a1 := fun c => bit_next s hs (k + 18) c i hi 1 (by omega) (by omega)
  have a2 := fun c => bit_next s hs (k + 15) c i hi 2 (by omega) (by omega)
  have a3 := fun c => bit_next s hs (k + 12) c i hi 3 (by omega) (by omega)
  have a4 := fun c => bit_next s hs (k + 9) c i hi 4 (by omega) (by omega)
  have a5 := fun c => bit_next s hs (k + 6) c i hi 5 (by omega) (by omega)
  have a6 := fun c => bit_next s hs (k + 3) c i hi 6 (by omega) (by omega)
  have a7 := fun c => bit_last s hs k c i hi
  rw [show k + 24 = k + 21 + 3 by omega, a0]
  rw [show k + 21 = k + 18 + 3 by omega, a1, show (1 : Int) + 1 = 2 by rfl]
  rw [show k + 18 = k + 15 + 3 by omega, a2, show (2 : Int) + 1 = 3 by rfl]
  rw [show k + 15 = k + 12 + 3 by omega, a3, show (3 : Int) + 1 = 4 by rfl]
  rw [show k + 12 = k + 9 + 3 by omega, a4, show (4 : Int) + 1 = 5 by rfl]
  rw [show k + 9 = k + 6 + 3 by omega, a5, show (5 : Int) + 1 = 6 by rfl]
  rw [show k + 6 = k + 3 + 3 by omega, a6, show (6 : Int) + 1 = 7 by rfl]
  rw [a7]
  rfl
theorem add_run (d : Nat) : ∀ (k : Nat) (c : B32) (i : Nat), i + d = s.size → 24 * d < k → crc_Add.l0 k (e c) s i 0 = some (e (~~~ (fold c ((L s).drop i)))) := by
  induction d with
  | zero =>
    intro k c i hi hk
    obtain ⟨k, rfl⟩ : ∃ m, k = m + 1 := ⟨k - 1, by omega⟩
    rw [crc_Add.l0, if_pos (by omega), not_e, List.drop_of_length_le (by rw [L_length]; omega)]
    rfl
  | succ d ih =>
    intro k c i hi hk
    obtain ⟨k, rfl⟩ : ∃ m, k = m + 24 := ⟨k - 24, by omega⟩
    rw [one_byte s hs k c i (by omega), ih k _ (i + 1) (by omega) (by omega), L_drop s i (by omega)]
    rfl
end

/-- The sum's value: all bits turned, the bytes taken in, all bits turned. -/
def add (c : B32) (l : List Nat) : B32 := ~~~ (fold (~~~ c) l)
theorem add_ok (s : ByteArray) (hs : s.size ≤ 281474976710656) (k : Nat) (hk : 24 * s.size < k) (c : B32) : crc_Add.f k (e c) s = some (e (add c (L s))) := by
  unfold crc_Add.f
  rw [not_e]
  exact add_run s hs s.size k (~~~ c) 0 (by omega) hk
theorem sum_ok (s : ByteArray) (hs : s.size ≤ 281474976710656) (k : Nat) (hk : 24 * s.size < k) : crc_Sum.f k s = some (e (add 0#32 (L s))) := by
  unfold crc_Sum.f
  have h := add_ok s hs k hk 0#32
  have : e 0#32 = 0 := by decide
  rw [this] at h
  rw [h]
  rfl
theorem check_ok (s : ByteArray) (hs : s.size ≤ 281474976710656) (k : Nat) (hk : 24 * s.size < k) (n : Int) : crc_Check.f k s n = some (e (add 0#32 (L s)) == n) := by
  unfold crc_Check.f
  rw [sum_ok s hs k hk]
  rfl
theorem examples_at : comitialaw01_examples.f 300 = some true := by decide +kernel
theorem examples_ok (k : Nat) (hk : 300 ≤ k) : comitialaw01_examples.f k = some true := by
  obtain ⟨j, rfl⟩ : ∃ j, k = 300 + j := ⟨k - 300, by omega⟩
  clear hk
  induction j with
  | zero => exact examples_at
  | succ j ih => exact comitialaw01_examples.mono _ _ ih
end Go.Proofs.Ytogmnckhpokfhaa.RunCrcSums
