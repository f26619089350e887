/- What the reference's printed checksum comes to. -/
import Derived.Test.YtogmnckhpokfhaaRunCrcSums
namespace Go.Proofs.Ytogmnckhpokfhaa.RunCrcSums
set_option linter.unusedSectionVars false
open Go Go.RowKit Go.Proofs.Ytogmnckhpokfhaa.PCrcSums Go.Proofs.YtogmnckhpokfhaaW.PrintWords Go.Proofs.YtogmnckhpokfhaaW.PrintLast Go.Proofs.Ytogmnckhpokfhaa.CrcMath

section
variable (s : ByteArray) (hs : s.size ≤ 281474976710656)
include hs
theorem ref_bit (k : Nat) (c : B32) (i j : Int) (h0 : 0 ≤ j) (h1 : j < 8) :
    comitiaref01_Add.l1 (k + 1) s (e c) i j = comitiaref01_Add.l1 k s (e (st c)) i (j + 1) := by
  rw [comitiaref01_Add.l1, if_pos h1, wrap_small (x := j + 1) (by omega) (by omega)]
  by_cases h : c.getLsbD 0 = true
  · rw [if_pos ((odd_e c).2 h), st_odd h]
  · rw [if_neg (fun z => h ((odd_e c).1 z)), st_even h]
theorem ref_byte (k : Nat) (c : B32) (i : Nat) (hi : i < s.size) :
    comitiaref01_Add.l0 (k + 10) s (e c) i = comitiaref01_Add.l0 k s (e (byt c (bt s i).toNat)) ((i + 1 : Nat) : Int) := by
  obtain ⟨b0, b1⟩ := bt_range s i
  have e1 : comitiaref01_Add.l0 (k + 10) s (e c) i = comitiaref01_Add.l1 (k + 9) s (e (c ^^^ BitVec.ofNat 32 (bt s i).toNat)) i 0 := by
    rw [show k + 10 = k + 9 + 1 by omega]
    rw [comitiaref01_Add.l0, if_pos (by omega), if_pos (by omega), byte_e b0 b1]
  rw [e1]
  rw [show k + 9 = k + 8 + 1 by omega, ref_bit s hs _ _ _ 0 (by omega) (by omega)]
  rw [show k + 8 = k + 7 + 1 by omega, ref_bit s hs _ _ _ _ (by omega) (by omega)]
  rw [show k + 7 = k + 6 + 1 by omega, ref_bit s hs _ _ _ _ (by omega) (by omega)]
  rw [show k + 6 = k + 5 + 1 by omega, ref_bit s hs _ _ _ _ (by omega) (by omega)]
  rw [show k + 5 = k + 4 + 1 by omega, ref_bit s hs _ _ _ _ (by omega) (by omega)]
  rw [show k + 4 = k + 3 + 1 by omega, ref_bit s hs _ _ _ _ (by omega) (by omega)]
  rw [show k + 3 = k + 2 + 1 by omega, ref_bit s hs _ _ _ _ (by omega) (by omega)]
  rw [show k + 2 = k + 1 + 1 by omega, ref_bit s hs _ _ _ _ (by omega) (by omega)]
  rw [comitiaref01_Add.l1, if_neg (by omega), wrap_small (x := (i : Int) + 1) (by omega) (by omega)]
  rfl
theorem ref_run (d : Nat) : ∀ (k : Nat) (c : B32) (i : Nat), i + d = s.size → 10 * d < k → comitiaref01_Add.l0 k s (e c) i = some (e (~~~ (fold c ((L s).drop i)))) := by
  induction d with
  | zero =>
    intro k c i hi hk
    obtain ⟨k, rfl⟩ : ∃ m, k = m + 1 := ⟨k - 1, by omega⟩
    rw [comitiaref01_Add.l0, if_neg (by omega), not_e, List.drop_of_length_le (by rw [L_length]; omega)]
    rfl
  | succ d ih =>
    intro k c i hi hk
    obtain ⟨k, rfl⟩ : ∃ m, k = m + 10 := ⟨k - 10, by omega⟩
    rw [ref_byte s hs k c i (by omega), ih k _ (i + 1) (by omega) (by omega), L_drop s i (by omega)]
    rfl
end
theorem ref_add_ok (s : ByteArray) (hs : s.size ≤ 281474976710656) (k : Nat) (hk : 24 * s.size < k) (c : B32) : comitiaref01_Add.f k (e c) s = some (e (add c (L s))) := by
  unfold comitiaref01_Add.f
  rw [not_e]
  exact ref_run s hs s.size k (~~~ c) 0 (by omega) (by omega)
theorem ref_sum_ok (s : ByteArray) (hs : s.size ≤ 281474976710656) (k : Nat) (hk : 24 * s.size < k) : comitiaref01_Sum.f k s = some (e (add 0#32 (L s))) := by
  unfold comitiaref01_Sum.f
  have h := ref_add_ok s hs k hk 0#32
  have : e 0#32 = 0 := by decide
  rw [this] at h
  rw [h]
  rfl
end Go.Proofs.Ytogmnckhpokfhaa.RunCrcSums
