/- The checksum's laws: bursts, that it is linear: plain mathematics. -/
import Derived.Test.YtogmnckhpokfhaaC3
namespace Go.Proofs.Ytogmnckhpokfhaa.Nv
open Go Go.Proofs.Ytogmnckhpokfhaa.CrcMath
theorem shl_st {E : B32} {n : Nat} (h : E.toNat * 2 ^ (n + 1) < 4294967296) : st (E <<< (n + 1)) = E <<< n := by
  have hp : E.toNat * 2 ^ (n + 1) = 2 * (E.toNat * 2 ^ n) := by rw [Nat.pow_succ]; ac_rfl
  have h1 : (E <<< (n + 1)).toNat = E.toNat * 2 ^ (n + 1) := by
    rw [BitVec.toNat_shiftLeft, Nat.shiftLeft_eq, Nat.mod_eq_of_lt h]
  have h2 : (E <<< n).toNat = E.toNat * 2 ^ n := by
    rw [BitVec.toNat_shiftLeft, Nat.shiftLeft_eq, Nat.mod_eq_of_lt (by omega)]
  have h3 : (E <<< (n + 1)).getLsbD 0 = false := by simp
  unfold st
  rw [h3]
  apply BitVec.eq_of_toNat_eq
  simp only [Bool.false_eq_true, if_false, BitVec.xor_zero]
  rw [BitVec.toNat_ushiftRight, h1, h2, Nat.shiftRight_eq_div_pow, hp]
  omega
theorem st8_shl {E : B32} (h : E.toNat < 16777216) : st8 (E <<< 8) = E := by
  unfold st8
  rw [shl_st (n := 7) (by omega), shl_st (n := 6) (by omega), shl_st (n := 5) (by omega), shl_st (n := 4) (by omega), shl_st (n := 3) (by omega), shl_st (n := 2) (by omega), shl_st (n := 1) (by omega), shl_st (n := 0) (by omega)]
  simp
abbrev B (x : Nat) : B32 := BitVec.ofNat 32 x
def word (x0 x1 x2 x3 : Nat) : B32 := B x0 ^^^ B x1 <<< 8 ^^^ B x2 <<< 16 ^^^ B x3 <<< 24
theorem B_lt {x : Nat} (h : x < 256) (n : Nat) (hn : n ≤ 16) : (B x <<< n).toNat < 16777216 := by
  rw [BitVec.toNat_shiftLeft, Nat.shiftLeft_eq, BitVec.toNat_ofNat, Nat.mod_eq_of_lt (a := x) (by omega)]
  have h2 : 2 ^ n ≤ 2 ^ 16 := Nat.pow_le_pow_right (by omega) hn
  have h3 : x * 2 ^ n ≤ 255 * 2 ^ 16 := Nat.mul_le_mul (by omega) h2
  rw [Nat.mod_eq_of_lt (by omega)]
  omega
theorem fold4 {c : B32} {x0 x1 x2 x3 : Nat} (h0 : x0 < 256) (h1 : x1 < 256) (h2 : x2 < 256) (h3 : x3 < 256) : fold c [x0, x1, x2, x3] = st8 (st8 (st8 (st8 (c ^^^ word x0 x1 x2 x3)))) := by
  have e1 : st8 (B x1 <<< 8) = B x1 := st8_shl (by simpa using B_lt h1 0 (by omega))
  have e2 : st8 (B x2 <<< 16) = B x2 <<< 8 := by
    have := st8_shl (E := B x2 <<< 8) (B_lt h2 8 (by omega))
    rwa [← BitVec.shiftLeft_add] at this
  have e2' : st8 (B x2 <<< 8) = B x2 := st8_shl (by simpa using B_lt h2 0 (by omega))
  have e3 : st8 (B x3 <<< 24) = B x3 <<< 16 := by
    have := st8_shl (E := B x3 <<< 16) (B_lt h3 16 (by omega))
    rwa [← BitVec.shiftLeft_add] at this
  have e3' : st8 (B x3 <<< 16) = B x3 <<< 8 := by
    have := st8_shl (E := B x3 <<< 8) (B_lt h3 8 (by omega))
    rwa [← BitVec.shiftLeft_add] at this
  have e3'' : st8 (B x3 <<< 8) = B x3 := st8_shl (by simpa using B_lt h3 0 (by omega))
  show byt (byt (byt (byt c x0) x1) x2) x3 = _
  unfold byt word
  simp only [st8_xor, e1, e2, e2', e3, e3', e3'']
  ac_rfl
theorem word_bit {x0 x1 x2 x3 : Nat} (h0 : x0 < 256) (h1 : x1 < 256) (h2 : x2 < 256) (h3 : x3 < 256) (j : Nat) (hj : j < 8) :
    (word x0 x1 x2 x3).getLsbD j = x0.testBit j ∧ (word x0 x1 x2 x3).getLsbD (8 + j) = x1.testBit j ∧ (word x0 x1 x2 x3).getLsbD (16 + j) = x2.testBit j ∧ (word x0 x1 x2 x3).getLsbD (24 + j) = x3.testBit j := by
  have big : ∀ {x : Nat} (_ : x < 256) (n : Nat) (_ : 8 ≤ n), x.testBit n = false := fun {x} hx n hn => Nat.testBit_lt_two_pow (Nat.lt_of_lt_of_le hx (Nat.pow_le_pow_right (n := 2) (by omega) hn))
  unfold word B
  simp only [BitVec.getLsbD_xor, BitVec.getLsbD_shiftLeft, BitVec.getLsbD_ofNat]
  refine ⟨?_, ?_, ?_, ?_⟩
  · simp [show j < 32 by omega, show j < 8 by omega, show j < 16 by omega, show j < 24 by omega]
  · simp [show 8 + j < 32 by omega, show ¬ 8 + j < 8 by omega, show 8 + j < 16 by omega, show 8 + j < 24 by omega, big h0 (8 + j) (by omega), show 8 + j - 8 = j by omega, show j < 32 by omega]
  · simp [show 16 + j < 32 by omega, show ¬ 16 + j < 8 by omega, show ¬ 16 + j < 16 by omega, show 16 + j < 24 by omega, big h0 (16 + j) (by omega), big h1 (16 + j - 8) (by omega), show 16 + j - 16 = j by omega, show j < 32 by omega]
  · simp [show 24 + j < 32 by omega, show ¬ 24 + j < 8 by omega, show ¬ 24 + j < 16 by omega, show ¬ 24 + j < 24 by omega, big h0 (24 + j) (by omega), big h1 (24 + j - 8) (by omega), big h2 (24 + j - 16) (by omega), show 24 + j - 24 = j by omega, show j < 32 by omega]
theorem byte_ext {x y : Nat} (hx : x < 256) (hy : y < 256) (h : ∀ j, j < 8 → x.testBit j = y.testBit j) : x = y := by
  apply Nat.eq_of_testBit_eq
  intro j
  rcases Nat.lt_or_ge j 8 with hj | hj
  · exact h j hj
  · rw [Nat.testBit_lt_two_pow (Nat.lt_of_lt_of_le hx (Nat.pow_le_pow_right (n := 2) (by omega) hj)), Nat.testBit_lt_two_pow (Nat.lt_of_lt_of_le hy (Nat.pow_le_pow_right (n := 2) (by omega) hj))]
theorem xor_cancel {c a b : B32} (h : c ^^^ a = c ^^^ b) : a = b := by
  have : c ^^^ (c ^^^ a) = c ^^^ (c ^^^ b) := by rw [h]
  rwa [← BitVec.xor_assoc, ← BitVec.xor_assoc, BitVec.xor_self, BitVec.zero_xor, BitVec.zero_xor] at this
/-- Four bytes side by side: they are told by the sum. -/
theorem four_inj {c : B32} {x0 x1 x2 x3 y0 y1 y2 y3 : Nat} {q : List Nat} (h0 : x0 < 256) (h1 : x1 < 256) (h2 : x2 < 256) (h3 : x3 < 256) (k0 : y0 < 256) (k1 : y1 < 256) (k2 : y2 < 256) (k3 : y3 < 256)
    (h : fold c (x0 :: x1 :: x2 :: x3 :: q) = fold c (y0 :: y1 :: y2 :: y3 :: q)) : x0 = y0 ∧ x1 = y1 ∧ x2 = y2 ∧ x3 = y3 := by
  have e : ∀ a b d f, fold c (a :: b :: d :: f :: q) = fold (fold c [a, b, d, f]) q := fun a b d f => by rw [← fold_append]; rfl
  rw [e, e] at h
  have h' := fold_inj _ h
  rw [fold4 h0 h1 h2 h3, fold4 k0 k1 k2 k3] at h'
  have hw := xor_cancel (st8_inj (st8_inj (st8_inj (st8_inj h'))))
  refine ⟨byte_ext h0 k0 fun j hj => ?_, byte_ext h1 k1 fun j hj => ?_, byte_ext h2 k2 fun j hj => ?_, byte_ext h3 k3 fun j hj => ?_⟩
  · rw [← (word_bit h0 h1 h2 h3 j hj).1, ← (word_bit k0 k1 k2 k3 j hj).1, hw]
  · rw [← (word_bit h0 h1 h2 h3 j hj).2.1, ← (word_bit k0 k1 k2 k3 j hj).2.1, hw]
  · rw [← (word_bit h0 h1 h2 h3 j hj).2.2.1, ← (word_bit k0 k1 k2 k3 j hj).2.2.1, hw]
  · rw [← (word_bit h0 h1 h2 h3 j hj).2.2.2, ← (word_bit k0 k1 k2 k3 j hj).2.2.2, hw]
theorem add_inj {c : B32} {l m : List Nat} (h : add c l = add c m) : fold (~~~c) l = fold (~~~c) m := by
  unfold add at h
  have := congrArg (fun x : B32 => ~~~x) h
  simpa using this
def zipx (l m : List Nat) : List Nat := List.zipWith (fun a b => a ^^^ b) l m
theorem B_xor (a b : Nat) : BitVec.ofNat 32 (a ^^^ b) = BitVec.ofNat 32 a ^^^ BitVec.ofNat 32 b := by
  apply BitVec.eq_of_toNat_eq
  rw [BitVec.toNat_xor, BitVec.toNat_ofNat, BitVec.toNat_ofNat, BitVec.toNat_ofNat]
  exact Nat.xor_mod_two_pow (n := 32)
theorem fold_zip : ∀ (l m : List Nat) (x y : B32), l.length = m.length → fold (x ^^^ y) (zipx l m) = fold x l ^^^ fold y m
  | [], [], x, y, _ => rfl
  | a :: l, b :: m, x, y, h => by
    have e : byt (x ^^^ y) (a ^^^ b) = byt x a ^^^ byt y b := by
      unfold byt
      rw [B_xor, ← st8_xor]
      congr 1
      ac_rfl
    show fold (byt (x ^^^ y) (a ^^^ b)) (zipx l m) = fold (byt x a) l ^^^ fold (byt y b) m
    rw [e, fold_zip l m _ _ (by simpa using h)]
  | [], _ :: _, _, _, h => by simp at h
  | _ :: _, [], _, _, h => by simp at h
theorem set_zip {l : List Nat} {i v : Nat} (hi : i < l.length) : l.set i (l[i] ^^^ v) = zipx l ((List.replicate l.length 0).set i v) := by
  apply List.ext_getElem?
  intro j
  unfold zipx
  rw [List.getElem?_zipWith, List.getElem?_set, List.getElem?_set]
  by_cases hj : i = j
  · subst hj
    simp [hi, List.getElem?_eq_getElem hi]
  · rw [if_neg hj, if_neg hj]
    rcases Nat.lt_or_ge j l.length with h | h
    · simp [List.getElem?_eq_getElem h, h]
    · simp [List.getElem?_eq_none h]
theorem fold_bent {c : B32} {l : List Nat} {i v : Nat} (hi : i < l.length) : fold c (l.set i (l[i] ^^^ v)) = fold c l ^^^ fold 0#32 ((List.replicate l.length 0).set i v) := by
  rw [set_zip hi]
  have := fold_zip l ((List.replicate l.length 0).set i v) c 0#32 (by simp)
  rwa [BitVec.xor_zero] at this
/-- Changed alike, two texts of one length differ alike. -/
theorem bent_alike {c : B32} {l m : List Nat} {i v : Nat} (hi : i < l.length) (hm : m.length = l.length) : fold c (l.set i (l[i] ^^^ v)) ^^^ fold c (m.set i (m[i]'(by omega) ^^^ v)) = fold c l ^^^ fold c m := by
  rw [fold_bent hi, fold_bent (l := m) (by omega), hm]
  have : ∀ a b d : B32, (a ^^^ d) ^^^ (b ^^^ d) = a ^^^ b := fun a b d => by
    have : (a ^^^ d) ^^^ (b ^^^ d) = (a ^^^ b) ^^^ (d ^^^ d) := by ac_rfl
    rw [this, BitVec.xor_self, BitVec.xor_zero]
  exact this _ _ _
theorem add_alike {c : B32} {l m l' m' : List Nat} (h : fold (~~~c) l' ^^^ fold (~~~c) m' = fold (~~~c) l ^^^ fold (~~~c) m) : add c l' ^^^ add c m' = add c l ^^^ add c m := by
  unfold add
  have : ∀ a b : B32, (~~~a) ^^^ (~~~b) = a ^^^ b := fun a b => by
    ext i hi
    simp
  rw [this, this, h]
end Go.Proofs.Ytogmnckhpokfhaa.Nv
