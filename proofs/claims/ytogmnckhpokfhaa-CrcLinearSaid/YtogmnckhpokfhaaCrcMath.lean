/- Plain mathematics of the checksum on 32 bits: one step, a byte, a text; that it is linear, and that nothing is lost in it. Of no program. -/
import Derived.Laws.BitsAllLaws
import Derived.RowKit
namespace Go.Proofs.Ytogmnckhpokfhaa.CrcMath
open Go

abbrev B32 := BitVec 32
def poly : B32 := 0x82f63b78#32
def st (x : B32) : B32 := (x >>> 1) ^^^ (if x.getLsbD 0 then poly else 0#32)
def st8 (x : B32) : B32 := st (st (st (st (st (st (st (st x)))))))
def byt (x : B32) (b : Nat) : B32 := st8 (x ^^^ BitVec.ofNat 32 b)
def fold (x : B32) (l : List Nat) : B32 := l.foldl byt x

theorem getLsbD_xor0 (x y : B32) : (x ^^^ y).getLsbD 0 = (x.getLsbD 0 ^^ y.getLsbD 0) := by simp
theorem st_xor (x y : B32) : st (x ^^^ y) = st x ^^^ st y := by
  unfold st
  rw [getLsbD_xor0]
  have h : (x ^^^ y) >>> 1 = (x >>> 1) ^^^ (y >>> 1) := by
    ext i hi
    simp
  rw [h]
  have two : ∀ a b p : B32, (a ^^^ p) ^^^ (b ^^^ p) = a ^^^ b := fun a b p => by
    have : (a ^^^ p) ^^^ (b ^^^ p) = (a ^^^ b) ^^^ (p ^^^ p) := by ac_rfl
    rw [this, BitVec.xor_self, BitVec.xor_zero]
  cases x.getLsbD 0 <;> cases y.getLsbD 0 <;> simp only [Bool.false_eq_true, Bool.xor_false, Bool.xor_true, Bool.not_false, Bool.not_true, if_true, if_false, BitVec.xor_zero]
  · ac_rfl
  · ac_rfl
  · exact (two _ _ _).symm
theorem st_zero : st 0#32 = 0#32 := by decide
theorem st8_xor (x y : B32) : st8 (x ^^^ y) = st8 x ^^^ st8 y := by unfold st8; simp only [st_xor]
theorem st8_zero : st8 0#32 = 0#32 := by unfold st8; simp only [st_zero]
theorem msb_st (x : B32) : (st x).getLsbD 31 = x.getLsbD 0 := by
  unfold st
  cases h : x.getLsbD 0
  · simp
  · have : poly.getLsbD 31 = true := by decide
    simp [this]
/-- Nothing is lost in a step. -/
theorem st_eq_zero {x : B32} (h : st x = 0#32) : x = 0#32 := by
  have h0 : x.getLsbD 0 = false := by rw [← msb_st, h]; rfl
  have h1 : x >>> 1 = 0#32 := by
    have := h
    unfold st at this
    rw [h0] at this
    simpa using this
  ext i hi
  rcases i with _ | i
  · simpa using h0
  · have := congrArg (fun z : B32 => z.getLsbD i) h1
    simp [BitVec.getLsbD_ushiftRight] at this
    rw [← BitVec.getLsbD_eq_getElem]
    simpa [Nat.add_comm] using this
theorem xor_eq_zero {x y : B32} (h : x ^^^ y = 0#32) : x = y := by
  have : x ^^^ y ^^^ y = 0#32 ^^^ y := by rw [h]
  simpa [BitVec.xor_assoc] using this
theorem st_inj {x y : B32} (h : st x = st y) : x = y := by
  apply xor_eq_zero
  apply st_eq_zero
  rw [st_xor, h, BitVec.xor_self]
theorem st8_inj {x y : B32} (h : st8 x = st8 y) : x = y := by
  unfold st8 at h
  exact st_inj (st_inj (st_inj (st_inj (st_inj (st_inj (st_inj (st_inj h)))))))
theorem byt_inj {x y : B32} {b : Nat} (h : byt x b = byt y b) : x = y := by
  have := st8_inj h
  have h2 : x ^^^ BitVec.ofNat 32 b ^^^ BitVec.ofNat 32 b = y ^^^ BitVec.ofNat 32 b ^^^ BitVec.ofNat 32 b := by rw [this]
  simpa [BitVec.xor_assoc] using h2
theorem fold_inj {x y : B32} (l : List Nat) (h : fold x l = fold y l) : x = y := by
  induction l generalizing x y with
  | nil => exact h
  | cons b l ih => exact byt_inj (ih h)
theorem fold_append (x : B32) (l m : List Nat) : fold x (l ++ m) = fold (fold x l) m := by simp [fold]

/-! Whole numbers and 32 bits. -/
def e (x : B32) : Int := (x.toNat : Int)
theorem e_nonneg (x : B32) : 0 ≤ e x := by unfold e; omega
theorem e_lt (x : B32) : e x < 4294967296 := by unfold e; have := x.isLt; omega
theorem e_inj {x y : B32} (h : e x = e y) : x = y := by
  apply BitVec.eq_of_toNat_eq
  unfold e at h
  omega
theorem e_of {n : Int} (h0 : 0 ≤ n) (h1 : n < 4294967296) : ∃ x, n = e x := by
  refine ⟨BitVec.ofNat 32 n.toNat, ?_⟩
  unfold e
  rw [BitVec.toNat_ofNat, Nat.mod_eq_of_lt (by omega)]
  omega
theorem xor_e (x y : B32) : Go.bits .xor .u32 (e x) (e y) = e (x ^^^ y) := by
  unfold e
  rw [u32_xor_nat _ _ x.isLt y.isLt, BitVec.toNat_xor]
theorem and_e (x y : B32) : Go.bits .and .u32 (e x) (e y) = e (x &&& y) := by
  unfold e
  rw [u32_and_nat _ _ x.isLt y.isLt, BitVec.toNat_and]
theorem half_e (x : B32) : (e x : Int) / (2 : Int) = e (x >>> 1) := by
  unfold e
  rw [BitVec.toNat_ushiftRight, Nat.shiftRight_eq_div_pow]
  omega
theorem ones_e : (4294967295 : Int) = e (BitVec.allOnes 32) := by decide
theorem poly_e : (2197175160 : Int) = e poly := by decide
theorem one_e : (1 : Int) = e 1#32 := by decide
theorem not_e (x : B32) : Go.bits .xor .u32 4294967295 (e x) = e (~~~x) := by
  rw [ones_e, xor_e, BitVec.allOnes_xor]
theorem neg_e (x : B32) : (-(e x)) % 4294967296 = e (-x) := by
  unfold e
  rw [BitVec.toNat_neg]
  have := x.isLt
  omega
theorem low_e (x : B32) : x &&& 1#32 = if x.getLsbD 0 then 1#32 else 0#32 := by
  ext i hi
  rcases i with _ | i
  · cases h : x.getLsbD 0 <;> simp [← BitVec.getLsbD_eq_getElem, h]
  · cases h : x.getLsbD 0 <;> simp [← BitVec.getLsbD_eq_getElem]
theorem step_e (x : B32) : Go.bits .xor .u32 (e x / 2) (Go.bits .and .u32 2197175160 ((-(Go.bits .and .u32 (e x) 1)) % 4294967296)) = e (st x) := by
  rw [one_e, and_e, neg_e, poly_e, and_e, half_e, xor_e]
  congr 1
  unfold st
  congr 1
  rw [low_e]
  cases x.getLsbD 0 <;> decide
theorem odd_e (x : B32) : (Int.tmod (e x) 2 = 1) ↔ x.getLsbD 0 = true := by
  have h : x.getLsbD 0 = decide (x.toNat % 2 = 1) := by
    have := BitVec.getLsbD_ofNat (n := 32) (x := x.toNat) (i := 0)
    rw [BitVec.ofNat_toNat, BitVec.setWidth_eq] at this
    rw [this]
    simp [Nat.testBit_zero]
  rw [h, decide_eq_true_eq]
  unfold e
  have : Int.tmod (x.toNat : Int) 2 = ((x.toNat % 2 : Nat) : Int) := by
    rw [Int.tmod_eq_emod_of_nonneg (by omega)]; omega
  rw [this]
  omega
theorem st_odd {x : B32} (h : x.getLsbD 0 = true) : Go.bits .xor .u32 (e x / 2) 2197175160 = e (st x) := by
  rw [poly_e, half_e, xor_e]; unfold st; rw [h]; rfl
theorem st_even {x : B32} (h : ¬ x.getLsbD 0 = true) : (e x : Int) / (2 : Int) = e (st x) := by
  rw [half_e]; unfold st; rw [if_neg h]; simp
theorem byte_e {b : Int} (h0 : 0 ≤ b) (h1 : b ≤ 255) (x : B32) : Go.bits .xor .u32 (e x) (b % 4294967296) = e (x ^^^ BitVec.ofNat 32 b.toNat) := by
  have : b % 4294967296 = e (BitVec.ofNat 32 b.toNat) := by
    unfold e
    rw [BitVec.toNat_ofNat, Nat.mod_eq_of_lt (by omega)]
    omega
  rw [this, xor_e]
end Go.Proofs.Ytogmnckhpokfhaa.CrcMath
