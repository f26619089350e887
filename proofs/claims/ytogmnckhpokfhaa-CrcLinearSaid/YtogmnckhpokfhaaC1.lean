/- The checksum at the plain level: each bit's operations, a byte, a text. -/
import Derived.Test.YtogmnckhpokfhaaNf
import Derived.Test.YtogmnckhpokfhaaNvLaw
import Derived.Test.YtogmnckhpokfhaaCrcMath
namespace Go.Proofs.Ytogmnckhpokfhaa.Nv
open Go Go.Proofs.Ytogmnckhpokfhaa.CrcMath
def X0 : FuncId → List NV → NV → Prop := fun _ _ _ => False
abbrev E0 := EvF F X0
theorem ofInt_e (c : B32) : BitVec.ofInt 32 (CrcMath.e c) = c := by unfold CrcMath.e; simp
theorem wrap_e (c : B32) : IntKind.u32.wrap (c.toNat : Int) = CrcMath.e c := by
  have := c.isLt
  simp only [IntKind.wrap, IntKind.signed, IntKind.bits, CrcMath.e]
  simp
  omega
section
variable {e : Env} {m : Mem} {x y : Opd} {c d : B32}
theorem xorE (hx : x.ev e = .int .u32 (CrcMath.e c)) (hy : y.ev e = .int .u32 (CrcMath.e d)) : stepH (.bin .xor x y) e m = some (.int .u32 (CrcMath.e (c ^^^ d)), m) := by
  unfold stepH
  simp only [step, hx, hy, binV, binI, if_true, pureM, head1_eq]
  rw [show IntKind.bits .u32 = 32 from rfl, ofInt_e, ofInt_e, wrap_e]
theorem andE (hx : x.ev e = .int .u32 (CrcMath.e c)) (hy : y.ev e = .int .u32 (CrcMath.e d)) : stepH (.bin .and x y) e m = some (.int .u32 (CrcMath.e (c &&& d)), m) := by
  unfold stepH
  simp only [step, hx, hy, binV, binI, if_true, pureM, head1_eq]
  rw [show IntKind.bits .u32 = 32 from rfl, ofInt_e, ofInt_e, wrap_e]
theorem shrE (hx : x.ev e = .int .u32 (CrcMath.e c)) (hy : y.ev e = .int .u64 1) : stepH (.bin .shr x y) e m = some (.int .u32 (CrcMath.e (c >>> 1)), m) := by
  unfold stepH
  simp only [step, hx, hy, binV, shiftI, pureM]
  rw [if_neg (by decide), ← half_e]
  simp only [head1_eq]
  rw [show ((2 : Int) ^ min (Int.toNat 1) IntKind.u32.bits) = 2 from rfl, Int.fdiv_eq_ediv_of_nonneg _ (by decide)]
theorem negE (hx : x.ev e = .int .u32 (CrcMath.e c)) : stepH (.un .neg x) e m = some (.int .u32 (CrcMath.e (-c)), m) := by
  unfold stepH
  simp only [step, hx, unV, pureM, head1_eq]
  rw [← neg_e]
  simp [IntKind.wrap, IntKind.signed, IntKind.bits]
theorem notE (hx : x.ev e = .int .u32 (CrcMath.e c)) : stepH (.un .xor x) e m = some (.int .u32 (CrcMath.e (~~~c)), m) := by
  unfold stepH
  simp only [step, hx, unV, pureM, head1_eq]
  rw [show IntKind.bits .u32 = 32 from rfl, ofInt_e, wrap_e]
  congr 2
end
theorem st_of_bits (c : B32) : (c >>> 1) ^^^ (poly &&& -(c &&& 1#32)) = st c := by
  unfold st
  congr 1
  rw [low_e]
  cases c.getLsbD 0 <;> decide
end Go.Proofs.Ytogmnckhpokfhaa.Nv
