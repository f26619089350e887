import Derived.Test.YthjpnbjcldpklaaDoorPBallotBoundsx6
namespace Go.Proofs.YthjpnbjcldpklaaDoor.Pure
open Go.RowKit Go.Proofs.YthjpnbjcldpklaaDoor.PBallotBounds Go.Proofs.YthjpnbjcldpklaaDoorW.PrintWords Go.Proofs.YthjpnbjcldpklaaDoorW.PrintLast

set_option maxRecDepth 100000 in
theorem bounds_all : ∀ m < 3, ∀ n < 256, comitialaw06_BallotBounds.f 300 (Int.ofNat m) ((n : Nat) - 128 : Int) = some true := by decide +kernel

theorem bounds_mod (k : Nat) (a0 a1 : Int) (h0 : 0 ≤ a0) : comitialaw06_BallotBounds.f k a0 a1 = comitialaw06_BallotBounds.f k (a0 % 3) a1 := by
  have e0 : Int.tmod a0 3 = a0 % 3 := Int.tmod_eq_emod_of_nonneg h0
  have e1 : Int.tmod (a0 % 3) 3 = a0 % 3 := by rw [Int.tmod_eq_emod_of_nonneg (by omega)]; omega
  unfold comitialaw06_BallotBounds.f
  rw [e0, e1]

/-- ∀ (a0 : Int) (a1 : Int), (Lit.int .u8 a0).wf = true → (Lit.int .i8 a1).wf = true → ∃ k, comitialaw06_BallotBounds.f k a0 a1 = some true -/
theorem BallotBounds : comitialaw06_BallotBounds.Pure := by
  intro a0 a1 h0 h1
  have h0' := bounds_u8 h0
  have h1' := bounds_i8 h1
  refine ⟨300, ?_⟩
  rw [bounds_mod _ _ _ h0'.1]
  have ha : a0 % 3 = Int.ofNat (a0 % 3).toNat := (Int.toNat_of_nonneg (by omega)).symm
  have hb : a1 = (((a1 + 128).toNat : Nat) - 128 : Int) := by omega
  rw [ha, hb]
  exact bounds_all _ (by omega) _ (by omega)

end Go.Proofs.YthjpnbjcldpklaaDoor.Pure
