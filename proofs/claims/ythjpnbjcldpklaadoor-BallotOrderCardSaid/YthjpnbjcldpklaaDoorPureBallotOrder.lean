import Derived.Test.YthjpnbjcldpklaaDoorPBallotOrderx6
namespace Go.Proofs.YthjpnbjcldpklaaDoor.Pure
open Go.RowKit Go.Proofs.YthjpnbjcldpklaaDoor.PBallotOrder Go.Proofs.YthjpnbjcldpklaaDoorW.PrintWords Go.Proofs.YthjpnbjcldpklaaDoorW.PrintLast

set_option linter.unusedVariables false
set_option maxRecDepth 100000 in
theorem ex300 : comitialaw06_examples.f 300 = some true := by decide +kernel

def cmpI (a b : Int) : Int := if a < b then -1 else if a > b then 1 else 0
def ordB (a b c d : Int) : Int := if cmpI a c = 0 then cmpI b d else cmpI a c

theorem cmp32_eq (a b : Int) : cmp_Compare_uint32.f a b = some (cmpI a b) := by
  unfold cmp_Compare_uint32.f cmp_isNaN_uint32.f cmpI
  simp only [bne_self_eq_false, Option.bind_some, Bool.false_eq_true, if_false]
  split
  · rfl
  · split <;> rfl
theorem cmpI_eq (a b : Int) : cmp_Compare_int.f a b = some (cmpI a b) := by
  unfold cmp_Compare_int.f cmp_isNaN_int.f cmpI
  simp only [bne_self_eq_false, Option.bind_some, Bool.false_eq_true, if_false]
  split
  · rfl
  · split <;> rfl
theorem or_eq (k : Nat) (x y : Int) : cmp_Or_int.f (k + 3) [x, y] = some (if x = 0 then y else x) := by
  have r0 : rd [x, y] 0 = x := rfl
  have r1 : rd [x, y] 1 = y := rfl
  have w0 : wrap64 (0 + 1) = 1 := by decide +kernel
  have w1 : wrap64 (1 + 1) = 2 := by decide +kernel
  show cmp_Or_int.l0 (k + 2 + 1) 0 [x, y] 2 0 = _
  rw [cmp_Or_int.l0, if_pos (by decide), if_pos (by decide), if_pos (by simp), r0, w0]
  by_cases hx : x = 0
  · rw [if_pos hx, if_pos hx, cmp_Or_int.l0, if_pos (by decide), if_pos (by decide), if_pos (by simp), r1, w1]
    by_cases hy : y = 0
    · rw [if_pos hy, cmp_Or_int.l0, if_neg (by decide), hy]
    · rw [if_neg hy]
  · rw [if_neg hx, if_neg hx]
theorem order_eq (k : Nat) (hk : 3 ≤ k) (a b c d : Int) : ballot_Order.f k a b c d = some (ordB a b c d) := by
  obtain ⟨j, rfl⟩ : ∃ j, k = j + 3 := ⟨k - 3, by omega⟩
  unfold ballot_Order.f ordB
  rw [cmp32_eq, Option.bind_some, cmpI_eq, Option.bind_some, or_eq, Option.bind_some]
theorem cmpI_cases (a b : Int) : (a < b ∧ cmpI a b = -1) ∨ (a = b ∧ cmpI a b = 0) ∨ (b < a ∧ cmpI a b = 1) := by
  unfold cmpI; split
  · exact Or.inl ⟨by assumption, rfl⟩
  · split
    · exact Or.inr (Or.inr ⟨by omega, rfl⟩)
    · exact Or.inr (Or.inl ⟨by omega, rfl⟩)
theorem ordB_cases (a b c d : Int) : ((a < c ∨ a = c ∧ b < d) ∧ ordB a b c d = -1) ∨ ((a = c ∧ b = d) ∧ ordB a b c d = 0) ∨ ((c < a ∨ a = c ∧ d < b) ∧ ordB a b c d = 1) := by
  unfold ordB
  rcases cmpI_cases a c with ⟨h, e⟩ | ⟨h, e⟩ | ⟨h, e⟩ <;> rcases cmpI_cases b d with ⟨h', e'⟩ | ⟨h', e'⟩ | ⟨h', e'⟩ <;> simp [e, e'] <;> omega
theorem zero_eq (a b : Int) : ballot_Ballot_Zero.f a b = some (a == 0 && b == 0) := rfl

theorem right_pos (a b : Int) (h : ballot_Right.f a b = some true) : (a = 0 ∧ b = 0) ∨ 0 < a := by
  unfold ballot_Right.f at h
  rw [zero_eq, Option.bind_some] at h
  by_cases h0 : (a == 0 && b == 0) = true
  · left; simpa using h0
  · rw [if_neg h0] at h
    by_cases h1 : a > 0
    · exact Or.inr h1
    · rw [if_neg h1] at h; simp at h
theorem right_some (a b : Int) : ∃ t, ballot_Right.f a b = some t := by
  unfold ballot_Right.f
  rw [zero_eq, Option.bind_some]
  split
  · exact ⟨_, rfl⟩
  · split
    · split
      · exact ⟨_, rfl⟩
      · exact ⟨_, rfl⟩
    · exact ⟨_, rfl⟩

theorem j0_true (a b c d e f : Int) : comitialaw06_BallotOrder.j0 300 true a b c d e f = some true := by
  have O : ∀ a b c d : Int, ballot_Order.f 299 a b c d = some (ordB a b c d) := order_eq 299 (by decide)
  obtain ⟨t, ht⟩ := right_some a b
  rw [comitialaw06_BallotOrder.j0]
  simp only [O, Option.bind_some, ht, zero_eq, if_true]
  have hr : t = true → (a = 0 ∧ b = 0) ∨ 0 < a := fun h => right_pos a b (by rw [ht, h])
  have q1 := ordB_cases a b c d
  have q2 := ordB_cases c d a b
  have q3 := ordB_cases c d e f
  have q4 := ordB_cases a b e f
  have q5 := ordB_cases a b 0 0
  have hw : ordB a b c d = wrap64 (-ordB c d a b) := by
    rcases q1 with ⟨h, e⟩ | ⟨h, e⟩ | ⟨h, e⟩ <;> rcases q2 with ⟨h', e'⟩ | ⟨h', e'⟩ | ⟨h', e'⟩ <;> rw [e, e'] <;> first | (exfalso; omega) | decide +kernel
  have hz : ((ordB a b c d == 0) == (a == c && b == d)) = true := by
    rcases q1 with ⟨h, e⟩ | ⟨h, e⟩ | ⟨h, e⟩ <;> rw [e] <;> simp <;> omega
  rw [if_pos hw, if_pos hz]
  have tail : (if t = true then (if (a == 0 && b == 0) = true then some ((0 : Int) == 0 && (0 : Int) == 0) else if ordB a b 0 0 > 0 then some ((0 : Int) == 0 && (0 : Int) == 0) else some false) else some ((0 : Int) == 0 && (0 : Int) == 0)) = some true := by
    by_cases h : t = true
    · rw [if_pos h]
      rcases hr h with ⟨ha0, hb0⟩ | hp
      · rw [if_pos (by simp [ha0, hb0])]; rfl
      · by_cases hzz : (a == 0 && b == 0) = true
        · rw [if_pos hzz]; rfl
        · rw [if_neg hzz, if_pos (by omega)]; rfl
    · rw [if_neg h]; rfl
  by_cases g1 : ordB a b c d > 0
  · rw [if_pos g1]; exact tail
  · rw [if_neg g1]
    by_cases g2 : ordB c d e f > 0
    · rw [if_pos g2]; exact tail
    · rw [if_neg g2, if_pos (by omega)]; exact tail

theorem BallotOrder : comitialaw06_BallotOrder.Pure := by
  intro a b c d e f n ha hb hc hd he hf
  refine ⟨300, ?_⟩
  unfold comitialaw06_BallotOrder.f
  rw [ex300, Option.bind_some, if_pos rfl]
  by_cases h : n = true
  · rw [if_pos h]; exact j0_true _ _ _ _ _ _
  · rw [if_neg h]; exact j0_true _ _ _ _ _ _

end Go.Proofs.YthjpnbjcldpklaaDoor.Pure
