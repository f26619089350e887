import Derived.Test.YthjpnbjcldpklaaDoorPBallotNextx6
namespace Go.Proofs.YthjpnbjcldpklaaDoor.Pure
open Go.RowKit Go.Proofs.YthjpnbjcldpklaaDoor.PBallotNext Go.Proofs.YthjpnbjcldpklaaDoorW.PrintWords Go.Proofs.YthjpnbjcldpklaaDoorW.PrintLast

set_option linter.unusedVariables false
set_option maxRecDepth 100000 in
theorem ex300 : comitialaw06_examples.f 300 = some true := by decide +kernel

def cmpI (a b : Int) : Int := if a < b then -1 else if a > b then 1 else 0
def ordB (a b c d : Int) : Int := if cmpI a c = 0 then cmpI b d else cmpI a c

theorem cmp32_eq (a b : Int) : cmp_Compare_uint32.f a b = some (cmpI a b) := by
  unfold cmp_Compare_uint32.f cmp_isNaN_uint32.f cmpI
  simp only [bne_self_eq_false, Option.bind_some, Bool.false_eq_true, if_false]
  split
  · rfl
  · split <;> rfl
theorem cmpI_eq (a b : Int) : cmp_Compare_int.f a b = some (cmpI a b) := by
  unfold cmp_Compare_int.f cmp_isNaN_int.f cmpI
  simp only [bne_self_eq_false, Option.bind_some, Bool.false_eq_true, if_false]
  split
  · rfl
  · split <;> rfl
theorem or_eq (k : Nat) (x y : Int) : cmp_Or_int.f (k + 3) [x, y] = some (if x = 0 then y else x) := by
  have r0 : rd [x, y] 0 = x := rfl
  have r1 : rd [x, y] 1 = y := rfl
  have w0 : wrap64 (0 + 1) = 1 := by decide +kernel
  have w1 : wrap64 (1 + 1) = 2 := by decide +kernel
  show cmp_Or_int.l0 (k + 2 + 1) 0 [x, y] 2 0 = _
  rw [cmp_Or_int.l0, if_pos (by decide), if_pos (by decide), if_pos (by simp), r0, w0]
  by_cases hx : x = 0
  · rw [if_pos hx, if_pos hx, cmp_Or_int.l0, if_pos (by decide), if_pos (by decide), if_pos (by simp), r1, w1]
    by_cases hy : y = 0
    · rw [if_pos hy, cmp_Or_int.l0, if_neg (by decide), hy]
    · rw [if_neg hy]
  · rw [if_neg hx, if_neg hx]
theorem order_eq (k : Nat) (hk : 3 ≤ k) (a b c d : Int) : ballot_Order.f k a b c d = some (ordB a b c d) := by
  obtain ⟨j, rfl⟩ : ∃ j, k = j + 3 := ⟨k - 3, by omega⟩
  unfold ballot_Order.f ordB
  rw [cmp32_eq, Option.bind_some, cmpI_eq, Option.bind_some, or_eq, Option.bind_some]
theorem cmpI_cases (a b : Int) : (a < b ∧ cmpI a b = -1) ∨ (a = b ∧ cmpI a b = 0) ∨ (b < a ∧ cmpI a b = 1) := by
  unfold cmpI; split
  · exact Or.inl ⟨by assumption, rfl⟩
  · split
    · exact Or.inr (Or.inr ⟨by omega, rfl⟩)
    · exact Or.inr (Or.inl ⟨by omega, rfl⟩)
theorem ordB_cases (a b c d : Int) : ((a < c ∨ a = c ∧ b < d) ∧ ordB a b c d = -1) ∨ ((a = c ∧ b = d) ∧ ordB a b c d = 0) ∨ ((c < a ∨ a = c ∧ d < b) ∧ ordB a b c d = 1) := by
  unfold ordB
  rcases cmpI_cases a c with ⟨h, e⟩ | ⟨h, e⟩ | ⟨h, e⟩ <;> rcases cmpI_cases b d with ⟨h', e'⟩ | ⟨h', e'⟩ | ⟨h', e'⟩ <;> simp [e, e'] <;> omega
theorem zero_eq (a b : Int) : ballot_Ballot_Zero.f a b = some (a == 0 && b == 0) := rfl

theorem right_ok (a b : Int) (ha : 0 < a) (hb : 1 ≤ b ∧ b ≤ 7) : ballot_Right.f a b = some true := by
  unfold ballot_Right.f
  rw [zero_eq, Option.bind_some, if_neg (by simp; omega), if_pos (by omega), if_pos (by omega), decide_eq_true (by omega)]

theorem next_top (k : Nat) (hk : 1 ≤ k) (c w : Int) : (1 ≤ w ∧ w ≤ 7) → ballot_Next.f k 4294967295 c w = some (0, 0, false) := by
  intro hw
  obtain ⟨k, rfl⟩ : ∃ j, k = j + 1 := ⟨k - 1, by omega⟩
  unfold ballot_Next.f
  rw [if_neg (by omega), if_neg (by omega), ballot_Next.j0, if_pos (by decide)]
theorem next_ok (k : Nat) (hk : 1 ≤ k) (r c w : Int) (hr : 0 ≤ r ∧ r < 4294967295) (hw : 1 ≤ w ∧ w ≤ 7) : ballot_Next.f k r c w = some (r + 1, w, true) := by
  obtain ⟨k, rfl⟩ : ∃ j, k = j + 1 := ⟨k - 1, by omega⟩
  have e : (r + 1) % 4294967296 = r + 1 := by omega
  unfold ballot_Next.f
  rw [if_neg (by omega), if_neg (by omega), ballot_Next.j0, if_neg (by rw [beq_iff_eq]; omega), e]

theorem neg_ord (a b c d : Int) : ordB a b c d = wrap64 (-ordB c d a b) := by
  have q1 := ordB_cases a b c d
  have q2 := ordB_cases c d a b
  rcases q1 with ⟨h, e⟩ | ⟨h, e⟩ | ⟨h, e⟩ <;> rcases q2 with ⟨h', e'⟩ | ⟨h', e'⟩ | ⟨h', e'⟩ <;> rw [e, e'] <;> first | (exfalso; omega) | decide +kernel

theorem main_ok (k : Nat) (hk : 4 ≤ k) (a3 a4 X xw Y yw P Q : Int) (hX : 0 ≤ X) (hP : P = 1 + Int.tmod a3 7) (hQ : Q = 1 + Int.tmod a4 7) (bP : 1 ≤ P ∧ P ≤ 7) :
    comitialaw06_BallotNext.j1 k a3 a4 true false X xw Y yw (X + 1) P (Y + 1) Q = some true := by
  obtain ⟨k, rfl⟩ : ∃ j, k = j + 1 := ⟨k - 1, by omega⟩
  have O : ∀ a b c d : Int, ballot_Order.f k a b c d = some (ordB a b c d) := order_eq k (by omega)
  have o1 := ordB_cases (X + 1) P X xw
  have last : (some (ordB X xw Y yw == wrap64 (-ordB Y yw X xw)) : Option Bool) = some true := by rw [← neg_ord, beq_self_eq_true]
  rw [comitialaw06_BallotNext.j1, if_neg (by decide), if_pos rfl, O, Option.bind_some, if_pos (by omega), right_ok _ _ (by omega) bP, Option.bind_some, if_pos rfl]
  by_cases h : Int.tmod a3 7 = Int.tmod a4 7
  · have e : ((X + 1 == Y + 1 && (P == Q)) == (X == Y)) = true := by
      have hPQ : P = Q := by omega
      rw [beq_iff_eq, Bool.eq_iff_iff, Bool.and_eq_true, beq_iff_eq, beq_iff_eq, beq_iff_eq]
      omega
    rw [if_pos h, if_pos e, O, Option.bind_some, O, Option.bind_some]
    exact last
  · have hPQ : ¬ P = Q := by omega
    have e0 : (P == Q) = false := beq_eq_false_iff_ne.mpr hPQ
    rw [if_neg h, e0, if_pos (by simp), if_pos (by simp), O, Option.bind_some, O, Option.bind_some]
    exact last

theorem mx_ok (a : Int) (h : 0 ≤ a ∧ a ≤ 4294967295) : 1 ≤ mx a 1 ∧ mx a 1 ≤ 4294967295 := by unfold mx; split <;> omega
theorem w7 (a : Int) (h : 0 ≤ a ∧ a ≤ 255) : wrap64 (1 + wrap64 (Int.tmod a 7)) = 1 + Int.tmod a 7 ∧ 0 ≤ Int.tmod a 7 ∧ Int.tmod a 7 ≤ 6 := by
  have : Int.tmod a 7 = a % 7 := Int.tmod_eq_emod_of_nonneg h.1
  rw [this]; unfold wrap64; omega

theorem BallotNext : comitialaw06_BallotNext.Pure := by
  intro a0 a1 a2 a3 a4 h0 h1 h2 h3 h4
  have m0 := mx_ok a0 (bounds_u32 h0)
  have m1 := mx_ok a1 (bounds_u32 h1)
  have w3 := w7 a3 (bounds_u8 h3)
  have w4 := w7 a4 (bounds_u8 h4)
  refine ⟨300, ?_⟩
  unfold comitialaw06_BallotNext.f
  rw [ex300, Option.bind_some, if_pos rfl, w3.1, w4.1]
  generalize mx a0 1 = X at m0
  generalize mx a1 1 = Y at m1
  generalize wrap64 (1 + wrap64 (Int.tmod a2 7)) = xw
  generalize 1 + (((Int.tdiv a2 7) % 256) % 7) = yw
  by_cases hX : X = 4294967295
  · subst hX
    rw [next_top 300 (by decide) _ _ (by omega), Option.bind_some]
    have fin : ∀ (q : Int × Int × Bool), q.2.2 = decide (Y < 4294967295) → (if ((0, 0, false) : Int × Int × Bool).2.2 != decide ((4294967295 : Int) < 4294967295) then comitialaw06_BallotNext.j0 300 a3 a4 true ((0, 0, false) : Int × Int × Bool).2.2 q.2.2 true 4294967295 xw Y yw ((0, 0, false) : Int × Int × Bool).1 ((0, 0, false) : Int × Int × Bool).2.1 q.1 q.2.1 else comitialaw06_BallotNext.j0 300 a3 a4 true ((0, 0, false) : Int × Int × Bool).2.2 q.2.2 (q.2.2 != decide (Y < 4294967295)) 4294967295 xw Y yw ((0, 0, false) : Int × Int × Bool).1 ((0, 0, false) : Int × Int × Bool).2.1 q.1 q.2.1) = some true := by
      intro q hq
      rw [if_neg (by decide), hq, bne_self_eq_false, comitialaw06_BallotNext.j0, if_neg (by decide), if_neg (fun h => Bool.noConfusion h), comitialaw06_BallotNext.j1, if_pos rfl]
    by_cases hY : Y = 4294967295
    · subst hY
      rw [next_top 300 (by decide) _ _ (by omega), Option.bind_some]
      exact fin (0, 0, false) (by decide)
    · rw [next_ok 300 (by decide) Y _ _ (by omega) (by omega), Option.bind_some]
      exact fin (_, _, true) (decide_eq_true (by omega)).symm
  · rw [next_ok 300 (by decide) X _ _ (by omega) (by omega), Option.bind_some]
    have dX : decide (X < 4294967295) = true := decide_eq_true (by omega)
    have go : ∀ (q : Int × Int × Bool), q.2.2 = decide (Y < 4294967295) → comitialaw06_BallotNext.j1 299 a3 a4 true (!q.2.2) X xw Y yw (X + 1) (1 + Int.tmod a3 7) q.1 q.2.1 = some true → (if ((X + 1, 1 + Int.tmod a3 7, true) : Int × Int × Bool).2.2 != decide (X < 4294967295) then comitialaw06_BallotNext.j0 300 a3 a4 true ((X + 1, 1 + Int.tmod a3 7, true) : Int × Int × Bool).2.2 q.2.2 true X xw Y yw ((X + 1, 1 + Int.tmod a3 7, true) : Int × Int × Bool).1 ((X + 1, 1 + Int.tmod a3 7, true) : Int × Int × Bool).2.1 q.1 q.2.1 else comitialaw06_BallotNext.j0 300 a3 a4 true ((X + 1, 1 + Int.tmod a3 7, true) : Int × Int × Bool).2.2 q.2.2 (q.2.2 != decide (Y < 4294967295)) X xw Y yw ((X + 1, 1 + Int.tmod a3 7, true) : Int × Int × Bool).1 ((X + 1, 1 + Int.tmod a3 7, true) : Int × Int × Bool).2.1 q.1 q.2.1) = some true := by
      intro q hq hj
      rw [dX, if_neg (show ¬ ((true != true) = true) by decide), hq, bne_self_eq_false, comitialaw06_BallotNext.j0, if_neg (by decide), if_pos rfl, ← hq]
      exact hj
    by_cases hY : Y = 4294967295
    · subst hY
      rw [next_top 300 (by decide) _ _ (by omega), Option.bind_some]
      exact go (0, 0, false) (by decide) (by rw [comitialaw06_BallotNext.j1]; rfl)
    · rw [next_ok 300 (by decide) Y _ _ (by omega) (by omega), Option.bind_some]
      exact go (_, _, true) (decide_eq_true (by omega)).symm (main_ok 299 (by decide) a3 a4 X xw Y yw _ _ (by omega) rfl rfl (by omega))

end Go.Proofs.YthjpnbjcldpklaaDoor.Pure
