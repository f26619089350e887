import Derived.Test.YthjpnbjcldpklaaDoorPBallotTextsx6
import Derived.Test.YthjpnbjcldpklaaDoorDigits
namespace Go.Proofs.YthjpnbjcldpklaaDoor.Pure
open Go.RowKit Go.Proofs.YthjpnbjcldpklaaDoor.PBallotTexts Go.Proofs.YthjpnbjcldpklaaDoorW.PrintWords Go.Proofs.YthjpnbjcldpklaaDoorW.PrintLast
open Go.Proofs.YthjpnbjcldpklaaDoor.Digits

set_option linter.unusedVariables false
set_option maxRecDepth 100000 in
theorem ex300 : comitialaw06_examples.f 300 = some true := by decide +kernel

theorem text_eq (a b : Int) (ha : 0 ≤ a ∧ a ≤ 4294967295) (hb : -9223372036854775808 ≤ b ∧ b ≤ 9223372036854775807) :
    ∃ t, ballot_Text.f a b = some t ∧ t.toList = Lib.decDigits a.toNat ++ 46 :: Lib.itoa b := by
  have l1 := dec_len (u := a.toNat) (by omega)
  have l2 := itoa_len hb.1 hb.2
  have s1 : (⟨(Lib.decDigits a.toNat).toArray⟩ : ByteArray).size = (Lib.decDigits a.toNat).length := by rw [size_toList, mk_toList]
  have s2 : (⟨(Lib.itoa b).toArray⟩ : ByteArray).size = (Lib.itoa b).length := by rw [size_toList, mk_toList]
  have s3 : (⟨#[46]⟩ : ByteArray).size = 1 := rfl
  unfold ballot_Text.f strconv_FormatUint.f strconv_Itoa.f
  rw [wrap_u64 ha.1 (by omega), if_pos rfl, if_pos ha.1, if_pos (by omega), Option.bind_some, if_pos (by rw [s1]; omega), if_pos hb.1, if_pos hb.2, Option.bind_some,
    if_pos (by rw [ByteArray.size_append, s1, s2, s3]; omega)]
  refine ⟨_, rfl, ?_⟩
  rw [append_toList, append_toList, mk_toList, mk_toList, mk_toList, List.append_assoc]
  rfl

theorem put_size (a b : Int) (ha : 0 ≤ a ∧ a ≤ 4294967295) : ∃ t, ballot_Ballot_Put.f a b = some t ∧ t.size = 5 := by
  unfold ballot_Ballot_Put.f pack_Number.f
  rw [if_neg (by decide), if_neg (by decide), Option.bind_some, if_neg (by decide), if_neg (by decide), Option.bind_some]
  have len : ∀ (n : Int) (k : Nat), (PBallotTexts.leBytes n k).length = k := by
    intro n k
    induction k with
    | zero => rfl
    | succ k ih => rw [PBallotTexts.leBytes, List.length_append, ih]; rfl
  have s : ∀ l : List Int, (strOfNums l).size = l.length := by
    intro l; rw [size_toList]; unfold strOfNums; rw [mk_toList, List.length_map]
  have e1 : (strOfNums (PBallotTexts.leBytes (IntKind.u64.wrap a) (4 : Int).toNat)).size = 4 := by rw [s, len]; rfl
  have e2 : (strOfNums (PBallotTexts.leBytes (IntKind.u64.wrap b) (1 : Int).toNat)).size = 1 := by rw [s, len]; rfl
  rw [if_pos (by rw [e1, e2]; decide)]
  exact ⟨_, rfl, by rw [ByteArray.size_append, e1, e2]⟩

theorem j0_true (a b c d : Int) (ha : 0 ≤ a ∧ a ≤ 4294967295) (hb : -9223372036854775808 ≤ b ∧ b ≤ 9223372036854775807) (hc : 0 ≤ c ∧ c ≤ 4294967295) (hd : -9223372036854775808 ≤ d ∧ d ≤ 9223372036854775807) :
    comitialaw06_BallotTexts.j0 300 true a b c d = some true := by
  obtain ⟨s, hs, es⟩ := text_eq a b ha hb
  obtain ⟨t, ht, et⟩ := text_eq c d hc hd
  obtain ⟨p, hp, ep⟩ := put_size a b ha
  rw [comitialaw06_BallotTexts.j0, if_pos rfl, hs, Option.bind_some, ht, Option.bind_some]
  have e : ((s.toList == t.toList) == (a == c && b == d)) = true := by
    rw [beq_iff_eq, Bool.eq_iff_iff, beq_iff_eq, Bool.and_eq_true, beq_iff_eq, beq_iff_eq, es, et]
    constructor
    · intro h
      obtain ⟨h1, h2⟩ := Digits.split_at 46 (dec_no _ (by decide)) (dec_no _ (by decide)) h
      have := dec_inj h1
      exact ⟨by omega, itoa_inj h2⟩
    · rintro ⟨rfl, rfl⟩; rfl
  rw [if_pos e, hp, Option.bind_some, ep]; rfl

theorem BallotTexts : comitialaw06_BallotTexts.Pure := by
  intro a b c d n ha hb hc hd
  refine ⟨300, ?_⟩
  unfold comitialaw06_BallotTexts.f
  rw [ex300, Option.bind_some, if_pos rfl]
  by_cases h : n = true
  · rw [if_pos h]; exact j0_true _ _ _ _ (bounds_u32 ha) (bounds_i64 hb) (bounds_u32 ha) (bounds_i64 hd)
  · rw [if_neg h]; exact j0_true _ _ _ _ (bounds_u32 ha) (bounds_i64 hb) (bounds_u32 hc) (bounds_i64 hd)

end Go.Proofs.YthjpnbjcldpklaaDoor.Pure
