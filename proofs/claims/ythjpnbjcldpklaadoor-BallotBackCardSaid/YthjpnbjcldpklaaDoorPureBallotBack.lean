import Derived.Test.YthjpnbjcldpklaaDoorNumBallotBack
namespace Go.Proofs.YthjpnbjcldpklaaDoor.Pure
open Go.RowKit Go.Proofs.YthjpnbjcldpklaaDoor.PBallotBack Go.Proofs.YthjpnbjcldpklaaDoorW.PrintWords Go.Proofs.YthjpnbjcldpklaaDoorW.PrintLast
open Go.Proofs.YthjpnbjcldpklaaDoor.Digits Go.Proofs.YthjpnbjcldpklaaDoor.NumBallotBack

set_option linter.unusedVariables false
set_option maxRecDepth 100000 in
theorem ex300 : comitialaw06_examples.f 300 = some true := by decide +kernel

theorem put_eq (a b : Int) (ha : 0 ≤ a ∧ a ≤ 4294967295) (hb : 0 ≤ b ∧ b ≤ 7) :
    ballot_Ballot_Put.f a b = some (strOfNums (PBallotBack.leBytes a 4) ++ strOfNums (PBallotBack.leBytes b 1)) := by
  unfold ballot_Ballot_Put.f pack_Number.f
  rw [wrap_u64 ha.1 (by omega), wrap_u64 hb.1 (by omega), if_neg (by decide), if_neg (by decide), Option.bind_some, if_neg (by decide), if_neg (by decide), Option.bind_some]
  have e1 : (strOfNums (PBallotBack.leBytes a (4 : Int).toNat)).size = 4 := by rw [nm_strsize, nm_len]; rfl
  have e2 : (strOfNums (PBallotBack.leBytes b (1 : Int).toNat)).size = 1 := by rw [nm_strsize, nm_len]; rfl
  rw [if_pos (by rw [e1, e2]; decide)]
  rfl

theorem get_ok (a b : Int) (rest : ByteArray) (ha : 0 ≤ a ∧ a ≤ 4294967295) (hb : 0 ≤ b ∧ b ≤ 7) (hr : ballot_Right.f a b = some true) :
    ballot_Get.f 299 (strOfNums (PBallotBack.leBytes a 4) ++ strOfNums (PBallotBack.leBytes b 1) ++ rest) false = some (a, b, rest, false) := by
  have e1 : (strOfNums (PBallotBack.leBytes a 4)).size = 4 := by rw [nm_strsize, nm_len]
  have e2 : (strOfNums (PBallotBack.leBytes b 1)).size = 1 := by rw [nm_strsize, nm_len]
  have n1 := nm_number 299 (by decide) (strOfNums (PBallotBack.leBytes a 4) ++ strOfNums (PBallotBack.leBytes b 1) ++ rest) 4 (by decide) (by decide) (by rw [ByteArray.size_append, ByteArray.size_append, e1]; omega)
  have n2 := nm_number 299 (by decide) (strOfNums (PBallotBack.leBytes b 1) ++ rest) 1 (by decide) (by decide) (by rw [ByteArray.size_append, e2]; omega)
  rw [ByteArray.extract_append_eq_left e2.symm, ByteArray.extract_append_eq_right e2.symm (by rw [ByteArray.size_append]), nm_sum1] at n2
  rw [ByteArray.append_assoc, ByteArray.extract_append_eq_left e1.symm, ByteArray.extract_append_eq_right e1.symm (by rw [ByteArray.size_append]), nm_sum4] at n1
  unfold ballot_Get.f
  rw [ByteArray.append_assoc]
  have n1' : pack_Reader_Number.f 299 (strOfNums (PBallotBack.leBytes a 4) ++ (strOfNums (PBallotBack.leBytes b 1) ++ rest)) false 4 = _ := n1
  have n2' : pack_Reader_Number.f 299 (strOfNums (PBallotBack.leBytes b 1) ++ rest) false 1 = _ := n2
  have w1 : a % 4294967296 % 4294967296 = a := by omega
  have w2 : wrap64 (b % 256) = b := by unfold wrap64; omega
  rw [n1', Option.bind_some, n2', Option.bind_some, if_neg (fun h => Bool.noConfusion h), w1, w2, hr, Option.bind_some, ballot_Get.j0]
  rfl

theorem get_bad (s : ByteArray) (hs : s.size < 5) : ∃ t, ballot_Get.f 299 s false = some t ∧ t.2.2.2 = true := by
  unfold ballot_Get.f
  have fin : ∀ (x : Int) (y : ByteArray) (b : Bool) (u v : Int), ballot_Get.j0 299 true y b u v = some (0, 0, (⟨#[]⟩ : ByteArray), true) := by
    intro x y b u v; rw [ballot_Get.j0, if_pos rfl]
  by_cases h : s.size < 4
  · have n1 : pack_Reader_Number.f 299 s false 4 = _ := nm_number_bad 299 (by decide) s false 4 (by decide) (by decide) (Or.inr (by omega))
    have n2 : pack_Reader_Number.f 299 (⟨#[]⟩ : ByteArray) true 1 = _ := nm_number_bad 299 (by decide) (⟨#[]⟩ : ByteArray) true 1 (by decide) (by decide) (Or.inl rfl)
    rw [n1, Option.bind_some, n2, Option.bind_some, if_pos rfl, fin 0]
    exact ⟨_, rfl, rfl⟩
  · have n1 : pack_Reader_Number.f 299 s false 4 = _ := nm_number 299 (by decide) s 4 (by decide) (by decide) (by omega)
    have n2 : pack_Reader_Number.f 299 (s.extract 4 s.size) false 1 = _ := nm_number_bad 299 (by decide) (s.extract 4 s.size) false 1 (by decide) (by decide) (Or.inr (by rw [ByteArray.size_extract]; omega))
    rw [n1, Option.bind_some, n2, Option.bind_some, if_pos rfl, fin 0]
    exact ⟨_, rfl, rfl⟩

theorem j0_true (rest : ByteArray) (cut a b : Int) (hrest : rest.size ≤ 140737488351232) (hc : 0 ≤ cut ∧ cut ≤ 255) (ha : 0 ≤ a ∧ a ≤ 4294967295) (hb : 0 ≤ b ∧ b ≤ 7) (hr : ballot_Right.f a b = some true) :
    comitialaw06_BallotBack.j0 300 rest cut true a b = some true := by
  have e1 : (strOfNums (PBallotBack.leBytes a 4)).size = 4 := by rw [nm_strsize, nm_len]
  have e2 : (strOfNums (PBallotBack.leBytes b 1)).size = 1 := by rw [nm_strsize, nm_len]
  have g := get_ok a b rest ha hb hr
  rw [comitialaw06_BallotBack.j0, put_eq a b ha hb, Option.bind_some]
  have hs : (strOfNums (PBallotBack.leBytes a 4) ++ strOfNums (PBallotBack.leBytes b 1)).size = 5 := by rw [ByteArray.size_append, e1, e2]
  generalize strOfNums (PBallotBack.leBytes a 4) ++ strOfNums (PBallotBack.leBytes b 1) = s at hs g
  have hm : Int.tmod (wrap64 cut) ((s.size : Nat) : Int) = cut % 5 := by
    rw [hs, show wrap64 cut = cut by unfold wrap64; omega]
    exact Int.tmod_eq_emod_of_nonneg hc.1
  have hn : s.toList ≠ [] := by
    intro h; have := size_toList s; rw [h, hs] at this; simp at this
  obtain ⟨t, ht, tb⟩ := get_bad (s.extract 0 (cut % 5).toNat) (by rw [ByteArray.size_extract]; omega)
  rw [if_neg hn, if_pos (by omega), g, Option.bind_some, if_neg (by omega), hm, if_pos (by omega), if_pos (by omega), ht, Option.bind_some, if_pos rfl, if_pos (by simp), if_pos rfl, if_neg (fun h => Bool.noConfusion h), if_pos tb, hs]
  rfl

theorem BallotBack : comitialaw06_BallotBack.Pure := by
  intro a who rest cut h0 h1 h2 h3
  have h0' := bounds_u32 h0
  have h1' := bounds_u8 h1
  refine ⟨300, ?_⟩
  unfold comitialaw06_BallotBack.f
  rw [ex300, Option.bind_some, if_pos rfl]
  by_cases h : a = 0
  · rw [if_pos h]
    exact j0_true rest cut a 0 h2 (bounds_u8 h3) h0' (by omega) (by subst h; decide +kernel)
  · rw [if_neg h]
    have hm : Int.tmod who 7 = who % 7 := Int.tmod_eq_emod_of_nonneg h1'.1
    have hw : wrap64 (1 + wrap64 (Int.tmod who 7)) = 1 + who % 7 := by rw [hm]; unfold wrap64; omega
    rw [hw]
    refine j0_true rest cut a _ h2 (bounds_u8 h3) h0' (by omega) ?_
    unfold ballot_Right.f ballot_Ballot_Zero.f
    rw [Option.bind_some, if_neg (by simp [h]), if_pos (by omega), if_pos (by omega), decide_eq_true (by omega)]

end Go.Proofs.YthjpnbjcldpklaaDoor.Pure
