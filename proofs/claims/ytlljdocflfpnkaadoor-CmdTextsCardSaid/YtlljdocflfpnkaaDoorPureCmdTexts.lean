import Derived.Test.YtlljdocflfpnkaaDoorCmdCmdTexts
namespace Go.Proofs.YtlljdocflfpnkaaDoor.Pure
open Go.RowKit Go.Proofs.YtlljdocflfpnkaaDoor.PCmdTexts Go.Proofs.YtlljdocflfpnkaaDoorW.PrintWords Go.Proofs.YtlljdocflfpnkaaDoorW.PrintLast Go.Proofs.YtlljdocflfpnkaaDoor.Digits Go.Proofs.YtlljdocflfpnkaaDoor.NumCmdTexts Go.Proofs.YtlljdocflfpnkaaDoor.CmdCmdTexts
set_option linter.unusedVariables false
set_option linter.unusedSimpArgs false
set_option maxRecDepth 100000 in
theorem ex300 : comitialaw07_examples.f 300 = some true := by decide +kernel

def wordL (o : Int) : List UInt8 := if o = 1 then [112, 117, 116] else if o = 2 then [103, 101, 116] else [100, 101, 108]
def tailL (o : Int) (value : ByteArray) : List UInt8 := if o = 1 then 61 :: value.toList else []
def textL (o c s : Int) (key value : ByteArray) : List UInt8 :=
  if o = 0 then [45] else wordL o ++ 32 :: (Lib.itoa c ++ 46 :: (Lib.decDigits s.toNat ++ 32 :: (key.toList ++ tailL o value)))

theorem mk1 (x : UInt8) : (⟨#[x]⟩ : ByteArray).toList = [x] := mk_toList [x]
theorem mk3 (x y z : UInt8) : (⟨#[x, y, z]⟩ : ByteArray).toList = [x, y, z] := mk_toList [x, y, z]

theorem j1_eq (k : Nat) (hk : 1 ≤ k) (w : ByteArray) (o c s : Int) (key value : ByteArray) (hw : w.size ≤ 10) (ho : o ≠ 0) (hc : 1 ≤ c ∧ c ≤ 4) (hs : 1 ≤ s ∧ s ≤ 5) (hkey : key.size = 1) (hv : value.size ≤ 8) :
    ∃ t, cmd_Text.j1 k w o c s key value = some t ∧ t.toList = w.toList ++ 32 :: (Lib.itoa c ++ 46 :: (Lib.decDigits s.toNat ++ 32 :: (key.toList ++ tailL o value))) := by
  unfold tailL
  obtain ⟨k, rfl⟩ : ∃ j, k = j + 1 := ⟨k - 1, by omega⟩
  have l1 := dec_len (u := s.toNat) (by omega)
  have l2 := itoa_len (n := c) (by omega) (by omega)
  have s1 : (⟨(Lib.decDigits s.toNat).toArray⟩ : ByteArray).size = (Lib.decDigits s.toNat).length := by rw [size_toList, mk_toList]
  have s2 : (⟨(Lib.itoa c).toArray⟩ : ByteArray).size = (Lib.itoa c).length := by rw [size_toList, mk_toList]
  have t1 := mk_toList (Lib.decDigits s.toNat)
  have t2 := mk_toList (Lib.itoa c)
  have e1 : strconv_Itoa.f c = some (⟨(Lib.itoa c).toArray⟩ : ByteArray) := by unfold strconv_Itoa.f; rw [if_pos (by omega), if_pos (by omega)]
  have e2 : strconv_FormatUint.f (IntKind.u64.wrap s) 10 = some (⟨(Lib.decDigits s.toNat).toArray⟩ : ByteArray) := by
    unfold strconv_FormatUint.f; rw [wrap_u64 (by omega) (by omega), if_pos rfl, if_pos (by omega), if_pos (by omega)]
  have z1 : (⟨#[32]⟩ : ByteArray).size = 1 := rfl
  have z2 : (⟨#[46]⟩ : ByteArray).size = 1 := rfl
  have z3 : (⟨#[61]⟩ : ByteArray).size = 1 := rfl
  rw [cmd_Text.j1, if_neg ho, e1, e2]
  generalize (⟨(Lib.decDigits s.toNat).toArray⟩ : ByteArray) = D at s1 t1
  generalize (⟨(Lib.itoa c).toArray⟩ : ByteArray) = I at s2 t2
  have m1 := mk1 32
  have m2 := mk1 46
  have m3 := mk1 61
  rw [if_pos (by omega), Option.bind_some, if_pos (by simp only [ByteArray.size_append, z1, z2, z3]; omega), if_pos (by simp only [ByteArray.size_append, z1, z2, z3]; omega), Option.bind_some,
    if_pos (by simp only [ByteArray.size_append, z1, z2, z3]; omega), if_pos (by simp only [ByteArray.size_append, z1, z2, z3]; omega), if_pos (by simp only [ByteArray.size_append, z1, z2, z3]; omega)]
  by_cases h1 : o = 1
  · rw [if_pos h1, if_pos (by omega), if_pos (by simp only [ByteArray.size_append, z1, z2, z3]; omega)]
    refine ⟨_, rfl, ?_⟩
    simp only [append_toList, m1, m2, m3, t1, t2, if_pos h1, List.append_assoc, List.singleton_append, List.cons_append, List.nil_append]
  · rw [if_neg h1]
    refine ⟨_, rfl, ?_⟩
    simp only [append_toList, m1, m2, m3, t1, t2, if_neg h1, List.append_assoc, List.singleton_append, List.cons_append, List.nil_append, List.append_nil]

theorem text_eq (k : Nat) (hk : 2 ≤ k) (o c s : Int) (key value : ByteArray) (h : WishOk o c s key value) : ∃ t, cmd_Text.f k o c s key value = some t ∧ t.toList = textL o c s key value := by
  obtain ⟨k, rfl⟩ : ∃ j, k = j + 1 := ⟨k - 1, by omega⟩
  unfold cmd_Text.f
  rcases h with ⟨rfl, rfl, rfl, rfl, rfl⟩ | ⟨ho, hc, hs, hk1, hv, hx⟩
  · obtain ⟨k, rfl⟩ : ∃ j, k = j + 1 := ⟨k - 1, by omega⟩
    rw [if_pos (by omega), decide_eq_true (by omega), cmd_Text.j0, if_pos rfl, if_pos rfl, cmd_Text.j1, if_pos rfl]
    exact ⟨_, rfl, mk1 45⟩
  · rw [if_pos (by omega), decide_eq_true (by omega), cmd_Text.j0, if_pos rfl, if_neg (by omega)]
    unfold textL
    rw [if_neg (show ¬ o = 0 by omega)]
    unfold wordL
    by_cases h1 : o = 1
    · obtain ⟨t, ht, et⟩ := j1_eq k (by omega) (⟨#[112, 117, 116]⟩ : ByteArray) o c s key value (by decide) (by omega) hc hs hk1 hv
      rw [if_pos h1, ht, if_pos h1]; exact ⟨t, rfl, by rw [et, mk3]⟩
    · rw [if_neg h1, if_neg h1]
      by_cases h2 : o = 2
      · obtain ⟨t, ht, et⟩ := j1_eq k (by omega) (⟨#[103, 101, 116]⟩ : ByteArray) o c s key value (by decide) (by omega) hc hs hk1 hv
        rw [if_pos h2, ht, if_pos h2]; exact ⟨t, rfl, by rw [et, mk3]⟩
      · obtain ⟨t, ht, et⟩ := j1_eq k (by omega) (⟨#[100, 101, 108]⟩ : ByteArray) o c s key value (by decide) (by omega) hc hs hk1 hv
        rw [if_neg h2, if_pos (by omega), ht, if_neg h2]; exact ⟨t, rfl, by rw [et, mk3]⟩

theorem word_len (o : Int) : (wordL o).length = 3 := by
  by_cases h : o = 1
  · unfold wordL; rw [if_pos h]; rfl
  · unfold wordL; rw [if_neg h]; split <;> rfl

theorem text_inj {o c s : Int} {key value : ByteArray} {o' c' s' : Int} {key' value' : ByteArray} (h : WishOk o c s key value) (h' : WishOk o' c' s' key' value') (e : textL o c s key value = textL o' c' s' key' value') :
    o = o' ∧ c = c' ∧ s = s' ∧ key.toList = key'.toList ∧ value.toList = value'.toList := by
  unfold textL at e
  rcases h with ⟨rfl, rfl, rfl, rfl, rfl⟩ | ⟨ho, hc, hs, hk1, hv, hx⟩
  · rcases h' with ⟨rfl, rfl, rfl, rfl, rfl⟩ | ⟨ho', hc', hs', hk1', hv', hx'⟩
    · exact ⟨rfl, rfl, rfl, rfl, rfl⟩
    · rw [if_pos rfl, if_neg (show ¬ o' = 0 by omega)] at e
      have := congrArg List.length e
      rw [List.length_append, word_len] at this
      simp at this; omega
  · rcases h' with ⟨rfl, rfl, rfl, rfl, rfl⟩ | ⟨ho', hc', hs', hk1', hv', hx'⟩
    · rw [if_neg (show ¬ o = 0 by omega), if_pos rfl] at e
      have := congrArg List.length e
      rw [List.length_append, word_len] at this
      simp at this; omega
    · rw [if_neg (show ¬ o = 0 by omega), if_neg (show ¬ o' = 0 by omega)] at e
      obtain ⟨e1, e2⟩ := List.append_inj e (by rw [word_len, word_len])
      have eo : o = o' := by
        unfold wordL at e1
        have p1 : o = 1 ∨ o = 2 ∨ o = 3 := by omega
        have p2 : o' = 1 ∨ o' = 2 ∨ o' = 3 := by omega
        rcases p1 with rfl | rfl | rfl <;> rcases p2 with rfl | rfl | rfl <;> first | rfl | (exfalso; revert e1; decide)
      subst eo
      obtain ⟨f1, f2⟩ := Digits.split_at 46 (itoa_no c (by decide)) (itoa_no c' (by decide)) (List.cons.inj e2).2
      obtain ⟨g1, g2⟩ := Digits.split_at 32 (dec_no _ (by decide)) (dec_no _ (by decide)) f2
      obtain ⟨k1, k2⟩ := List.append_inj g2 (by rw [← size_toList, ← size_toList, hk1, hk1'])
      have es := dec_inj g1
      refine ⟨rfl, itoa_inj f1, by omega, k1, ?_⟩
      unfold tailL at k2
      by_cases h1 : o = 1
      · rw [if_pos h1, if_pos h1] at k2; exact (List.cons.inj k2).2
      · rcases hx with hx | rfl
        · exact absurd hx h1
        · rcases hx' with hx' | rfl
          · exact absurd hx' h1
          · rfl

theorem CmdTexts : comitialaw07_CmdTexts.Pure := by
  intro a0 a1 a2 a3 a4 a5 b0 b1 b2 b3 b4 b5 ha0 ha1 ha2 ha3 ha4 hb0 hb1 hb2 hb3 hb4
  obtain ⟨x0, x1, x2, x3, x4, hx, wx⟩ := wish_ok a0 a1 a2 a3 a4 (bounds_i64 ha0) (bounds_i64 ha1) (bounds_u32 ha2)
  obtain ⟨y0, y1, y2, y3, y4, hy, wy⟩ := wish_ok b0 b1 b2 b3 b4 (bounds_i64 hb0) (bounds_i64 hb1) (bounds_u32 hb2)
  obtain ⟨t, ht, et⟩ := text_eq 300 (by decide) _ _ _ _ _ wx
  obtain ⟨u, hu, eu⟩ := text_eq 300 (by decide) _ _ _ _ _ wy
  refine ⟨300, ?_⟩
  unfold comitialaw07_CmdTexts.f
  rw [ex300, Option.bind_some, if_pos rfl, hx, Option.bind_some, hy, Option.bind_some]
  show ((cmd_Text.f 300 x0 x1 x2 x3 x4).bind fun t194 => ((cmd_Text.f 300 y0 y1 y2 y3 y4).bind fun t195 => (if ((t194.toList == t195.toList) == (x0 == y0 && (x1 == y1 && (x2 == y2 && (x3.toList == y3.toList && (x4.toList == y4.toList)))))) = true then ((cmd_Text.f 300 x0 x1 x2 x3 x4).bind fun t196 => (some ((t196.toList == ([45] : List UInt8)) == (x0 == 0)))) else (some false)))) = some true
  rw [ht, Option.bind_some, hu, Option.bind_some]
  have e : ((t.toList == u.toList) == (x0 == y0 && (x1 == y1 && (x2 == y2 && (x3.toList == y3.toList && (x4.toList == y4.toList)))))) = true := by
    rw [beq_iff_eq, Bool.eq_iff_iff, beq_iff_eq, et, eu]
    simp only [Bool.and_eq_true, beq_iff_eq]
    constructor
    · exact text_inj wx wy
    · rintro ⟨rfl, rfl, rfl, h3, h4⟩
      unfold textL tailL; rw [h3, h4]
  rw [if_pos e, Option.bind_some]
  congr 1
  rw [beq_iff_eq, Bool.eq_iff_iff, beq_iff_eq, beq_iff_eq, et]
  unfold textL
  constructor
  · intro h
    by_cases g : x0 = 0
    · exact g
    · rw [if_neg g] at h
      have := congrArg List.length h
      rw [List.length_append, word_len] at this
      simp at this; omega
  · intro h; rw [if_pos h]
end Go.Proofs.YtlljdocflfpnkaaDoor.Pure
