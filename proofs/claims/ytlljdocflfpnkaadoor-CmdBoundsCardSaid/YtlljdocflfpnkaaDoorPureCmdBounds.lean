import Derived.Test.YtlljdocflfpnkaaDoorNumCmdBounds
namespace Go.Proofs.YtlljdocflfpnkaaDoor.Pure
open Go.RowKit Go.Proofs.YtlljdocflfpnkaaDoor.PCmdBounds Go.Proofs.YtlljdocflfpnkaaDoorW.PrintWords Go.Proofs.YtlljdocflfpnkaaDoorW.PrintLast Go.Proofs.YtlljdocflfpnkaaDoor.Digits Go.Proofs.YtlljdocflfpnkaaDoor.NumCmdBounds
set_option linter.unusedVariables false
set_option maxRecDepth 100000 in
theorem ex300 : comitialaw07_examples.f 300 = some true := by decide +kernel

theorem nl : (⟨#[]⟩ : ByteArray).toList = [] := mk_toList []
theorem toList_nil {a : ByteArray} : a.toList = [] ↔ a.size = 0 := by
  rw [size_toList]; exact List.length_eq_zero_iff.symm
theorem nilB (a : ByteArray) : (a.toList == ([] : List UInt8)) = decide (a.size = 0) := by
  rw [Bool.eq_iff_iff, beq_iff_eq, decide_eq_true_iff]; exact toList_nil

def ZeroP (o c s : Int) (key value : ByteArray) : Prop := o = 0 ∧ c = 0 ∧ s = 0 ∧ key.size = 0 ∧ value.size = 0
def WantP (o c s : Int) (key value : ByteArray) : Prop := 1 ≤ o ∧ o ≤ 3 ∧ 1 ≤ c ∧ c ≤ 64 ∧ 1 ≤ s ∧ 1 ≤ key.size ∧ key.size ≤ 16 ∧ value.size ≤ 32 ∧ (o = 1 ∨ value.size = 0)
instance (o c s : Int) (key value : ByteArray) : Decidable (ZeroP o c s key value) := by unfold ZeroP; infer_instance
instance (o c s : Int) (key value : ByteArray) : Decidable (WantP o c s key value) := by unfold WantP; infer_instance

theorem right_eq (k : Nat) (hk : 2 ≤ k) (o c s : Int) (key value : ByteArray) : cmd_Right.f k o c s key value = some (decide (ZeroP o c s key value ∨ WantP o c s key value)) := by
  obtain ⟨k, rfl⟩ : ∃ j, k = j + 2 := ⟨k - 2, by omega⟩
  have bad1 : ∀ o c s key value, cmd_Right.j0 (k + 2) true o c s key value = some false := by intro o c s key value; rw [cmd_Right.j0, if_pos rfl]
  have bad2 : ∀ o c s key value, cmd_Right.j1 (k + 1) true o c s key value = some false := by intro o c s key value; rw [cmd_Right.j1, if_pos rfl]
  unfold cmd_Right.f
  have hz : (o == 0 && (c == 0 && (s == 0 && (key.toList == ([] : List UInt8) && (value.toList == ([] : List UInt8)))))) = decide (ZeroP o c s key value) := by
    rw [nilB, nilB, Bool.eq_iff_iff]; simp [ZeroP]
  rw [hz]
  by_cases z : ZeroP o c s key value
  · rw [if_pos (decide_eq_true z), decide_eq_true (Or.inl z)]
  · rw [if_neg (by rw [decide_eq_true_iff]; exact z)]
    have no : ∀ {p : Prop}, (WantP o c s key value → p) → ¬ p → decide (ZeroP o c s key value ∨ WantP o c s key value) = false := by
      intro p h hp; exact decide_eq_false (fun w => w.elim z (fun w => hp (h w)))
    by_cases h1 : o ≤ 0
    · rw [if_pos h1, bad1, no (fun w => w.1) (by omega)]
    · rw [if_neg h1]
      by_cases h2 : o ≥ 4
      · rw [if_pos h2, bad1, no (fun w => w.2.1) (by omega)]
      · rw [if_neg h2]
        by_cases h3 : c < 1
        · rw [if_pos h3, bad1, no (fun w => w.2.2.1) (by omega)]
        · rw [if_neg h3]
          by_cases h4 : c > 64
          · rw [if_pos h4, bad1, no (fun w => w.2.2.2.1) (by omega)]
          · rw [if_neg h4]
            by_cases h5 : s < 1
            · rw [decide_eq_true h5, bad1, no (fun w => w.2.2.2.2.1) (by omega)]
            · rw [decide_eq_false h5, cmd_Right.j0, if_neg (by decide)]
              by_cases h6 : key.toList = ([] : List UInt8)
              · rw [if_pos h6, bad2, no (fun w => w.2.2.2.2.2.1) (by rw [toList_nil] at h6; omega)]
              · rw [if_neg h6]
                have h6' : key.size ≠ 0 := fun e => h6 (toList_nil.mpr e)
                by_cases h7 : (key.size : Int) > 16
                · rw [if_pos h7, bad2, no (fun w => w.2.2.2.2.2.2.1) (by omega)]
                · rw [if_neg h7]
                  by_cases h8 : (value.size : Int) > 32
                  · rw [decide_eq_true h8, bad2, no (fun w => w.2.2.2.2.2.2.2.1) (by omega)]
                  · rw [decide_eq_false h8, cmd_Right.j1, if_neg (by decide)]
                    have w : ∀ b : Prop, (b ↔ (o = 1 ∨ value.size = 0)) → (b ↔ (ZeroP o c s key value ∨ WantP o c s key value)) := by
                      intro b hb
                      constructor
                      · intro x; exact Or.inr ⟨by omega, by omega, by omega, by omega, by omega, by omega, by omega, by omega, hb.mp x⟩
                      · intro x; exact hb.mpr (x.elim (fun x => absurd x z) (fun x => x.2.2.2.2.2.2.2.2))
                    by_cases h9 : o = 1
                    · rw [if_pos h9, decide_eq_true ((w True (by simp [h9])).mp trivial)]
                    · rw [if_neg h9, nilB]
                      congr 1
                      rw [decide_eq_decide]
                      exact w _ (by simp [h9])

theorem num_size (n : Int) (k : Int) (hk : 1 ≤ k ∧ k ≤ 8) : ∃ t, pack_Number.f n k = some t ∧ t.size = k.toNat := by
  unfold pack_Number.f; rw [if_neg (by omega), if_neg (by omega)]; exact ⟨_, rfl, by rw [nm_strsize, nm_len]⟩
theorem text_size (s : ByteArray) (h : s.size ≤ 100) : ∃ t, pack_Text.f s = some (t, true) ∧ t.size = 2 + s.size := by
  obtain ⟨t, ht, et⟩ := num_size (s.size : Int) 2 (by omega)
  unfold pack_Text.f
  rw [if_neg (by omega), ht, Option.bind_some, if_pos (by rw [et]; show 2 + s.size ≤ _; omega)]
  exact ⟨_, rfl, by rw [ByteArray.size_append, et]; rfl⟩

theorem bytes_eq (k : Nat) (hk : 2 ≤ k) (o c s : Int) (key value : ByteArray) (hv : key.size ≤ 100 ∧ value.size ≤ 100) : ∃ t, cmd_Bytes.f k o c s key value = some (t, decide (ZeroP o c s key value ∨ WantP o c s key value)) := by
  unfold cmd_Bytes.f
  rw [right_eq k hk, Option.bind_some]
  by_cases h : ZeroP o c s key value ∨ WantP o c s key value
  · obtain ⟨t1, h1, e1⟩ := text_size key hv.1
    obtain ⟨t2, h2, e2⟩ := text_size value hv.2
    obtain ⟨t3, h3, e3⟩ := num_size (IntKind.u64.wrap o) 1 (by omega)
    obtain ⟨t4, h4, e4⟩ := num_size (IntKind.u64.wrap c) 1 (by omega)
    obtain ⟨t5, h5, e5⟩ := num_size (IntKind.u64.wrap s) 4 (by omega)
    have e3 : t3.size = 1 := e3
    have e4 : t4.size = 1 := e4
    have e5 : t5.size = 4 := e5
    rw [decide_eq_true h, if_pos rfl, h1, Option.bind_some, h2, Option.bind_some, h3, Option.bind_some, h4, Option.bind_some, if_pos (by omega), h5, Option.bind_some, if_pos (by simp only [ByteArray.size_append]; omega)]
    show ∃ t, (if ((t3 ++ t4) ++ t5).size + t1.size ≤ 9223372036854775807 then (if (((t3 ++ t4) ++ t5) ++ t1).size + t2.size ≤ 9223372036854775807 then (some ((((t3 ++ t4) ++ t5) ++ t1) ++ t2, true)) else (none)) else (none)) = some (t, true)
    rw [if_pos (by simp only [ByteArray.size_append]; omega), if_pos (by simp only [ByteArray.size_append]; omega)]
    exact ⟨_, rfl⟩
  · rw [decide_eq_false h, if_neg (by decide)]; exact ⟨_, rfl⟩

theorem j1_ok (w z : Bool) (o c s : Int) (key value : ByteArray) (hv : key.size ≤ 100 ∧ value.size ≤ 100) (hw : w = decide (WantP o c s key value)) (hz : z = decide (ZeroP o c s key value)) :
    comitialaw07_CmdBounds.j1 299 true z w o c s key value = some true := by
  obtain ⟨t, ht⟩ := bytes_eq 298 (by decide) o c s key value hv
  rw [comitialaw07_CmdBounds.j1, ht, Option.bind_some, if_pos rfl, right_eq 298 (by decide), Option.bind_some]
  by_cases h : WantP o c s key value
  · rw [hw, decide_eq_true h, if_pos rfl, decide_eq_true (Or.inr h), if_pos (show (true == true) = true from rfl)]
    rfl
  · have e : decide (ZeroP o c s key value ∨ WantP o c s key value) = z := by
      rw [hz, decide_eq_decide]; exact ⟨fun x => x.elim id (fun y => absurd y h), Or.inl⟩
    rw [hw, decide_eq_false h, if_neg (by decide), e, if_pos (beq_self_eq_true _)]
    show some (z == z) = some true
    rw [beq_self_eq_true]

theorem j0_ok (z : Bool) (o c s : Int) (key value : ByteArray) (hv : key.size ≤ 100 ∧ value.size ≤ 100) (hz : z = decide (ZeroP o c s key value)) :
    comitialaw07_CmdBounds.j0 300 true z o c s key value = some true := by
  have J := fun w hw => j1_ok w z o c s key value hv hw hz
  have no : ∀ {p : Prop}, (WantP o c s key value → p) → ¬ p → comitialaw07_CmdBounds.j1 299 true z false o c s key value = some true := by
    intro p h hp; exact J false (decide_eq_false (fun w => hp (h w))).symm
  rw [comitialaw07_CmdBounds.j0]
  by_cases h1 : o ≥ 1
  · rw [if_pos h1]
    by_cases h2 : o ≤ 3
    · rw [if_pos h2]
      by_cases h3 : c ≥ 1
      · rw [if_pos h3]
        by_cases h4 : c ≤ 64
        · rw [if_pos h4]
          by_cases h5 : s ≥ 1
          · rw [if_pos h5]
            by_cases h6 : (key.size : Int) ≥ 1
            · rw [if_pos h6]
              by_cases h7 : (key.size : Int) ≤ 16
              · rw [if_pos h7]
                by_cases h8 : (value.size : Int) ≤ 32
                · rw [if_pos h8]
                  by_cases h9 : o = 1
                  · rw [if_pos h9]; exact J true (decide_eq_true ⟨by omega, by omega, by omega, by omega, by omega, by omega, by omega, by omega, Or.inl h9⟩).symm
                  · rw [if_neg h9]
                    refine J _ ?_
                    rw [nilB, decide_eq_decide]
                    exact ⟨fun x => ⟨by omega, by omega, by omega, by omega, by omega, by omega, by omega, by omega, Or.inr x⟩, fun x => x.2.2.2.2.2.2.2.2.elim (fun y => absurd y h9) id⟩
                · rw [if_neg h8]; exact no (fun w => w.2.2.2.2.2.2.2.1) (by omega)
              · rw [if_neg h7]; exact no (fun w => w.2.2.2.2.2.2.1) (by omega)
            · rw [if_neg h6]; exact no (fun w => w.2.2.2.2.2.1) (by omega)
          · rw [if_neg h5]; exact no (fun w => w.2.2.2.2.1) (by omega)
        · rw [if_neg h4]; exact no (fun w => w.2.2.2.1) (by omega)
      · rw [if_neg h3]; exact no (fun w => w.2.2.1) (by omega)
    · rw [if_neg h2]; exact no (fun w => w.2.1) (by omega)
  · rw [if_neg h1]; exact no (fun w => w.1) (by omega)

theorem CmdBounds : comitialaw07_CmdBounds.Pure := by
  intro a0 a1 a2 a3 a4 h0 h1 h2 h3 h4
  have b3 := bounds_u8 h3
  have b4 := bounds_u8 h4
  have e3 : Int.tmod a3 20 = a3 % 20 := Int.tmod_eq_emod_of_nonneg b3.1
  have e4 : Int.tmod a4 40 = a4 % 40 := Int.tmod_eq_emod_of_nonneg b4.1
  have w3 : wrap64 (a3 % 20) = a3 % 20 := by unfold wrap64; omega
  have w4 : wrap64 (a4 % 40) = a4 % 40 := by unfold wrap64; omega
  have k1 : (strOfNums (List.replicate (a3 % 20).toNat 0)).size = (a3 % 20).toNat := by rw [nm_strsize, List.length_replicate]
  have k2 : (strOfNums (List.replicate (a4 % 40).toNat 0)).size = (a4 % 40).toNat := by rw [nm_strsize, List.length_replicate]
  refine ⟨300, ?_⟩
  unfold comitialaw07_CmdBounds.f
  rw [ex300, Option.bind_some, if_pos rfl, e3, e4, w3, w4, if_pos (by omega), if_pos (by omega), Option.bind_some, if_pos (by omega), if_pos (by omega), Option.bind_some]
  generalize strOfNums (List.replicate (a3 % 20).toNat 0) = K at k1
  generalize strOfNums (List.replicate (a4 % 40).toNat 0) = V at k2
  generalize wrap64 (Int.tmod a0 6) = O
  generalize wrap64 a1 = C
  generalize (Int.tmod a2 4) % 4294967296 = S
  have hv : K.size ≤ 100 ∧ V.size ≤ 100 := ⟨by omega, by omega⟩
  have J := fun z hz => j0_ok z O C S K V hv hz
  have no : ∀ {p : Prop}, (ZeroP O C S K V → p) → ¬ p → comitialaw07_CmdBounds.j0 300 true false O C S K V = some true := by
    intro p h hp; exact J false (decide_eq_false (fun w => hp (h w))).symm
  by_cases g1 : O = 0
  · rw [if_pos g1]
    by_cases g2 : C = 0
    · rw [if_pos g2]
      by_cases g3 : S = 0
      · rw [if_pos g3]
        by_cases g4 : K.toList = ([] : List UInt8)
        · rw [if_pos g4]
          refine J _ ?_
          rw [nilB, decide_eq_decide]
          exact ⟨fun x => ⟨g1, g2, g3, toList_nil.mp g4, x⟩, fun x => x.2.2.2.2⟩
        · rw [if_neg g4]; exact no (fun w => toList_nil.mpr w.2.2.2.1) g4
      · rw [if_neg g3]; exact no (fun w => w.2.2.1) g3
    · rw [if_neg g2]; exact no (fun w => w.2.1) g2
  · rw [if_neg g1]; exact no (fun w => w.1) g1
end Go.Proofs.YtlljdocflfpnkaaDoor.Pure
