import Derived.Test.YtlljdocflfpnkaaDoorNumCmdBack
namespace Go.Proofs.YtlljdocflfpnkaaDoor.CmdCmdBack
open Go.RowKit Go.Proofs.YtlljdocflfpnkaaDoor.PCmdBack Go.Proofs.YtlljdocflfpnkaaDoorW.PrintWords Go.Proofs.YtlljdocflfpnkaaDoorW.PrintLast Go.Proofs.YtlljdocflfpnkaaDoor.Digits Go.Proofs.YtlljdocflfpnkaaDoor.NumCmdBack
-- what a wish comes to, what is right, what clashes, over the printed functions of PCmdBack
set_option linter.unusedVariables false

def WishOk (o c s : Int) (key value : ByteArray) : Prop :=
  (o = 0 ∧ c = 0 ∧ s = 0 ∧ key = (⟨#[]⟩ : ByteArray) ∧ value = (⟨#[]⟩ : ByteArray)) ∨
  ((1 ≤ o ∧ o ≤ 3) ∧ (1 ≤ c ∧ c ≤ 4) ∧ (1 ≤ s ∧ s ≤ 5) ∧ key.size = 1 ∧ value.size ≤ 8 ∧ (o = 1 ∨ value = (⟨#[]⟩ : ByteArray)))

theorem toList_nil {a : ByteArray} : a.toList = [] ↔ a.size = 0 := by
  rw [size_toList]; exact List.length_eq_zero_iff.symm

theorem wish_ok (o c s : Int) (key value : ByteArray) (ho : -9223372036854775808 ≤ o ∧ o ≤ 9223372036854775807) (hc : -9223372036854775808 ≤ c ∧ c ≤ 9223372036854775807) (hs : 0 ≤ s ∧ s ≤ 4294967295) :
    ∃ o' c' s' key' value', comitialaw07_Wish_wish.f 300 o c s key value true = some (o', c', s', key', value') ∧ WishOk o' c' s' key' value' := by
  have u1 : ∀ z : Int, 0 ≤ IntKind.u64.wrap z ∧ IntKind.u64.wrap z < 18446744073709551616 := by
    intro z; unfold IntKind.wrap; simp [IntKind.bits, IntKind.signed]; omega
  have o1 := u1 o
  have c1 := u1 c
  have eo : Int.tmod (IntKind.u64.wrap o) 5 = IntKind.u64.wrap o % 5 := Int.tmod_eq_emod_of_nonneg o1.1
  have ec : Int.tmod (IntKind.u64.wrap c) 4 = IntKind.u64.wrap c % 4 := Int.tmod_eq_emod_of_nonneg c1.1
  have es : Int.tmod s 5 = s % 5 := Int.tmod_eq_emod_of_nonneg hs.1
  have wo : 0 ≤ wrap64 (IntKind.u64.wrap o % 5) ∧ wrap64 (IntKind.u64.wrap o % 5) ≤ 4 := by unfold wrap64; omega
  have wc : 1 ≤ wrap64 (1 + wrap64 (IntKind.u64.wrap c % 4)) ∧ wrap64 (1 + wrap64 (IntKind.u64.wrap c % 4)) ≤ 4 := by unfold wrap64; omega
  have ws : 1 ≤ (1 + s % 5) % 4294967296 ∧ (1 + s % 5) % 4294967296 ≤ 5 := by omega
  have hm : 0 ≤ mn (value.size : Int) 8 ∧ mn (value.size : Int) 8 ≤ (value.size : Int) ∧ mn (value.size : Int) 8 ≤ 8 := by unfold mn; split <;> omega
  have kz : ∀ x : Int, (strOfNums [x]).size = 1 := fun x => nm_strsize [x]
  have vz : (value.extract 0 (mn (value.size : Int) 8).toNat).size ≤ 8 := by rw [ByteArray.size_extract]; omega
  unfold comitialaw07_Wish_wish.f
  rw [if_pos rfl, Option.bind_some, if_pos hm.1, if_pos hm.2.1, eo, ec, es]
  generalize wrap64 (IntKind.u64.wrap o % 5) = O at wo
  generalize wrap64 (1 + wrap64 (IntKind.u64.wrap c % 4)) = C at wc
  generalize (1 + s % 5) % 4294967296 = S at ws
  generalize value.extract 0 (mn (value.size : Int) 8).toNat = V at vz
  have kk := kz ((97 + s / 256 % 3 % 256) % 256)
  have kk : (strOfNums [(97 + Int.tmod (s / 256) 3 % 256) % 256]).size = 1 := kz _
  generalize strOfNums [(97 + Int.tmod (s / 256) 3 % 256) % 256] = K at kk
  have e0 : (⟨#[]⟩ : ByteArray).size ≤ 8 := by decide
  by_cases h1 : O = 1
  · rw [if_pos h1, comitialaw07_Wish_wish.j0, if_neg (by omega), if_neg (by omega)]
    exact ⟨_, _, _, _, _, rfl, Or.inr ⟨by omega, wc, ws, kk, vz, Or.inl h1⟩⟩
  · rw [if_neg h1, comitialaw07_Wish_wish.j0]
    by_cases h0 : O = 0
    · rw [if_pos h0]; exact ⟨_, _, _, _, _, rfl, Or.inl ⟨rfl, rfl, rfl, rfl, rfl⟩⟩
    · rw [if_neg h0]
      by_cases h4 : O = 4
      · rw [if_pos h4]; exact ⟨_, _, _, _, _, rfl, Or.inr ⟨by omega, wc, ws, kk, e0, Or.inr rfl⟩⟩
      · rw [if_neg h4]; exact ⟨_, _, _, _, _, rfl, Or.inr ⟨by omega, wc, ws, kk, e0, Or.inr rfl⟩⟩

theorem nl : (⟨#[]⟩ : ByteArray).toList = [] := mk_toList []
theorem right_ok (k : Nat) (hk : 2 ≤ k) (o c s : Int) (key value : ByteArray) (h : WishOk o c s key value) : cmd_Right.f k o c s key value = some true := by
  obtain ⟨k, rfl⟩ : ∃ j, k = j + 2 := ⟨k - 2, by omega⟩
  unfold cmd_Right.f
  rcases h with ⟨rfl, rfl, rfl, rfl, rfl⟩ | ⟨ho, hc, hs, hk1, hv, hx⟩
  · rw [if_pos (by rw [nl]; rfl)]
  · have hz : ¬ (o == 0 && (c == 0 && (s == 0 && (key.toList == ([] : List UInt8) && (value.toList == ([] : List UInt8)))))) = true := by
      intro h; have h' := (Bool.and_eq_true _ _ ▸ h).1; have := beq_iff_eq.mp h'; omega
    have hn : ¬ key.toList = ([] : List UInt8) := by rw [toList_nil]; omega
    rw [if_neg hz, if_neg (by omega), if_neg (by omega), if_neg (by omega), if_neg (by omega), decide_eq_false (by omega), cmd_Right.j0, if_neg (by decide), if_neg hn, if_neg (by omega), decide_eq_false (by omega), cmd_Right.j1, if_neg (by decide)]
    by_cases h1 : o = 1
    · rw [if_pos h1]
    · rw [if_neg h1]
      rcases hx with hx | rfl
      · exact absurd hx h1
      · rw [nl]; rfl

def clashB (a0 a1 a2 : Int) (a3 : ByteArray) (b0 b1 b2 : Int) (b3 : ByteArray) : Bool := if a0 = 0 then false else if b0 = 0 then false else if a3.toList = b3.toList then true else if a1 = b1 then a2 == b2 else false
theorem clash_eq (k : Nat) (hk : 1 ≤ k) (a0 a1 a2 : Int) (a3 a4 : ByteArray) (b0 b1 b2 : Int) (b3 b4 : ByteArray) : cmd_Clash.f k a0 a1 a2 a3 a4 b0 b1 b2 b3 b4 = some (clashB a0 a1 a2 a3 b0 b1 b2 b3) := by
  obtain ⟨k, rfl⟩ : ∃ j, k = j + 1 := ⟨k - 1, by omega⟩
  unfold cmd_Clash.f clashB
  by_cases h : a0 = 0
  · rw [if_pos h, if_pos h, cmd_Clash.j0, if_pos rfl]
  · rw [if_neg h, if_neg h, cmd_Clash.j0]
    by_cases g : b0 = 0
    · rw [if_pos (beq_iff_eq.mpr g), if_pos g]
    · rw [if_neg (fun z => g (beq_iff_eq.mp z)), if_neg g]
      split
      · rfl
      · split <;> rfl
theorem clash_comm (a0 a1 a2 : Int) (a3 : ByteArray) (b0 b1 b2 : Int) (b3 : ByteArray) : clashB a0 a1 a2 a3 b0 b1 b2 b3 = clashB b0 b1 b2 b3 a0 a1 a2 a3 := by
  unfold clashB
  have hX : (if a3.toList = b3.toList then true else if a1 = b1 then a2 == b2 else false) = (if b3.toList = a3.toList then true else if b1 = a1 then b2 == a2 else false) := by
    have q : (a2 == b2) = (b2 == a2) := by rw [Bool.eq_iff_iff, beq_iff_eq, beq_iff_eq]; exact eq_comm
    rw [q]
    by_cases e : a3.toList = b3.toList
    · exact (if_pos e).trans (if_pos e.symm).symm
    · refine (if_neg e).trans (Eq.trans ?_ (if_neg (fun z => e z.symm)).symm)
      by_cases f : a1 = b1
      · exact (if_pos f).trans (if_pos f.symm).symm
      · exact (if_neg f).trans (if_neg (fun z => f z.symm)).symm
  rw [hX]
  by_cases h : a0 = 0 <;> by_cases g : b0 = 0 <;> simp [h, g]
end Go.Proofs.YtlljdocflfpnkaaDoor.CmdCmdBack
