-- Written by a program of this session (wip/tools), over the kit's printed words: functions as plain Lean, and that the code answers so.
import Derived.Test.YtlljdocflfpnkaaDoorPCmdBoundsx0
import Derived.Test.YtlljdocflfpnkaaDoorPCmdBoundsx2
import Derived.Test.YtlljdocflfpnkaaDoorPCmdBoundsx3
import Derived.Test.YtlljdocflfpnkaaDoorPCmdBoundsx7
namespace Go.Proofs.YtlljdocflfpnkaaDoor.PCmdBounds
open Go.RowKit Go.Proofs.YtlljdocflfpnkaaDoorW.PrintWords Go.Proofs.YtlljdocflfpnkaaDoorW.PrintLast Go.Proofs.YtlljdocflfpnkaaDoorW.PrintMore
attribute [local go_sem] max2_int min2_int max_two min_two max_three min_three max_four min_four Goto.sig_u8 Goto.sig_u16 Goto.sig_u32 Goto.sig_u64 Goto.top_u8 Goto.top_u16 Goto.top_u32 Goto.top_u64   -- for this text's walks alone
set_option linter.unusedVariables false
set_option linter.unusedSimpArgs false

/-! ### comitialaw07_CmdBounds: function 7 -/
mutual
def comitialaw07_CmdBounds.j0 : Nat → Bool → Bool → Int → Int → Int → ByteArray → ByteArray → Option (Bool)
  | 0, _, _, _, _, _, _, _ => none
  | k + 1, x11, x13, x181000, x181001, x181002, x181003, x181004 => if x181000 ≥ 1 then (if x181000 ≤ 3 then (if x181001 ≥ 1 then (if x181001 ≤ 64 then (if x181002 ≥ 1 then (if (x181003.size : Int) ≥ 1 then (if (x181003.size : Int) ≤ 16 then (if (x181004.size : Int) ≤ 32 then (if x181000 = 1 then (comitialaw07_CmdBounds.j1 k x11 x13 true x181000 x181001 x181002 x181003 x181004) else (comitialaw07_CmdBounds.j1 k x11 x13 (x181004.toList == ([] : List UInt8)) x181000 x181001 x181002 x181003 x181004)) else (comitialaw07_CmdBounds.j1 k x11 x13 false x181000 x181001 x181002 x181003 x181004)) else (comitialaw07_CmdBounds.j1 k x11 x13 false x181000 x181001 x181002 x181003 x181004)) else (comitialaw07_CmdBounds.j1 k x11 x13 false x181000 x181001 x181002 x181003 x181004)) else (comitialaw07_CmdBounds.j1 k x11 x13 false x181000 x181001 x181002 x181003 x181004)) else (comitialaw07_CmdBounds.j1 k x11 x13 false x181000 x181001 x181002 x181003 x181004)) else (comitialaw07_CmdBounds.j1 k x11 x13 false x181000 x181001 x181002 x181003 x181004)) else (comitialaw07_CmdBounds.j1 k x11 x13 false x181000 x181001 x181002 x181003 x181004)) else (comitialaw07_CmdBounds.j1 k x11 x13 false x181000 x181001 x181002 x181003 x181004)
def comitialaw07_CmdBounds.j1 : Nat → Bool → Bool → Bool → Int → Int → Int → ByteArray → ByteArray → Option (Bool)
  | 0, _, _, _, _, _, _, _, _ => none
  | k + 1, x11, x13, x14, x181000, x181001, x181002, x181003, x181004 => (cmd_Bytes.f k x181000 x181001 x181002 x181003 x181004).bind fun bt181 => (if x11 = true then ((cmd_Right.f k x181000 x181001 x181002 x181003 x181004).bind fun t183 => (if x14 = true then (if (t183 == true) = true then (some (bt181.2 == true)) else (some false)) else (if (t183 == x13) = true then (some (bt181.2 == x13)) else (some false)))) else (some false))
end
def comitialaw07_CmdBounds.f (k : Nat) (a0 : Int) (a1 : Int) (a2 : Int) (a3 : Int) (a4 : Int) : Option (Bool) := (comitialaw07_examples.f k).bind fun t173 => (if t173 = true then (if 0 ≤ (wrap64 (Int.tmod a3 20)) then (if (wrap64 (Int.tmod a3 20) : Int).toNat ≤ 281474976710656 then ((some (List.replicate (wrap64 (Int.tmod a3 20) : Int).toNat 0 : List Int)).bind fun y174 => (if 0 ≤ (wrap64 (Int.tmod a4 40)) then (if (wrap64 (Int.tmod a4 40) : Int).toNat ≤ 281474976710656 then ((some (List.replicate (wrap64 (Int.tmod a4 40) : Int).toNat 0 : List Int)).bind fun y177 => (if (wrap64 (Int.tmod a0 6)) = 0 then (if (wrap64 (a1)) = 0 then (if ((Int.tmod a2 4) % 4294967296) = 0 then (if (strOfNums y174).toList = ([] : List UInt8) then (comitialaw07_CmdBounds.j0 k t173 ((strOfNums y177).toList == ([] : List UInt8)) (wrap64 (Int.tmod a0 6)) (wrap64 (a1)) ((Int.tmod a2 4) % 4294967296) (strOfNums y174) (strOfNums y177)) else (comitialaw07_CmdBounds.j0 k t173 false (wrap64 (Int.tmod a0 6)) (wrap64 (a1)) ((Int.tmod a2 4) % 4294967296) (strOfNums y174) (strOfNums y177))) else (comitialaw07_CmdBounds.j0 k t173 false (wrap64 (Int.tmod a0 6)) (wrap64 (a1)) ((Int.tmod a2 4) % 4294967296) (strOfNums y174) (strOfNums y177))) else (comitialaw07_CmdBounds.j0 k t173 false (wrap64 (Int.tmod a0 6)) (wrap64 (a1)) ((Int.tmod a2 4) % 4294967296) (strOfNums y174) (strOfNums y177))) else (comitialaw07_CmdBounds.j0 k t173 false (wrap64 (Int.tmod a0 6)) (wrap64 (a1)) ((Int.tmod a2 4) % 4294967296) (strOfNums y174) (strOfNums y177)))) else (none)) else (none))) else (none)) else (none)) else (some false))
theorem comitialaw07_CmdBounds.mono_l : ∀ k, (∀ y0 y1 y2 y3 y4 y5 y6, LeO (comitialaw07_CmdBounds.j0 k y0 y1 y2 y3 y4 y5 y6) (comitialaw07_CmdBounds.j0 (k + 1) y0 y1 y2 y3 y4 y5 y6)) ∧ (∀ y0 y1 y2 y3 y4 y5 y6 y7, LeO (comitialaw07_CmdBounds.j1 k y0 y1 y2 y3 y4 y5 y6 y7) (comitialaw07_CmdBounds.j1 (k + 1) y0 y1 y2 y3 y4 y5 y6 y7))
  | 0 => ⟨fun _ _ _ _ _ _ _ r h => by simp [comitialaw07_CmdBounds.j0] at h, fun _ _ _ _ _ _ _ _ r h => by simp [comitialaw07_CmdBounds.j1] at h⟩
  | k + 1 => by
    obtain ⟨ih0, ih1⟩ := comitialaw07_CmdBounds.mono_l k
    refine ⟨?_, ?_⟩
    · intro y0 y1 y2 y3 y4 y5 y6
      unfold comitialaw07_CmdBounds.j0
      repeat' first
      | (with_reducible exact ih0 _ _ _ _ _ _ _)
      | (with_reducible exact ih1 _ _ _ _ _ _ _ _)
      | (with_reducible exact cmd_Bytes.mono _ _ _ _ _ _)
      | (with_reducible exact cmd_Right.mono _ _ _ _ _ _)
      | (with_reducible exact comitialaw07_examples.mono _)
      | (with_reducible exact LeO.refl _)
      | (with_reducible exact LeO.none _)
      | (with_reducible refine LeO.ite ?_ ?_)
      | (with_reducible refine LeO.bind ?_ (fun _ => ?_))
      | exact ih0 _ _ _ _ _ _ _
      | exact ih1 _ _ _ _ _ _ _ _
      | exact cmd_Bytes.mono _ _ _ _ _ _
      | exact cmd_Right.mono _ _ _ _ _ _
      | exact comitialaw07_examples.mono _
      | exact LeO.none _
      | refine LeO.ite ?_ ?_
      | refine LeO.bind ?_ (fun _ => ?_)
    · intro y0 y1 y2 y3 y4 y5 y6 y7
      unfold comitialaw07_CmdBounds.j1
      repeat' first
      | (with_reducible exact ih0 _ _ _ _ _ _ _)
      | (with_reducible exact ih1 _ _ _ _ _ _ _ _)
      | (with_reducible exact cmd_Bytes.mono _ _ _ _ _ _)
      | (with_reducible exact cmd_Right.mono _ _ _ _ _ _)
      | (with_reducible exact comitialaw07_examples.mono _)
      | (with_reducible exact LeO.refl _)
      | (with_reducible exact LeO.none _)
      | (with_reducible refine LeO.ite ?_ ?_)
      | (with_reducible refine LeO.bind ?_ (fun _ => ?_))
      | exact ih0 _ _ _ _ _ _ _
      | exact ih1 _ _ _ _ _ _ _ _
      | exact cmd_Bytes.mono _ _ _ _ _ _
      | exact cmd_Right.mono _ _ _ _ _ _
      | exact comitialaw07_examples.mono _
      | exact LeO.none _
      | refine LeO.ite ?_ ?_
      | refine LeO.bind ?_ (fun _ => ?_)
theorem comitialaw07_CmdBounds.mono : ∀ a0 a1 a2 a3 a4 k, LeO (comitialaw07_CmdBounds.f k a0 a1 a2 a3 a4) (comitialaw07_CmdBounds.f (k + 1) a0 a1 a2 a3 a4) := by
  intro a0 a1 a2 a3 a4 k
  obtain ⟨ih0, ih1⟩ := comitialaw07_CmdBounds.mono_l k
  unfold comitialaw07_CmdBounds.f
  repeat' first
      | (with_reducible exact ih0 _ _ _ _ _ _ _)
      | (with_reducible exact ih1 _ _ _ _ _ _ _ _)
      | (with_reducible exact cmd_Bytes.mono _ _ _ _ _ _)
      | (with_reducible exact cmd_Right.mono _ _ _ _ _ _)
      | (with_reducible exact comitialaw07_examples.mono _)
      | (with_reducible exact LeO.refl _)
      | (with_reducible exact LeO.none _)
      | (with_reducible refine LeO.ite ?_ ?_)
      | (with_reducible refine LeO.bind ?_ (fun _ => ?_))
      | exact ih0 _ _ _ _ _ _ _
      | exact ih1 _ _ _ _ _ _ _ _
      | exact cmd_Bytes.mono _ _ _ _ _ _
      | exact cmd_Right.mono _ _ _ _ _ _
      | exact comitialaw07_examples.mono _
      | exact LeO.none _
      | refine LeO.ite ?_ ?_
      | refine LeO.bind ?_ (fun _ => ?_)
def comitialaw07_CmdBounds.T4 : Bool × List (List Nat × List Nat) := (true, [([], []), ([0], [0]), ([1], [1]), ([], []), ([3], [3]), ([], []), ([5], [5]), ([6], [6]), ([], []), ([8], [8]), ([9], [9]), ([10, 10], [10]), ([11], [11]), ([], []), ([13], [13]), ([14], [14]), ([15, 15], [15]), ([16], [16]), ([2, 4, 7, 12, 17], [2, 4, 7, 12, 17]), ([], []), ([19, 18, 0, 1, 2, 3, 4, 5, 6, 7, 8, 9, 10, 11, 12, 13, 14, 15, 16, 17, 18, 19], [18, 19])])
def comitialaw07_CmdBounds.B4 : List Nat := [0, 1, 3, 0, 8, 0, 32, 96, 0, 256, 768, 1792, 3840, 0, 8192, 24576, 57344, 122880, 262143, 0, 1048575]
theorem comitialaw07_CmdBounds.tab4 : rtab .any (opsOf Tryd.f7 4) = comitialaw07_CmdBounds.T4 := by kernel_rfl
theorem comitialaw07_CmdBounds.bits4 : waitsOk comitialaw07_CmdBounds.T4.2 comitialaw07_CmdBounds.B4 = true := by kernel_rfl
set_option maxHeartbeats 8000000 in
set_option maxRecDepth 100000 in
theorem comitialaw07_CmdBounds.calls (k : Nat) (a0 : Int) (a1 : Int) (a2 : Int) (a3 : Int) (a4 : Int) (r : Bool) (w : World) (hT_ : Strconv.Tab w) (h : comitialaw07_CmdBounds.f k a0 a1 a2 a3 a4 = some r) :
    Calls Tryd.prog 7 #[.int .i8 a0, .int .i8 a1, .int .u8 a2, .int .u8 a3, .int .u8 a4] w fun e w' => e = .returned (.bool r) ∧ Below w.heap.size w w' := by
  have hu24 := Tryd.underlying24
  have HSC_ := Aside0.mk hT_
  clear hT_
  have HB := Aside0.mk (Below.refl w.heap.size w)
  have H : ((comitialaw07_examples.f k).bind fun t173 => (if t173 = true then (if 0 ≤ (wrap64 (Int.tmod a3 20)) then (if (wrap64 (Int.tmod a3 20) : Int).toNat ≤ 281474976710656 then ((some (List.replicate (wrap64 (Int.tmod a3 20) : Int).toNat 0 : List Int)).bind fun y174 => (if 0 ≤ (wrap64 (Int.tmod a4 40)) then (if (wrap64 (Int.tmod a4 40) : Int).toNat ≤ 281474976710656 then ((some (List.replicate (wrap64 (Int.tmod a4 40) : Int).toNat 0 : List Int)).bind fun y177 => (if (wrap64 (Int.tmod a0 6)) = 0 then (if (wrap64 (a1)) = 0 then (if ((Int.tmod a2 4) % 4294967296) = 0 then (if (strOfNums y174).toList = ([] : List UInt8) then (comitialaw07_CmdBounds.j0 k t173 ((strOfNums y177).toList == ([] : List UInt8)) (wrap64 (Int.tmod a0 6)) (wrap64 (a1)) ((Int.tmod a2 4) % 4294967296) (strOfNums y174) (strOfNums y177)) else (comitialaw07_CmdBounds.j0 k t173 false (wrap64 (Int.tmod a0 6)) (wrap64 (a1)) ((Int.tmod a2 4) % 4294967296) (strOfNums y174) (strOfNums y177))) else (comitialaw07_CmdBounds.j0 k t173 false (wrap64 (Int.tmod a0 6)) (wrap64 (a1)) ((Int.tmod a2 4) % 4294967296) (strOfNums y174) (strOfNums y177))) else (comitialaw07_CmdBounds.j0 k t173 false (wrap64 (Int.tmod a0 6)) (wrap64 (a1)) ((Int.tmod a2 4) % 4294967296) (strOfNums y174) (strOfNums y177))) else (comitialaw07_CmdBounds.j0 k t173 false (wrap64 (Int.tmod a0 6)) (wrap64 (a1)) ((Int.tmod a2 4) % 4294967296) (strOfNums y174) (strOfNums y177)))) else (none)) else (none))) else (none)) else (none)) else (some false))) = some r := h
  clear h
  replace H := Option.bind_eq_some_iff.mp H
  obtain ⟨t173, A60, H⟩ := H
  replace H : (if t173 = true then (if 0 ≤ (wrap64 (Int.tmod a3 20)) then (if (wrap64 (Int.tmod a3 20) : Int).toNat ≤ 281474976710656 then ((some (List.replicate (wrap64 (Int.tmod a3 20) : Int).toNat 0 : List Int)).bind fun y174 => (if 0 ≤ (wrap64 (Int.tmod a4 40)) then (if (wrap64 (Int.tmod a4 40) : Int).toNat ≤ 281474976710656 then ((some (List.replicate (wrap64 (Int.tmod a4 40) : Int).toNat 0 : List Int)).bind fun y177 => (if (wrap64 (Int.tmod a0 6)) = 0 then (if (wrap64 (a1)) = 0 then (if ((Int.tmod a2 4) % 4294967296) = 0 then (if (strOfNums y174).toList = ([] : List UInt8) then (comitialaw07_CmdBounds.j0 k t173 ((strOfNums y177).toList == ([] : List UInt8)) (wrap64 (Int.tmod a0 6)) (wrap64 (a1)) ((Int.tmod a2 4) % 4294967296) (strOfNums y174) (strOfNums y177)) else (comitialaw07_CmdBounds.j0 k t173 false (wrap64 (Int.tmod a0 6)) (wrap64 (a1)) ((Int.tmod a2 4) % 4294967296) (strOfNums y174) (strOfNums y177))) else (comitialaw07_CmdBounds.j0 k t173 false (wrap64 (Int.tmod a0 6)) (wrap64 (a1)) ((Int.tmod a2 4) % 4294967296) (strOfNums y174) (strOfNums y177))) else (comitialaw07_CmdBounds.j0 k t173 false (wrap64 (Int.tmod a0 6)) (wrap64 (a1)) ((Int.tmod a2 4) % 4294967296) (strOfNums y174) (strOfNums y177))) else (comitialaw07_CmdBounds.j0 k t173 false (wrap64 (Int.tmod a0 6)) (wrap64 (a1)) ((Int.tmod a2 4) % 4294967296) (strOfNums y174) (strOfNums y177)))) else (none)) else (none))) else (none)) else (none)) else (some false)) = some r := H
  have A6 := Aside0.mk A60
  clear A60
  by_cases c7 : t173 = true
  · subst c7
    have H1 : (if 0 ≤ (wrap64 (Int.tmod a3 20)) then (if (wrap64 (Int.tmod a3 20) : Int).toNat ≤ 281474976710656 then ((some (List.replicate (wrap64 (Int.tmod a3 20) : Int).toNat 0 : List Int)).bind fun y174 => (if 0 ≤ (wrap64 (Int.tmod a4 40)) then (if (wrap64 (Int.tmod a4 40) : Int).toNat ≤ 281474976710656 then ((some (List.replicate (wrap64 (Int.tmod a4 40) : Int).toNat 0 : List Int)).bind fun y177 => (if (wrap64 (Int.tmod a0 6)) = 0 then (if (wrap64 (a1)) = 0 then (if ((Int.tmod a2 4) % 4294967296) = 0 then (if (strOfNums y174).toList = ([] : List UInt8) then (comitialaw07_CmdBounds.j0 k true ((strOfNums y177).toList == ([] : List UInt8)) (wrap64 (Int.tmod a0 6)) (wrap64 (a1)) ((Int.tmod a2 4) % 4294967296) (strOfNums y174) (strOfNums y177)) else (comitialaw07_CmdBounds.j0 k true false (wrap64 (Int.tmod a0 6)) (wrap64 (a1)) ((Int.tmod a2 4) % 4294967296) (strOfNums y174) (strOfNums y177))) else (comitialaw07_CmdBounds.j0 k true false (wrap64 (Int.tmod a0 6)) (wrap64 (a1)) ((Int.tmod a2 4) % 4294967296) (strOfNums y174) (strOfNums y177))) else (comitialaw07_CmdBounds.j0 k true false (wrap64 (Int.tmod a0 6)) (wrap64 (a1)) ((Int.tmod a2 4) % 4294967296) (strOfNums y174) (strOfNums y177))) else (comitialaw07_CmdBounds.j0 k true false (wrap64 (Int.tmod a0 6)) (wrap64 (a1)) ((Int.tmod a2 4) % 4294967296) (strOfNums y174) (strOfNums y177)))) else (none)) else (none))) else (none)) else (none)) = some r := by rw [if_pos rfl] at H; exact H
    clear H
    have H := H1
    clear H1
    obtain ⟨ji8, hji8⟩ : ∃ j_ : Int, (wrap64 (Int.tmod a3 20)) = j_ := ⟨_, rfl⟩
    replace H : (if 0 ≤ (ji8) then (if (ji8 : Int).toNat ≤ 281474976710656 then ((some (List.replicate (ji8 : Int).toNat 0 : List Int)).bind fun y174 => (if 0 ≤ (wrap64 (Int.tmod a4 40)) then (if (wrap64 (Int.tmod a4 40) : Int).toNat ≤ 281474976710656 then ((some (List.replicate (wrap64 (Int.tmod a4 40) : Int).toNat 0 : List Int)).bind fun y177 => (if (wrap64 (Int.tmod a0 6)) = 0 then (if (wrap64 (a1)) = 0 then (if ((Int.tmod a2 4) % 4294967296) = 0 then (if (strOfNums y174).toList = ([] : List UInt8) then (comitialaw07_CmdBounds.j0 k true ((strOfNums y177).toList == ([] : List UInt8)) (wrap64 (Int.tmod a0 6)) (wrap64 (a1)) ((Int.tmod a2 4) % 4294967296) (strOfNums y174) (strOfNums y177)) else (comitialaw07_CmdBounds.j0 k true false (wrap64 (Int.tmod a0 6)) (wrap64 (a1)) ((Int.tmod a2 4) % 4294967296) (strOfNums y174) (strOfNums y177))) else (comitialaw07_CmdBounds.j0 k true false (wrap64 (Int.tmod a0 6)) (wrap64 (a1)) ((Int.tmod a2 4) % 4294967296) (strOfNums y174) (strOfNums y177))) else (comitialaw07_CmdBounds.j0 k true false (wrap64 (Int.tmod a0 6)) (wrap64 (a1)) ((Int.tmod a2 4) % 4294967296) (strOfNums y174) (strOfNums y177))) else (comitialaw07_CmdBounds.j0 k true false (wrap64 (Int.tmod a0 6)) (wrap64 (a1)) ((Int.tmod a2 4) % 4294967296) (strOfNums y174) (strOfNums y177)))) else (none)) else (none))) else (none)) else (none)) = some r := by first | (rw [hji8] at H; exact H) | (simp only [hji8] at H ⊢; exact H)
    (try rw [hji8] at A6)
    have hji8w : (IntKind.i64.wrap (Int.tmod a3 20)) = ji8 := (i64_w _).trans hji8
    by_cases c9 : 0 ≤ (ji8)
    · rw [if_pos c9] at H
      have c9b0 := eq_true c9
      have c9b1 : decide (0 ≤ (ji8)) = true := decide_eq_true c9
      clear c9
      by_cases c10 : (ji8 : Int).toNat ≤ 281474976710656
      · rw [if_pos c10] at H
        have c10b0 := eq_true c10
        have c10b1 : decide ((ji8 : Int).toNat ≤ 281474976710656) = true := decide_eq_true c10
        clear c10
        obtain ⟨y174, hy174⟩ : ∃ y_ : List Int, y_ = (List.replicate (ji8 : Int).toNat 0) := ⟨_, rfl⟩
        replace H : (if 0 ≤ (wrap64 (Int.tmod a4 40)) then (if (wrap64 (Int.tmod a4 40) : Int).toNat ≤ 281474976710656 then ((some (List.replicate (wrap64 (Int.tmod a4 40) : Int).toNat 0 : List Int)).bind fun y177 => (if (wrap64 (Int.tmod a0 6)) = 0 then (if (wrap64 (a1)) = 0 then (if ((Int.tmod a2 4) % 4294967296) = 0 then (if (strOfNums y174).toList = ([] : List UInt8) then (comitialaw07_CmdBounds.j0 k true ((strOfNums y177).toList == ([] : List UInt8)) (wrap64 (Int.tmod a0 6)) (wrap64 (a1)) ((Int.tmod a2 4) % 4294967296) (strOfNums y174) (strOfNums y177)) else (comitialaw07_CmdBounds.j0 k true false (wrap64 (Int.tmod a0 6)) (wrap64 (a1)) ((Int.tmod a2 4) % 4294967296) (strOfNums y174) (strOfNums y177))) else (comitialaw07_CmdBounds.j0 k true false (wrap64 (Int.tmod a0 6)) (wrap64 (a1)) ((Int.tmod a2 4) % 4294967296) (strOfNums y174) (strOfNums y177))) else (comitialaw07_CmdBounds.j0 k true false (wrap64 (Int.tmod a0 6)) (wrap64 (a1)) ((Int.tmod a2 4) % 4294967296) (strOfNums y174) (strOfNums y177))) else (comitialaw07_CmdBounds.j0 k true false (wrap64 (Int.tmod a0 6)) (wrap64 (a1)) ((Int.tmod a2 4) % 4294967296) (strOfNums y174) (strOfNums y177)))) else (none)) else (none)) = some r := by first | (rw [hy174]; with_reducible exact H) | (have H2_ := (Option.bind_some _ _).symm.trans H; rw [hy174]; with_reducible exact H2_) | (have H2_ := (Option.bind_some _ _).symm.trans H; with_reducible exact H2_) | with_reducible exact H | (rw [hy174]; exact H) | exact H
        have Ny174 := Aside0.mk hy174
        clear hy174
        obtain ⟨ji11, hji11⟩ : ∃ j_ : Int, (wrap64 (Int.tmod a4 40)) = j_ := ⟨_, rfl⟩
        replace H : (if 0 ≤ (ji11) then (if (ji11 : Int).toNat ≤ 281474976710656 then ((some (List.replicate (ji11 : Int).toNat 0 : List Int)).bind fun y177 => (if (wrap64 (Int.tmod a0 6)) = 0 then (if (wrap64 (a1)) = 0 then (if ((Int.tmod a2 4) % 4294967296) = 0 then (if (strOfNums y174).toList = ([] : List UInt8) then (comitialaw07_CmdBounds.j0 k true ((strOfNums y177).toList == ([] : List UInt8)) (wrap64 (Int.tmod a0 6)) (wrap64 (a1)) ((Int.tmod a2 4) % 4294967296) (strOfNums y174) (strOfNums y177)) else (comitialaw07_CmdBounds.j0 k true false (wrap64 (Int.tmod a0 6)) (wrap64 (a1)) ((Int.tmod a2 4) % 4294967296) (strOfNums y174) (strOfNums y177))) else (comitialaw07_CmdBounds.j0 k true false (wrap64 (Int.tmod a0 6)) (wrap64 (a1)) ((Int.tmod a2 4) % 4294967296) (strOfNums y174) (strOfNums y177))) else (comitialaw07_CmdBounds.j0 k true false (wrap64 (Int.tmod a0 6)) (wrap64 (a1)) ((Int.tmod a2 4) % 4294967296) (strOfNums y174) (strOfNums y177))) else (comitialaw07_CmdBounds.j0 k true false (wrap64 (Int.tmod a0 6)) (wrap64 (a1)) ((Int.tmod a2 4) % 4294967296) (strOfNums y174) (strOfNums y177)))) else (none)) else (none)) = some r := by first | (rw [hji11] at H; exact H) | (simp only [hji11] at H ⊢; exact H)
        (try rw [hji11] at A6)
        have hji11w : (IntKind.i64.wrap (Int.tmod a4 40)) = ji11 := (i64_w _).trans hji11
        by_cases c12 : 0 ≤ (ji11)
        · rw [if_pos c12] at H
          have c12b0 := eq_true c12
          have c12b1 : decide (0 ≤ (ji11)) = true := decide_eq_true c12
          clear c12
          by_cases c13 : (ji11 : Int).toNat ≤ 281474976710656
          · rw [if_pos c13] at H
            have c13b0 := eq_true c13
            have c13b1 : decide ((ji11 : Int).toNat ≤ 281474976710656) = true := decide_eq_true c13
            clear c13
            obtain ⟨y177, hy177⟩ : ∃ y_ : List Int, y_ = (List.replicate (ji11 : Int).toNat 0) := ⟨_, rfl⟩
            replace H : (if (wrap64 (Int.tmod a0 6)) = 0 then (if (wrap64 (a1)) = 0 then (if ((Int.tmod a2 4) % 4294967296) = 0 then (if (strOfNums y174).toList = ([] : List UInt8) then (comitialaw07_CmdBounds.j0 k true ((strOfNums y177).toList == ([] : List UInt8)) (wrap64 (Int.tmod a0 6)) (wrap64 (a1)) ((Int.tmod a2 4) % 4294967296) (strOfNums y174) (strOfNums y177)) else (comitialaw07_CmdBounds.j0 k true false (wrap64 (Int.tmod a0 6)) (wrap64 (a1)) ((Int.tmod a2 4) % 4294967296) (strOfNums y174) (strOfNums y177))) else (comitialaw07_CmdBounds.j0 k true false (wrap64 (Int.tmod a0 6)) (wrap64 (a1)) ((Int.tmod a2 4) % 4294967296) (strOfNums y174) (strOfNums y177))) else (comitialaw07_CmdBounds.j0 k true false (wrap64 (Int.tmod a0 6)) (wrap64 (a1)) ((Int.tmod a2 4) % 4294967296) (strOfNums y174) (strOfNums y177))) else (comitialaw07_CmdBounds.j0 k true false (wrap64 (Int.tmod a0 6)) (wrap64 (a1)) ((Int.tmod a2 4) % 4294967296) (strOfNums y174) (strOfNums y177))) = some r := by first | (rw [hy177]; with_reducible exact H) | (have H2_ := (Option.bind_some _ _).symm.trans H; rw [hy177]; with_reducible exact H2_) | (have H2_ := (Option.bind_some _ _).symm.trans H; with_reducible exact H2_) | with_reducible exact H | (rw [hy177]; exact H) | exact H
            have Ny177 := Aside0.mk hy177
            clear hy177
            have HC14 := Aside0.mk H
            clear H
            go_enter Tryd.func7, Tryd.ntmps7
            try go_wp2_with (first | ((with_reducible refine gate_callee (f := 9) rfl ?_); refine goesL_ (some 17) rfl rfl Tryd.func9 (by kernel_rfl) rfl #[] rfl (by (try simp only [List.map_toArray, List.map_cons, List.map_nil]); first | done | rfl | (simp only [List.length_drop, List.length_take]; rfl)) ?_; (with_reducible refine (comitialaw07_examples.calls k  true _ ?side1 A6.out).mono ?_); (case side1 => first | (with_reducible exact HSC_.out) | exact Strconv.Tab.below HSC_.out (by repeat (first | (with_reducible first | exact HB.out | apply below_alloc | apply pw_below_drewN | apply below_drew1) | exact HB.out))); rintro e w15 ⟨rfl, hb⟩; refine ⟨_, rfl, ?_⟩; have n0_ := Aside0.mk (below_step (by repeat (first | (with_reducible first | exact HB.out | apply below_alloc | apply pw_below_drewN | apply below_drew1) | exact HB.out)) hb); clear HB; have HB := n0_; clear n0_; (try clear hb); (try clear hb2); (try clear hk); (try clear hi)))
            have n0_ := Aside0.mk (below_drew1 HB.out)
            clear HB
            have HB := n0_
            clear n0_
            refine start_ (n := 21) (S := fun w' => True) (ds := []) #[false, false, false, false, false, false, false, false, false, false, false, false, false, false, false, false, false, false, false, false, false] (by kernel_rfl) rfl rfl trivial (fun hHeld => ?_); refine with_tabW comitialaw07_CmdBounds.tab4 comitialaw07_CmdBounds.bits4 (fun HT_ HW_ => ?_)
            generalize w15.drew = w16 at HB hHeld ⊢
            refine pure_ (i := 0) (N := some 20) (v := ?_) (a' := ?_) #[true, false, false, false, false, false, false, false, false, false, false, false, false, false, false, false, false, false, false, false, false] rfl rfl (any_of HT_.out (by kernel_rfl)) (fun _ _ _ h => h) (Or.inl ⟨by rfl, ?_⟩) ?_ ?_
            rotate_left
            · intro w'
              go_simp
              with_reducible rfl
            rotate_left
            · simp only [Act.put, List.setIfInBounds_toArray, List.set_cons_zero, List.set_cons_succ, i64_w, i32_w, IntKind.wrap_u8, IntKind.wrap_u32]
              rfl
            refine pure_ (i := 1) (N := some 21) (v := ?_) (a' := ?_) #[true, true, false, false, false, false, false, false, false, false, false, false, false, false, false, false, false, false, false, false, false] rfl rfl (any_of HT_.out (by kernel_rfl)) (fun _ _ _ h => h) (Or.inl ⟨by rfl, ?_⟩) ?_ ?_
            rotate_left
            · intro w'
              go_simp
              with_reducible rfl
            rotate_left
            · simp only [Act.put, List.setIfInBounds_toArray, List.set_cons_zero, List.set_cons_succ, i64_w, i32_w, IntKind.wrap_u8, IntKind.wrap_u32]
              rfl
            refine pure_ (i := 2) (N := some 22) (v := ?_) (a' := ?_) #[true, true, true, false, false, false, false, false, false, false, false, false, false, false, false, false, false, false, false, false, false] rfl rfl (any_of HT_.out (by kernel_rfl)) (fun _ _ _ h => h) (Or.inl ⟨by rfl, ?_⟩) ?_ ?_
            rotate_left
            · intro w'
              go_simp
              with_reducible rfl
            rotate_left
            · simp only [Act.put, List.setIfInBounds_toArray, List.set_cons_zero, List.set_cons_succ, i64_w, i32_w, IntKind.wrap_u8, IntKind.wrap_u32]
              rfl
            refine pure_ (i := 3) (N := some 23) (v := ?_) (a' := ?_) #[true, true, true, true, false, false, false, false, false, false, false, false, false, false, false, false, false, false, false, false, false] rfl rfl (any_of HT_.out (by kernel_rfl)) (fun _ _ _ h => h) (Or.inl ⟨by rfl, ?_⟩) ?_ ?_
            rotate_left
            · intro w'
              go_simp
              with_reducible rfl
            rotate_left
            · simp only [Act.put, List.setIfInBounds_toArray, List.set_cons_zero, List.set_cons_succ, i64_w, i32_w, IntKind.wrap_u8, IntKind.wrap_u32]
              rfl
            refine pure_ (i := 4) (N := some 24) (v := ?_) (a' := ?_) #[true, true, true, true, true, false, false, false, false, false, false, false, false, false, false, false, false, false, false, false, false] rfl rfl (any_of HT_.out (by kernel_rfl)) (fun _ _ _ h => h) (Or.inl ⟨by rfl, ?_⟩) ?_ ?_
            rotate_left
            · intro w'
              go_simp
              with_reducible rfl
            rotate_left
            · simp only [Act.put, List.setIfInBounds_toArray, List.set_cons_zero, List.set_cons_succ, i64_w, i32_w, IntKind.wrap_u8, IntKind.wrap_u32]
              rfl
            refine pure_ (i := 5) (N := some 25) (v := ?_) (a' := ?_) #[true, true, true, true, true, true, false, false, false, false, false, false, false, false, false, false, false, false, false, false, false] rfl rfl (any_of HT_.out (by kernel_rfl)) (fun _ _ _ h => h) (Or.inl ⟨by rfl, ?_⟩) ?_ ?_
            rotate_left
            · intro w'
              go_simp
              with_reducible rfl
            rotate_left
            · simp only [Act.put, List.setIfInBounds_toArray, List.set_cons_zero, List.set_cons_succ, i64_w, i32_w, IntKind.wrap_u8, IntKind.wrap_u32]
              rfl
            refine pure_ (i := 6) (N := some 26) (v := ?_) (a' := ?_) #[true, true, true, true, true, true, true, false, false, false, false, false, false, false, false, false, false, false, false, false, false] rfl rfl (any_of HT_.out (by kernel_rfl)) (fun _ _ _ h => h) (Or.inl ⟨by rfl, ?_⟩) ?_ ?_
            rotate_left
            · intro w'
              go_simp
              with_reducible rfl
            rotate_left
            · simp only [Act.put, List.setIfInBounds_toArray, List.set_cons_zero, List.set_cons_succ, i64_w, i32_w, IntKind.wrap_u8, IntKind.wrap_u32]
              rfl
            refine pure_ (i := 7) (N := some 27) (v := ?_) (a' := ?_) #[true, true, true, true, true, true, true, true, false, false, false, false, false, false, false, false, false, false, false, false, false] rfl rfl (any_of HT_.out (by kernel_rfl)) (fun _ _ _ h => h) (Or.inl ⟨by rfl, ?_⟩) ?_ ?_
            rotate_left
            · intro w'
              go_simp
              with_reducible rfl
            rotate_left
            · simp only [Act.put, List.setIfInBounds_toArray, List.set_cons_zero, List.set_cons_succ, i64_w, i32_w, IntKind.wrap_u8, IntKind.wrap_u32]
              rfl
            refine pure_ (i := 8) (N := some 28) (v := ?_) (a' := ?_) #[true, true, true, true, true, true, true, true, true, false, false, false, false, false, false, false, false, false, false, false, false] rfl rfl (any_of HT_.out (by kernel_rfl)) (fun _ _ _ h => h) (Or.inl ⟨by rfl, ?_⟩) ?_ ?_
            rotate_left
            · intro w'
              go_simp
              with_reducible rfl
            rotate_left
            · simp only [Act.put, List.setIfInBounds_toArray, List.set_cons_zero, List.set_cons_succ, i64_w, i32_w, IntKind.wrap_u8, IntKind.wrap_u32]
              rfl
            refine pure_ (i := 9) (N := some 29) (v := ?_) (a' := ?_) #[true, true, true, true, true, true, true, true, true, true, false, false, false, false, false, false, false, false, false, false, false] rfl rfl (any_of HT_.out (by kernel_rfl)) (fun _ _ _ h => h) (Or.inl ⟨by rfl, ?_⟩) ?_ ?_
            rotate_left
            · intro w'
              go_simp
              with_reducible rfl
            rotate_left
            · simp only [Act.put, List.setIfInBounds_toArray, List.set_cons_zero, List.set_cons_succ, i64_w, i32_w, IntKind.wrap_u8, IntKind.wrap_u32]
              rfl
            refine pure_ (i := 10) (N := some 30) (v := ?_) (a' := ?_) #[true, true, true, true, true, true, true, true, true, true, true, false, false, false, false, false, false, false, false, false, false] rfl rfl (any_of HT_.out (by kernel_rfl)) (fun _ _ _ h => h) (Or.inl ⟨by rfl, ?_⟩) ?_ ?_
            rotate_left
            · intro w'
              go_simp
              with_reducible rfl
            rotate_left
            · simp only [Act.put, List.setIfInBounds_toArray, List.set_cons_zero, List.set_cons_succ, i64_w, i32_w, IntKind.wrap_u8, IntKind.wrap_u32]
              rfl
            refine pure_ (i := 13) (N := some 33) (v := ?_) (a' := ?_) #[true, true, true, true, true, true, true, true, true, true, true, false, false, true, false, false, false, false, false, false, false] rfl rfl (any_of HT_.out (by kernel_rfl)) (fun _ _ _ h => h) (Or.inl ⟨by rfl, ?_⟩) ?_ ?_
            rotate_left
            · intro w'
              go_simp
              with_reducible rfl
            rotate_left
            · simp only [Act.put, List.setIfInBounds_toArray, List.set_cons_zero, List.set_cons_succ, i64_w, i32_w, IntKind.wrap_u8, IntKind.wrap_u32]
              rfl
            refine pure_ (i := 14) (N := some 34) (v := ?_) (a' := ?_) #[true, true, true, true, true, true, true, true, true, true, true, false, false, true, true, false, false, false, false, false, false] rfl rfl (any_of HT_.out (by kernel_rfl)) (fun _ _ _ h => h) (Or.inl ⟨by rfl, ?_⟩) ?_ ?_
            rotate_left
            · intro w'
              go_simp
              with_reducible rfl
            rotate_left
            · simp only [Act.put, List.setIfInBounds_toArray, List.set_cons_zero, List.set_cons_succ, i64_w, i32_w, IntKind.wrap_u8, IntKind.wrap_u32]
              rfl
            refine pure_ (i := 15) (N := some 35) (v := ?_) (a' := ?_) #[true, true, true, true, true, true, true, true, true, true, true, false, false, true, true, true, false, false, false, false, false] rfl rfl (any_of HT_.out (by kernel_rfl)) (fun _ _ _ h => h) (Or.inl ⟨by rfl, ?_⟩) ?_ ?_
            rotate_left
            · intro w'
              go_simp
              with_reducible rfl
            rotate_left
            · simp only [Act.put, List.setIfInBounds_toArray, List.set_cons_zero, List.set_cons_succ, i64_w, i32_w, IntKind.wrap_u8, IntKind.wrap_u32]
              rfl
            refine join_ (σ := Value × Value × Nat) 1 #[true, true, true, true, true, true, true, true, true, true, true, true, true, true, true, true, true, true, true, true, false] (fun s_ => [(31, s_.1), (32, .string (strOfNums y174)), (36, s_.2.1), (37, .string (strOfNums y177)), (12, .pointer (some ⟨s_.2.2, 0, none⟩)), (38, .agg #[.int .i64 (wrap64 (Int.tmod a0 6)), .int .i64 (wrap64 (a1)), .int .u32 ((Int.tmod a2 4) % 4294967296), .string (strOfNums y174), .string (strOfNums y177)])]) (fun s_ w' => (Kd.R (Kd.int .u8) 5 w' w.heap.size (fun k_ => some k_ ≠ (s_.2.1 : Value).ownBlock) s_.1 y174) ∧ (Kd.R (Kd.int .u8) 5 w' w.heap.size (fun k_ => some k_ ≠ (s_.1 : Value).ownBlock) s_.2.1 y177) ∧ (w'.heap[s_.2.2]? = some (.cells #[.int .i64 0, .int .i64 0, .int .u32 0, .string (⟨#[]⟩ : ByteArray), .string (⟨#[]⟩ : ByteArray)] 24 (0, 0))) ∧ (w.heap.size ≤ s_.2.2) ∧ (w.heap.size ≤ s_.2.2) ∧ (Below w.heap.size w w')) ?_ ?_
            rotate_left
            · intro hJ11_12_16_17_19
              refine join_ (σ := Value × Value) 2 #[true, true, true, true, true, true, true, true, true, true, true, true, true, true, true, true, true, true, true, false, false] (fun s_ => [(31, s_.1), (32, .string (strOfNums y174)), (36, s_.2), (37, .string (strOfNums y177)), (38, .agg #[.int .i64 (wrap64 (Int.tmod a0 6)), .int .i64 (wrap64 (a1)), .int .u32 ((Int.tmod a2 4) % 4294967296), .string (strOfNums y174), .string (strOfNums y177)])]) (fun s_ w' => (Kd.R (Kd.int .u8) 5 w' w.heap.size (fun k_ => some k_ ≠ (s_.2 : Value).ownBlock) s_.1 y174) ∧ (Kd.R (Kd.int .u8) 5 w' w.heap.size (fun k_ => some k_ ≠ (s_.1 : Value).ownBlock) s_.2 y177) ∧ (Below w.heap.size w w')) ?_ ?_
              rotate_left
              · intro hJ11_12_16_17
                refine join_ (σ := Value × Value × Nat) 3 #[true, true, true, true, true, true, true, true, true, true, true, true, true, true, true, true, true, false, false, true, false] (fun s_ => [(31, s_.1), (32, .string (strOfNums y174)), (36, s_.2.1), (12, .pointer (some ⟨s_.2.2, 0, none⟩))]) (fun s_ w' => (Kd.R (Kd.int .u8) 5 w' w.heap.size (fun k_ => some k_ ≠ (s_.2.1 : Value).ownBlock) s_.1 y174) ∧ (Kd.R (Kd.int .u8) 5 w' w.heap.size (fun k_ => some k_ ≠ (s_.1 : Value).ownBlock) s_.2.1 y177) ∧ (w'.heap[s_.2.2]? = some (.cells #[.int .i64 0, .int .i64 0, .int .u32 0, .string (⟨#[]⟩ : ByteArray), .string (⟨#[]⟩ : ByteArray)] 24 (0, 0))) ∧ (w.heap.size ≤ s_.2.2) ∧ (w.heap.size ≤ s_.2.2) ∧ (Below w.heap.size w w')) ?_ ?_
                rotate_left
                · intro hJ11_12_16_19
                  refine join_ (σ := Value × Value × Nat) 3 #[true, true, true, true, true, true, true, true, true, true, true, true, false, true, true, true, true, true, false, true, false] (fun s_ => [(31, s_.1), (36, s_.2.1), (37, .string (strOfNums y177)), (12, .pointer (some ⟨s_.2.2, 0, none⟩))]) (fun s_ w' => (Kd.R (Kd.int .u8) 5 w' w.heap.size (fun k_ => some k_ ≠ (s_.2.1 : Value).ownBlock) s_.1 y174) ∧ (Kd.R (Kd.int .u8) 5 w' w.heap.size (fun k_ => some k_ ≠ (s_.1 : Value).ownBlock) s_.2.1 y177) ∧ (w'.heap[s_.2.2]? = some (.cells #[.int .i64 0, .int .i64 0, .int .u32 0, .string (⟨#[]⟩ : ByteArray), .string (⟨#[]⟩ : ByteArray)] 24 (0, 0))) ∧ (w.heap.size ≤ s_.2.2) ∧ (w.heap.size ≤ s_.2.2) ∧ (Below w.heap.size w w')) ?_ ?_
                  rotate_left
                  · intro hJ11_16_17_19
                    refine join_ (σ := Value × Value) 4 #[true, true, true, true, true, true, true, true, true, true, true, true, true, true, true, true, true, false, false, false, false] (fun s_ => [(31, s_.1), (32, .string (strOfNums y174)), (36, s_.2)]) (fun s_ w' => (Kd.R (Kd.int .u8) 5 w' w.heap.size (fun k_ => some k_ ≠ (s_.2 : Value).ownBlock) s_.1 y174) ∧ (Kd.R (Kd.int .u8) 5 w' w.heap.size (fun k_ => some k_ ≠ (s_.1 : Value).ownBlock) s_.2 y177) ∧ (Below w.heap.size w w')) ?_ ?_
                    rotate_left
                    · intro hJ11_12_16
                      refine join_ (σ := Value × Nat) 4 #[true, true, true, true, true, true, true, true, true, true, true, true, true, true, true, true, false, false, false, true, false] (fun s_ => [(31, s_.1), (32, .string (strOfNums y174)), (12, .pointer (some ⟨s_.2, 0, none⟩))]) (fun s_ w' => (Kd.R (Kd.int .u8) 5 w' w.heap.size (fun _ => True) s_.1 y174) ∧ (w'.heap[s_.2]? = some (.cells #[.int .i64 0, .int .i64 0, .int .u32 0, .string (⟨#[]⟩ : ByteArray), .string (⟨#[]⟩ : ByteArray)] 24 (0, 0))) ∧ (w.heap.size ≤ s_.2) ∧ (w.heap.size ≤ s_.2) ∧ (Below w.heap.size w w')) ?_ ?_
                      rotate_left
                      · intro hJ11_12_19
                        refine join_ (σ := Value × Value) 4 #[true, true, true, true, true, true, true, true, true, true, true, true, false, true, true, true, true, true, false, false, false] (fun s_ => [(31, s_.1), (36, s_.2), (37, .string (strOfNums y177))]) (fun s_ w' => (Kd.R (Kd.int .u8) 5 w' w.heap.size (fun k_ => some k_ ≠ (s_.2 : Value).ownBlock) s_.1 y174) ∧ (Kd.R (Kd.int .u8) 5 w' w.heap.size (fun k_ => some k_ ≠ (s_.1 : Value).ownBlock) s_.2 y177) ∧ (Below w.heap.size w w')) ?_ ?_
                        rotate_left
                        · intro hJ11_16_17
                          refine join_ (σ := Value × Value × Nat) 4 #[true, true, true, true, true, true, true, true, true, true, true, true, false, true, true, true, true, false, false, true, false] (fun s_ => [(31, s_.1), (36, s_.2.1), (12, .pointer (some ⟨s_.2.2, 0, none⟩))]) (fun s_ w' => (Kd.R (Kd.int .u8) 5 w' w.heap.size (fun k_ => some k_ ≠ (s_.2.1 : Value).ownBlock) s_.1 y174) ∧ (Kd.R (Kd.int .u8) 5 w' w.heap.size (fun k_ => some k_ ≠ (s_.1 : Value).ownBlock) s_.2.1 y177) ∧ (w'.heap[s_.2.2]? = some (.cells #[.int .i64 0, .int .i64 0, .int .u32 0, .string (⟨#[]⟩ : ByteArray), .string (⟨#[]⟩ : ByteArray)] 24 (0, 0))) ∧ (w.heap.size ≤ s_.2.2) ∧ (w.heap.size ≤ s_.2.2) ∧ (Below w.heap.size w w')) ?_ ?_
                          rotate_left
                          · intro hJ11_16_19
                            refine join_ (σ := Value × Nat) 4 #[true, true, true, true, true, true, true, true, true, true, true, false, false, true, true, true, true, true, false, true, false] (fun s_ => [(36, s_.1), (37, .string (strOfNums y177)), (12, .pointer (some ⟨s_.2, 0, none⟩))]) (fun s_ w' => (Kd.R (Kd.int .u8) 5 w' w.heap.size (fun _ => True) s_.1 y177) ∧ (w'.heap[s_.2]? = some (.cells #[.int .i64 0, .int .i64 0, .int .u32 0, .string (⟨#[]⟩ : ByteArray), .string (⟨#[]⟩ : ByteArray)] 24 (0, 0))) ∧ (w.heap.size ≤ s_.2) ∧ (w.heap.size ≤ s_.2) ∧ (Below w.heap.size w w')) ?_ ?_
                            rotate_left
                            · intro hJ16_17_19
                              refine join_ (σ := Value) 5 #[true, true, true, true, true, true, true, true, true, true, true, true, true, true, true, true, false, false, false, false, false] (fun s_ => [(31, s_), (32, .string (strOfNums y174))]) (fun s_ w' => (Kd.R (Kd.int .u8) 5 w' w.heap.size (fun _ => True) s_ y174) ∧ (Below w.heap.size w w')) ?_ ?_
                              rotate_left
                              · intro hJ11_12
                                refine join_ (σ := Value × Value) 5 #[true, true, true, true, true, true, true, true, true, true, true, true, false, true, true, true, true, false, false, false, false] (fun s_ => [(31, s_.1), (36, s_.2)]) (fun s_ w' => (Kd.R (Kd.int .u8) 5 w' w.heap.size (fun k_ => some k_ ≠ (s_.2 : Value).ownBlock) s_.1 y174) ∧ (Kd.R (Kd.int .u8) 5 w' w.heap.size (fun k_ => some k_ ≠ (s_.1 : Value).ownBlock) s_.2 y177) ∧ (Below w.heap.size w w')) ?_ ?_
                                rotate_left
                                · intro hJ11_16
                                  refine join_ (σ := Value × Nat) 5 #[true, true, true, true, true, true, true, true, true, true, true, true, false, true, true, true, false, false, false, true, false] (fun s_ => [(31, s_.1), (12, .pointer (some ⟨s_.2, 0, none⟩))]) (fun s_ w' => (Kd.R (Kd.int .u8) 5 w' w.heap.size (fun _ => True) s_.1 y174) ∧ (w'.heap[s_.2]? = some (.cells #[.int .i64 0, .int .i64 0, .int .u32 0, .string (⟨#[]⟩ : ByteArray), .string (⟨#[]⟩ : ByteArray)] 24 (0, 0))) ∧ (w.heap.size ≤ s_.2) ∧ (w.heap.size ≤ s_.2) ∧ (Below w.heap.size w w')) ?_ ?_
                                  rotate_left
                                  · intro hJ11_19
                                    refine join_ (σ := Value) 5 #[true, true, true, true, true, true, true, true, true, true, true, false, false, true, true, true, true, true, false, false, false] (fun s_ => [(36, s_), (37, .string (strOfNums y177))]) (fun s_ w' => (Kd.R (Kd.int .u8) 5 w' w.heap.size (fun _ => True) s_ y177) ∧ (Below w.heap.size w w')) ?_ ?_
                                    rotate_left
                                    · intro hJ16_17
                                      refine join_ (σ := Value × Nat) 5 #[true, true, true, true, true, true, true, true, true, true, true, false, false, true, true, true, true, false, false, true, false] (fun s_ => [(36, s_.1), (12, .pointer (some ⟨s_.2, 0, none⟩))]) (fun s_ w' => (Kd.R (Kd.int .u8) 5 w' w.heap.size (fun _ => True) s_.1 y177) ∧ (w'.heap[s_.2]? = some (.cells #[.int .i64 0, .int .i64 0, .int .u32 0, .string (⟨#[]⟩ : ByteArray), .string (⟨#[]⟩ : ByteArray)] 24 (0, 0))) ∧ (w.heap.size ≤ s_.2) ∧ (w.heap.size ≤ s_.2) ∧ (Below w.heap.size w w')) ?_ ?_
                                      rotate_left
                                      · intro hJ16_19
                                        refine join_ (σ := Value) 6 #[true, true, true, true, true, true, true, true, true, true, true, true, false, true, true, true, false, false, false, false, false] (fun s_ => [(31, s_)]) (fun s_ w' => (Kd.R (Kd.int .u8) 5 w' w.heap.size (fun _ => True) s_ y174) ∧ (Below w.heap.size w w')) ?_ ?_
                                        rotate_left
                                        · intro hJ11
                                          refine join_ (σ := Value) 6 #[true, true, true, true, true, true, true, true, true, true, true, false, false, true, true, true, true, false, false, false, false] (fun s_ => [(36, s_)]) (fun s_ w' => (Kd.R (Kd.int .u8) 5 w' w.heap.size (fun _ => True) s_ y177) ∧ (Below w.heap.size w w')) ?_ ?_
                                          rotate_left
                                          · intro hJ16
                                            refine join_ (σ := Nat) 6 #[true, true, true, true, true, true, true, true, true, true, true, false, false, true, true, true, false, false, false, true, false] (fun s_ => [(12, .pointer (some ⟨s_, 0, none⟩))]) (fun s_ w' => (w'.heap[s_]? = some (.cells #[.int .i64 0, .int .i64 0, .int .u32 0, .string (⟨#[]⟩ : ByteArray), .string (⟨#[]⟩ : ByteArray)] 24 (0, 0))) ∧ (w.heap.size ≤ s_) ∧ (w.heap.size ≤ s_) ∧ (Below w.heap.size w w')) ?_ ?_
                                            rotate_left
                                            · intro hJ19
                                              refine three_ (i := 11) (j := 16) (k := 19) (Ni := some 31) (Nj := some 36) (Nk := some 12) #[true, true, true, true, true, true, true, true, true, true, true, true, false, true, true, true, false, false, false, false, false] #[true, true, true, true, true, true, true, true, true, true, true, false, false, true, true, true, true, false, false, false, false] #[true, true, true, true, true, true, true, true, true, true, true, false, false, true, true, true, false, false, false, true, false] rfl rfl rfl rfl rfl rfl (three_of HT_.out (by kernel_rfl)) (by decide) (by decide) (by decide) (fun K hK => ?_) (fun K hK => ?_) (fun K hK => ?_)
                                              · skip
                                                refine Kd.R_make_step (Kd.int .u8) _ 5 (by rfl) (N := 31) rfl 52 _ _ rfl ji8 rfl rfl Tryd.underlying52 (.int .u8 0) 1 info5 rfl (by decide) (by omega) 0 (ok := fun _ => True) (okp := fun _ => True) rfl (fun _ hk => hk) trivial (of_decide_eq_true (by first | (with_reducible assumption) | assumption)) (Nat.le_trans (Nat.mul_le_mul_right _ (of_decide_eq_true (by first | (with_reducible assumption) | assumption) : ji8.toNat ≤ 281474976710656)) (by omega)) (Below.refl _ _) (Nat.le_refl _) ?_
                                                intro v175 w17 ho18 hb hg_ hnew_
                                                clear hg_ hnew_
                                                (first | rw [← Ny174.out] at ho18 | (simp only [Int.reduceToNat] at ho18; rw [← Ny174.out] at ho18))
                                                have n0_ := Aside0.mk (Kd.R_lower ho18 (below_size (by repeat (first | (with_reducible first | exact HB.out | apply below_alloc | apply pw_below_drewN | apply below_drew1) | exact HB.out))))
                                                have n1_ := Aside0.mk (below_step (by repeat (first | (with_reducible first | exact HB.out | apply below_alloc | apply pw_below_drewN | apply below_drew1) | exact HB.out)) hb)
                                                clear HB
                                                have HO176 := n0_
                                                have HB := n1_
                                                clear n0_ n1_
                                                clear hb ho18
                                                refine hK.out _ _ trivial (fun hHeld => ?_)
                                                clear hK K
                                                refine norm_ (a' := ?_) ?_ ?_
                                                rotate_left
                                                · show Act.put _ (some 31) _ = _
                                                  simp only [Act.put, List.setIfInBounds_toArray, List.set_cons_zero, List.set_cons_succ, i64_w, i32_w, IntKind.wrap_u8, IntKind.wrap_u32]
                                                  rfl
                                                exact norm_ (by first | (simp only [putAll, Act.put, List.setIfInBounds_toArray, List.set_cons_zero, List.set_cons_succ]; done) | (simp only [putAll, Act.put, List.setIfInBounds_toArray, List.set_cons_zero, List.set_cons_succ]; rfl)) (hJ11 (v175) _ ⟨(by (with_reducible repeat (first | apply Kd.R_alloc | apply Kd.R_drewN | apply Kd.R_drew)); exact HO176.out), (by repeat (first | (with_reducible first | exact HB.out | apply below_alloc | apply pw_below_drewN | apply below_drew1) | exact HB.out))⟩)
                                              · skip
                                                refine Kd.R_make_step (Kd.int .u8) _ 5 (by rfl) (N := 36) rfl 52 _ _ rfl ji11 rfl rfl Tryd.underlying52 (.int .u8 0) 1 info5 rfl (by decide) (by omega) 0 (ok := fun _ => True) (okp := fun _ => True) rfl (fun _ hk => hk) trivial (of_decide_eq_true (by first | (with_reducible assumption) | assumption)) (Nat.le_trans (Nat.mul_le_mul_right _ (of_decide_eq_true (by first | (with_reducible assumption) | assumption) : ji11.toNat ≤ 281474976710656)) (by omega)) (Below.refl _ _) (Nat.le_refl _) ?_
                                                intro v178 w17 ho18 hb hg_ hnew_
                                                clear hg_ hnew_
                                                (first | rw [← Ny177.out] at ho18 | (simp only [Int.reduceToNat] at ho18; rw [← Ny177.out] at ho18))
                                                have n0_ := Aside0.mk (Kd.R_lower ho18 (below_size (by repeat (first | (with_reducible first | exact HB.out | apply below_alloc | apply pw_below_drewN | apply below_drew1) | exact HB.out))))
                                                have n1_ := Aside0.mk (below_step (by repeat (first | (with_reducible first | exact HB.out | apply below_alloc | apply pw_below_drewN | apply below_drew1) | exact HB.out)) hb)
                                                clear HB
                                                have HO179 := n0_
                                                have HB := n1_
                                                clear n0_ n1_
                                                clear hb ho18
                                                refine hK.out _ _ trivial (fun hHeld => ?_)
                                                clear hK K
                                                refine norm_ (a' := ?_) ?_ ?_
                                                rotate_left
                                                · show Act.put _ (some 36) _ = _
                                                  simp only [Act.put, List.setIfInBounds_toArray, List.set_cons_zero, List.set_cons_succ, i64_w, i32_w, IntKind.wrap_u8, IntKind.wrap_u32]
                                                  rfl
                                                exact norm_ (by first | (simp only [putAll, Act.put, List.setIfInBounds_toArray, List.set_cons_zero, List.set_cons_succ]; done) | (simp only [putAll, Act.put, List.setIfInBounds_toArray, List.set_cons_zero, List.set_cons_succ]; rfl)) (hJ16 (v178) _ ⟨(by (with_reducible repeat (first | apply Kd.R_alloc | apply Kd.R_drewN | apply Kd.R_drew)); exact HO179.out), (by repeat (first | (with_reducible first | exact HB.out | apply below_alloc | apply pw_below_drewN | apply below_drew1) | exact HB.out))⟩)
                                              · skip
                                                refine box_step ?hg (N := 12) ?hd (cs := #[.int .i64 0, .int .i64 0, .int .u32 0, .string (⟨#[]⟩ : ByteArray), .string (⟨#[]⟩ : ByteArray)]) (t := 24) ?hr ?_; (case hd => rfl); (case hg => rfl); (case hr => first | (go_simp; done) | (go_simp; rfl) | (go_simp; simp only [IntKind.wrap_u8, IntKind.wrap_u32]; done) | (go_simp; simp only [IntKind.wrap_u8, IntKind.wrap_u32]; rfl))
                                                intro gb180 hg w17 hbox hb
                                                have n0_ := Aside0.mk (below_step (by repeat (first | (with_reducible first | exact HB.out | apply below_alloc | apply pw_below_drewN | apply below_drew1) | exact HB.out)) hb)
                                                have n1_ := Aside0.mk (hbox)
                                                have n2_ := Aside0.mk ((by rw [hg]; exact (below_size (by repeat (first | (with_reducible first | exact HB.out | apply below_alloc | apply pw_below_drewN | apply below_drew1) | exact HB.out))) : w.heap.size ≤ gb180))
                                                have n3_ := Aside0.mk ((by rw [hg]; exact (below_size (by repeat (first | (with_reducible first | exact HB.out | apply below_alloc | apply pw_below_drewN | apply below_drew1) | exact HB.out))) : w.heap.size ≤ gb180))
                                                clear HB
                                                have HB := n0_
                                                have BK180 := n1_
                                                have GW180 := n2_
                                                have GE180 := n3_
                                                clear n0_ n1_ n2_ n3_
                                                clear hb hbox hg
                                                refine hK.out _ _ trivial (fun hHeld => ?_)
                                                clear hK K
                                                refine norm_ (a' := ?_) ?_ ?_
                                                rotate_left
                                                · show Act.put _ (some 12) _ = _
                                                  simp only [Act.put, List.setIfInBounds_toArray, List.set_cons_zero, List.set_cons_succ, i64_w, i32_w, IntKind.wrap_u8, IntKind.wrap_u32]
                                                  rfl
                                                exact norm_ (by first | (simp only [putAll, Act.put, List.setIfInBounds_toArray, List.set_cons_zero, List.set_cons_succ]; done) | (simp only [putAll, Act.put, List.setIfInBounds_toArray, List.set_cons_zero, List.set_cons_succ]; rfl)) (hJ19 (gb180) _ ⟨(by (with_reducible repeat (first | refine blk_drewN ?_ _ | refine blk_drew ?_ | refine blk_alloc ?_ _)); exact BK180.out), GW180.out, GE180.out, (by repeat (first | (with_reducible first | exact HB.out | apply below_alloc | apply pw_below_drewN | apply below_drew1 | refine below_set ?_ GE180.out) | exact HB.out))⟩)
                                            · skip
                                              rintro gb180 w18 ⟨h0_, h1_, h2_, h3_⟩
                                              have n0_ : Aside0 (w18.heap[gb180]? = some (.cells #[.int .i64 0, .int .i64 0, .int .u32 0, .string (⟨#[]⟩ : ByteArray), .string (⟨#[]⟩ : ByteArray)] 24 (0, 0))) := ⟨h0_⟩
                                              have n1_ : Aside0 (w.heap.size ≤ gb180) := ⟨h1_⟩
                                              have n2_ : Aside0 (w.heap.size ≤ gb180) := ⟨h2_⟩
                                              have n3_ : Aside0 (Below w.heap.size w w18) := ⟨h3_⟩
                                              clear HB
                                              clear h0_ h1_ h2_ h3_
                                              have BK180 := n0_
                                              have GW180 := n1_
                                              have GE180 := n2_
                                              have HB := n3_
                                              clear n0_ n1_ n2_ n3_
                                              have hHeld := trivial
                                              refine norm_ (a' := ?_) ?_ ?_
                                              rotate_left
                                              · simp only [putAll, Act.put, List.setIfInBounds_toArray, List.set_cons_zero, List.set_cons_succ]
                                                rfl
                                              refine two_ (i := 11) (j := 16) (Ni := some 31) (Nj := some 36) #[true, true, true, true, true, true, true, true, true, true, true, true, false, true, true, true, false, false, false, true, false] #[true, true, true, true, true, true, true, true, true, true, true, false, false, true, true, true, true, false, false, true, false] rfl rfl rfl rfl (two_of HT_.out (by kernel_rfl)) (by decide) (by decide) (fun K hK => ?_) (fun K hK => ?_)
                                              · skip
                                                refine Kd.R_make_step (Kd.int .u8) _ 5 (by rfl) (N := 31) rfl 52 _ _ rfl ji8 rfl rfl Tryd.underlying52 (.int .u8 0) 1 info5 rfl (by decide) (by omega) 0 (ok := fun _ => True) (okp := fun _ => True) rfl (fun _ hk => hk) trivial (of_decide_eq_true (by first | (with_reducible assumption) | assumption)) (Nat.le_trans (Nat.mul_le_mul_right _ (of_decide_eq_true (by first | (with_reducible assumption) | assumption) : ji8.toNat ≤ 281474976710656)) (by omega)) (Below.refl _ _) (Nat.le_refl _) ?_
                                                intro v175 w19 ho20 hb hg_ hnew_
                                                clear hg_ hnew_
                                                (first | rw [← Ny174.out] at ho20 | (simp only [Int.reduceToNat] at ho20; rw [← Ny174.out] at ho20))
                                                have n0_ := Aside0.mk (Kd.R_lower ho20 (below_size (by repeat (first | (with_reducible first | exact HB.out | apply below_alloc | apply pw_below_drewN | apply below_drew1 | refine below_set ?_ GE180.out) | exact HB.out))))
                                                have n1_ := Aside0.mk (blk_below (g := gb180) (o := .cells #[.int .i64 0, .int .i64 0, .int .u32 0, .string (⟨#[]⟩ : ByteArray), .string (⟨#[]⟩ : ByteArray)] 24 (0, 0)) (by (with_reducible repeat (first | refine blk_drewN ?_ _ | refine blk_drew ?_ | refine blk_alloc ?_ _)); exact BK180.out) hb)
                                                have n2_ := Aside0.mk (below_step (by repeat (first | (with_reducible first | exact HB.out | apply below_alloc | apply pw_below_drewN | apply below_drew1 | refine below_set ?_ GE180.out) | exact HB.out)) hb)
                                                clear BK180
                                                clear HB
                                                have HO176 := n0_
                                                have BK180 := n1_
                                                have HB := n2_
                                                clear n0_ n1_ n2_
                                                clear hb ho20
                                                refine hK.out _ _ trivial (fun hHeld => ?_)
                                                clear hK K
                                                refine norm_ (a' := ?_) ?_ ?_
                                                rotate_left
                                                · show Act.put _ (some 31) _ = _
                                                  simp only [Act.put, List.setIfInBounds_toArray, List.set_cons_zero, List.set_cons_succ, i64_w, i32_w, IntKind.wrap_u8, IntKind.wrap_u32]
                                                  rfl
                                                exact norm_ (by first | (simp only [putAll, Act.put, List.setIfInBounds_toArray, List.set_cons_zero, List.set_cons_succ]; done) | (simp only [putAll, Act.put, List.setIfInBounds_toArray, List.set_cons_zero, List.set_cons_succ]; rfl)) (hJ11_19 (v175, gb180) _ ⟨(by (with_reducible repeat (first | apply Kd.R_alloc | apply Kd.R_drewN | apply Kd.R_drew)); exact HO176.out), (by (with_reducible repeat (first | refine blk_drewN ?_ _ | refine blk_drew ?_ | refine blk_alloc ?_ _)); exact BK180.out), GW180.out, GE180.out, (by repeat (first | (with_reducible first | exact HB.out | apply below_alloc | apply pw_below_drewN | apply below_drew1 | refine below_set ?_ GE180.out) | exact HB.out))⟩)
                                              · skip
                                                refine Kd.R_make_step (Kd.int .u8) _ 5 (by rfl) (N := 36) rfl 52 _ _ rfl ji11 rfl rfl Tryd.underlying52 (.int .u8 0) 1 info5 rfl (by decide) (by omega) 0 (ok := fun _ => True) (okp := fun _ => True) rfl (fun _ hk => hk) trivial (of_decide_eq_true (by first | (with_reducible assumption) | assumption)) (Nat.le_trans (Nat.mul_le_mul_right _ (of_decide_eq_true (by first | (with_reducible assumption) | assumption) : ji11.toNat ≤ 281474976710656)) (by omega)) (Below.refl _ _) (Nat.le_refl _) ?_
                                                intro v178 w19 ho20 hb hg_ hnew_
                                                clear hg_ hnew_
                                                (first | rw [← Ny177.out] at ho20 | (simp only [Int.reduceToNat] at ho20; rw [← Ny177.out] at ho20))
                                                have n0_ := Aside0.mk (Kd.R_lower ho20 (below_size (by repeat (first | (with_reducible first | exact HB.out | apply below_alloc | apply pw_below_drewN | apply below_drew1 | refine below_set ?_ GE180.out) | exact HB.out))))
                                                have n1_ := Aside0.mk (blk_below (g := gb180) (o := .cells #[.int .i64 0, .int .i64 0, .int .u32 0, .string (⟨#[]⟩ : ByteArray), .string (⟨#[]⟩ : ByteArray)] 24 (0, 0)) (by (with_reducible repeat (first | refine blk_drewN ?_ _ | refine blk_drew ?_ | refine blk_alloc ?_ _)); exact BK180.out) hb)
                                                have n2_ := Aside0.mk (below_step (by repeat (first | (with_reducible first | exact HB.out | apply below_alloc | apply pw_below_drewN | apply below_drew1 | refine below_set ?_ GE180.out) | exact HB.out)) hb)
                                                clear BK180
                                                clear HB
                                                have HO179 := n0_
                                                have BK180 := n1_
                                                have HB := n2_
                                                clear n0_ n1_ n2_
                                                clear hb ho20
                                                refine hK.out _ _ trivial (fun hHeld => ?_)
                                                clear hK K
                                                refine norm_ (a' := ?_) ?_ ?_
                                                rotate_left
                                                · show Act.put _ (some 36) _ = _
                                                  simp only [Act.put, List.setIfInBounds_toArray, List.set_cons_zero, List.set_cons_succ, i64_w, i32_w, IntKind.wrap_u8, IntKind.wrap_u32]
                                                  rfl
                                                exact norm_ (by first | (simp only [putAll, Act.put, List.setIfInBounds_toArray, List.set_cons_zero, List.set_cons_succ]; done) | (simp only [putAll, Act.put, List.setIfInBounds_toArray, List.set_cons_zero, List.set_cons_succ]; rfl)) (hJ16_19 (v178, gb180) _ ⟨(by (with_reducible repeat (first | apply Kd.R_alloc | apply Kd.R_drewN | apply Kd.R_drew)); exact HO179.out), (by (with_reducible repeat (first | refine blk_drewN ?_ _ | refine blk_drew ?_ | refine blk_alloc ?_ _)); exact BK180.out), GW180.out, GE180.out, (by repeat (first | (with_reducible first | exact HB.out | apply below_alloc | apply pw_below_drewN | apply below_drew1 | refine below_set ?_ GE180.out) | exact HB.out))⟩)
                                          · skip
                                            rintro v178 w19 ⟨h0_, h1_⟩
                                            have n0_ : Aside0 (Kd.R (Kd.int .u8) 5 w19 w.heap.size (fun _ => True) v178 y177) := ⟨h0_⟩
                                            have n1_ : Aside0 (Below w.heap.size w w19) := ⟨h1_⟩
                                            clear HB
                                            clear h0_ h1_
                                            have HO179 := n0_
                                            have HB := n1_
                                            clear n0_ n1_
                                            have hHeld := trivial
                                            refine norm_ (a' := ?_) ?_ ?_
                                            rotate_left
                                            · simp only [putAll, Act.put, List.setIfInBounds_toArray, List.set_cons_zero, List.set_cons_succ]
                                              rfl
                                            refine three_ (i := 11) (j := 17) (k := 19) (Ni := some 31) (Nj := some 37) (Nk := some 12) #[true, true, true, true, true, true, true, true, true, true, true, true, false, true, true, true, true, false, false, false, false] #[true, true, true, true, true, true, true, true, true, true, true, false, false, true, true, true, true, true, false, false, false] #[true, true, true, true, true, true, true, true, true, true, true, false, false, true, true, true, true, false, false, true, false] rfl rfl rfl rfl rfl rfl (three_of HT_.out (by kernel_rfl)) (by decide) (by decide) (by decide) (fun K hK => ?_) (fun K hK => ?_) (fun K hK => ?_)
                                            · skip
                                              refine Kd.R_make_step (Kd.int .u8) _ 5 (by rfl) (N := 31) rfl 52 _ _ rfl ji8 rfl rfl Tryd.underlying52 (.int .u8 0) 1 info5 rfl (by decide) (by omega) 0 (ok := fun _ => True) (okp := fun _ => True) rfl (fun _ hk => hk) trivial (of_decide_eq_true (by first | (with_reducible assumption) | assumption)) (Nat.le_trans (Nat.mul_le_mul_right _ (of_decide_eq_true (by first | (with_reducible assumption) | assumption) : ji8.toNat ≤ 281474976710656)) (by omega)) (Below.refl _ _) (Nat.le_refl _) ?_
                                              intro v175 w20 ho21 hb hg_ hnew_
                                              clear hg_ hnew_
                                              (first | rw [← Ny174.out] at ho21 | (simp only [Int.reduceToNat] at ho21; rw [← Ny174.out] at ho21))
                                              have n0_ := Aside0.mk (Kd.R_elder' (by (with_reducible repeat (first | apply Kd.R_alloc | apply Kd.R_drewN | apply Kd.R_drew)); exact HO179.out) (Kd.R_base ho21) hb)
                                              have n1_ := Aside0.mk (Kd.R_lower (Kd.R_new' ho21 (Kd.R_lt (by (with_reducible repeat (first | apply Kd.R_alloc | apply Kd.R_drewN | apply Kd.R_drew)); exact HO179.out))) (below_size (by repeat (first | (with_reducible first | exact HB.out | apply below_alloc | apply pw_below_drewN | apply below_drew1) | exact HB.out))))
                                              have n2_ := Aside0.mk (below_step (by repeat (first | (with_reducible first | exact HB.out | apply below_alloc | apply pw_below_drewN | apply below_drew1) | exact HB.out)) hb)
                                              clear HO179
                                              clear HB
                                              have HO179 := n0_
                                              have HO176 := n1_
                                              have HB := n2_
                                              clear n0_ n1_ n2_
                                              clear hb ho21
                                              refine hK.out _ _ trivial (fun hHeld => ?_)
                                              clear hK K
                                              refine norm_ (a' := ?_) ?_ ?_
                                              rotate_left
                                              · show Act.put _ (some 31) _ = _
                                                simp only [Act.put, List.setIfInBounds_toArray, List.set_cons_zero, List.set_cons_succ, i64_w, i32_w, IntKind.wrap_u8, IntKind.wrap_u32]
                                                rfl
                                              exact norm_ (by first | (simp only [putAll, Act.put, List.setIfInBounds_toArray, List.set_cons_zero, List.set_cons_succ]; done) | (simp only [putAll, Act.put, List.setIfInBounds_toArray, List.set_cons_zero, List.set_cons_succ]; rfl)) (hJ11_16 (v175, v178) _ ⟨(by (with_reducible repeat (first | apply Kd.R_alloc | apply Kd.R_drewN | apply Kd.R_drew)); exact Kd.R_mono HO176.out (fun _ hk => hk.2)), (by (with_reducible repeat (first | apply Kd.R_alloc | apply Kd.R_drewN | apply Kd.R_drew)); exact Kd.R_mono HO179.out (fun _ hk => hk.2)), (by repeat (first | (with_reducible first | exact HB.out | apply below_alloc | apply pw_below_drewN | apply below_drew1) | exact HB.out))⟩)
                                            · skip
                                              have hcv20 := own_string (P := Tryd.prog) Tryd.underlying52 Tryd.underlying5 Tryd.underlying9 (Kd.own_of_R HO179.out)
                                              refine value_ (w1 := ?_) (v := ?_) (by rfl) rfl ?_ ?_
                                              rotate_left 2
                                              · go_simp
                                                constructor
                                                · rfl
                                                · rfl
                                              clear hcv20
                                              refine hK.out _ _ trivial (fun hHeld => ?_)
                                              clear hK K
                                              refine norm_ (a' := ?_) ?_ ?_
                                              rotate_left
                                              · show Act.put _ (some 37) _ = _
                                                simp only [Act.put, List.setIfInBounds_toArray, List.set_cons_zero, List.set_cons_succ, i64_w, i32_w, IntKind.wrap_u8, IntKind.wrap_u32]
                                                rfl
                                              exact norm_ (by first | (simp only [putAll, Act.put, List.setIfInBounds_toArray, List.set_cons_zero, List.set_cons_succ]; done) | (simp only [putAll, Act.put, List.setIfInBounds_toArray, List.set_cons_zero, List.set_cons_succ]; rfl)) (hJ16_17 (v178) _ ⟨(by (with_reducible repeat (first | apply Kd.R_alloc | apply Kd.R_drewN | apply Kd.R_drew)); exact HO179.out), (by repeat (first | (with_reducible first | exact HB.out | apply below_alloc | apply pw_below_drewN | apply below_drew1) | exact HB.out))⟩)
                                            · skip
                                              refine box_step ?hg (N := 12) ?hd (cs := #[.int .i64 0, .int .i64 0, .int .u32 0, .string (⟨#[]⟩ : ByteArray), .string (⟨#[]⟩ : ByteArray)]) (t := 24) ?hr ?_; (case hd => rfl); (case hg => rfl); (case hr => first | (go_simp; done) | (go_simp; rfl) | (go_simp; simp only [IntKind.wrap_u8, IntKind.wrap_u32]; done) | (go_simp; simp only [IntKind.wrap_u8, IntKind.wrap_u32]; rfl))
                                              intro gb180 hg w20 hbox hb
                                              have n0_ := Aside0.mk (Kd.R_below (by (with_reducible repeat (first | apply Kd.R_alloc | apply Kd.R_drewN | apply Kd.R_drew)); exact HO179.out) hb)
                                              have n1_ := Aside0.mk (below_step (by repeat (first | (with_reducible first | exact HB.out | apply below_alloc | apply pw_below_drewN | apply below_drew1) | exact HB.out)) hb)
                                              have n2_ := Aside0.mk (hbox)
                                              have n3_ := Aside0.mk ((by rw [hg]; exact (below_size (by repeat (first | (with_reducible first | exact HB.out | apply below_alloc | apply pw_below_drewN | apply below_drew1) | exact HB.out))) : w.heap.size ≤ gb180))
                                              have n4_ := Aside0.mk ((by rw [hg]; exact (below_size (by repeat (first | (with_reducible first | exact HB.out | apply below_alloc | apply pw_below_drewN | apply below_drew1) | exact HB.out))) : w.heap.size ≤ gb180))
                                              clear HO179
                                              clear HB
                                              have HO179 := n0_
                                              have HB := n1_
                                              have BK180 := n2_
                                              have GW180 := n3_
                                              have GE180 := n4_
                                              clear n0_ n1_ n2_ n3_ n4_
                                              clear hb hbox hg
                                              refine hK.out _ _ trivial (fun hHeld => ?_)
                                              clear hK K
                                              refine norm_ (a' := ?_) ?_ ?_
                                              rotate_left
                                              · show Act.put _ (some 12) _ = _
                                                simp only [Act.put, List.setIfInBounds_toArray, List.set_cons_zero, List.set_cons_succ, i64_w, i32_w, IntKind.wrap_u8, IntKind.wrap_u32]
                                                rfl
                                              exact norm_ (by first | (simp only [putAll, Act.put, List.setIfInBounds_toArray, List.set_cons_zero, List.set_cons_succ]; done) | (simp only [putAll, Act.put, List.setIfInBounds_toArray, List.set_cons_zero, List.set_cons_succ]; rfl)) (hJ16_19 (v178, gb180) _ ⟨(by (with_reducible repeat (first | apply Kd.R_alloc | apply Kd.R_drewN | apply Kd.R_drew)); exact HO179.out), (by (with_reducible repeat (first | refine blk_drewN ?_ _ | refine blk_drew ?_ | refine blk_alloc ?_ _)); exact BK180.out), GW180.out, GE180.out, (by repeat (first | (with_reducible first | exact HB.out | apply below_alloc | apply pw_below_drewN | apply below_drew1 | refine below_set ?_ GE180.out) | exact HB.out))⟩)
                                        · skip
                                          rintro v175 w19 ⟨h0_, h1_⟩
                                          have n0_ : Aside0 (Kd.R (Kd.int .u8) 5 w19 w.heap.size (fun _ => True) v175 y174) := ⟨h0_⟩
                                          have n1_ : Aside0 (Below w.heap.size w w19) := ⟨h1_⟩
                                          clear HB
                                          clear h0_ h1_
                                          have HO176 := n0_
                                          have HB := n1_
                                          clear n0_ n1_
                                          have hHeld := trivial
                                          refine norm_ (a' := ?_) ?_ ?_
                                          rotate_left
                                          · simp only [putAll, Act.put, List.setIfInBounds_toArray, List.set_cons_zero, List.set_cons_succ]
                                            rfl
                                          refine three_ (i := 12) (j := 16) (k := 19) (Ni := some 32) (Nj := some 36) (Nk := some 12) #[true, true, true, true, true, true, true, true, true, true, true, true, true, true, true, true, false, false, false, false, false] #[true, true, true, true, true, true, true, true, true, true, true, true, false, true, true, true, true, false, false, false, false] #[true, true, true, true, true, true, true, true, true, true, true, true, false, true, true, true, false, false, false, true, false] rfl rfl rfl rfl rfl rfl (three_of HT_.out (by kernel_rfl)) (by decide) (by decide) (by decide) (fun K hK => ?_) (fun K hK => ?_) (fun K hK => ?_)
                                          · skip
                                            have hcv20 := own_string (P := Tryd.prog) Tryd.underlying52 Tryd.underlying5 Tryd.underlying9 (Kd.own_of_R HO176.out)
                                            refine value_ (w1 := ?_) (v := ?_) (by rfl) rfl ?_ ?_
                                            rotate_left 2
                                            · go_simp
                                              constructor
                                              · rfl
                                              · rfl
                                            clear hcv20
                                            refine hK.out _ _ trivial (fun hHeld => ?_)
                                            clear hK K
                                            refine norm_ (a' := ?_) ?_ ?_
                                            rotate_left
                                            · show Act.put _ (some 32) _ = _
                                              simp only [Act.put, List.setIfInBounds_toArray, List.set_cons_zero, List.set_cons_succ, i64_w, i32_w, IntKind.wrap_u8, IntKind.wrap_u32]
                                              rfl
                                            exact norm_ (by first | (simp only [putAll, Act.put, List.setIfInBounds_toArray, List.set_cons_zero, List.set_cons_succ]; done) | (simp only [putAll, Act.put, List.setIfInBounds_toArray, List.set_cons_zero, List.set_cons_succ]; rfl)) (hJ11_12 (v175) _ ⟨(by (with_reducible repeat (first | apply Kd.R_alloc | apply Kd.R_drewN | apply Kd.R_drew)); exact HO176.out), (by repeat (first | (with_reducible first | exact HB.out | apply below_alloc | apply pw_below_drewN | apply below_drew1) | exact HB.out))⟩)
                                          · skip
                                            refine Kd.R_make_step (Kd.int .u8) _ 5 (by rfl) (N := 36) rfl 52 _ _ rfl ji11 rfl rfl Tryd.underlying52 (.int .u8 0) 1 info5 rfl (by decide) (by omega) 0 (ok := fun _ => True) (okp := fun _ => True) rfl (fun _ hk => hk) trivial (of_decide_eq_true (by first | (with_reducible assumption) | assumption)) (Nat.le_trans (Nat.mul_le_mul_right _ (of_decide_eq_true (by first | (with_reducible assumption) | assumption) : ji11.toNat ≤ 281474976710656)) (by omega)) (Below.refl _ _) (Nat.le_refl _) ?_
                                            intro v178 w20 ho21 hb hg_ hnew_
                                            clear hg_ hnew_
                                            (first | rw [← Ny177.out] at ho21 | (simp only [Int.reduceToNat] at ho21; rw [← Ny177.out] at ho21))
                                            have n0_ := Aside0.mk (Kd.R_elder' (by (with_reducible repeat (first | apply Kd.R_alloc | apply Kd.R_drewN | apply Kd.R_drew)); exact HO176.out) (Kd.R_base ho21) hb)
                                            have n1_ := Aside0.mk (Kd.R_lower (Kd.R_new' ho21 (Kd.R_lt (by (with_reducible repeat (first | apply Kd.R_alloc | apply Kd.R_drewN | apply Kd.R_drew)); exact HO176.out))) (below_size (by repeat (first | (with_reducible first | exact HB.out | apply below_alloc | apply pw_below_drewN | apply below_drew1) | exact HB.out))))
                                            have n2_ := Aside0.mk (below_step (by repeat (first | (with_reducible first | exact HB.out | apply below_alloc | apply pw_below_drewN | apply below_drew1) | exact HB.out)) hb)
                                            clear HO176
                                            clear HB
                                            have HO176 := n0_
                                            have HO179 := n1_
                                            have HB := n2_
                                            clear n0_ n1_ n2_
                                            clear hb ho21
                                            refine hK.out _ _ trivial (fun hHeld => ?_)
                                            clear hK K
                                            refine norm_ (a' := ?_) ?_ ?_
                                            rotate_left
                                            · show Act.put _ (some 36) _ = _
                                              simp only [Act.put, List.setIfInBounds_toArray, List.set_cons_zero, List.set_cons_succ, i64_w, i32_w, IntKind.wrap_u8, IntKind.wrap_u32]
                                              rfl
                                            exact norm_ (by first | (simp only [putAll, Act.put, List.setIfInBounds_toArray, List.set_cons_zero, List.set_cons_succ]; done) | (simp only [putAll, Act.put, List.setIfInBounds_toArray, List.set_cons_zero, List.set_cons_succ]; rfl)) (hJ11_16 (v175, v178) _ ⟨(by (with_reducible repeat (first | apply Kd.R_alloc | apply Kd.R_drewN | apply Kd.R_drew)); exact Kd.R_mono HO176.out (fun _ hk => hk.2)), (by (with_reducible repeat (first | apply Kd.R_alloc | apply Kd.R_drewN | apply Kd.R_drew)); exact Kd.R_mono HO179.out (fun _ hk => hk.2)), (by repeat (first | (with_reducible first | exact HB.out | apply below_alloc | apply pw_below_drewN | apply below_drew1) | exact HB.out))⟩)
                                          · skip
                                            refine box_step ?hg (N := 12) ?hd (cs := #[.int .i64 0, .int .i64 0, .int .u32 0, .string (⟨#[]⟩ : ByteArray), .string (⟨#[]⟩ : ByteArray)]) (t := 24) ?hr ?_; (case hd => rfl); (case hg => rfl); (case hr => first | (go_simp; done) | (go_simp; rfl) | (go_simp; simp only [IntKind.wrap_u8, IntKind.wrap_u32]; done) | (go_simp; simp only [IntKind.wrap_u8, IntKind.wrap_u32]; rfl))
                                            intro gb180 hg w20 hbox hb
                                            have n0_ := Aside0.mk (Kd.R_below (by (with_reducible repeat (first | apply Kd.R_alloc | apply Kd.R_drewN | apply Kd.R_drew)); exact HO176.out) hb)
                                            have n1_ := Aside0.mk (below_step (by repeat (first | (with_reducible first | exact HB.out | apply below_alloc | apply pw_below_drewN | apply below_drew1) | exact HB.out)) hb)
                                            have n2_ := Aside0.mk (hbox)
                                            have n3_ := Aside0.mk ((by rw [hg]; exact (below_size (by repeat (first | (with_reducible first | exact HB.out | apply below_alloc | apply pw_below_drewN | apply below_drew1) | exact HB.out))) : w.heap.size ≤ gb180))
                                            have n4_ := Aside0.mk ((by rw [hg]; exact (below_size (by repeat (first | (with_reducible first | exact HB.out | apply below_alloc | apply pw_below_drewN | apply below_drew1) | exact HB.out))) : w.heap.size ≤ gb180))
                                            clear HO176
                                            clear HB
                                            have HO176 := n0_
                                            have HB := n1_
                                            have BK180 := n2_
                                            have GW180 := n3_
                                            have GE180 := n4_
                                            clear n0_ n1_ n2_ n3_ n4_
                                            clear hb hbox hg
                                            refine hK.out _ _ trivial (fun hHeld => ?_)
                                            clear hK K
                                            refine norm_ (a' := ?_) ?_ ?_
                                            rotate_left
                                            · show Act.put _ (some 12) _ = _
                                              simp only [Act.put, List.setIfInBounds_toArray, List.set_cons_zero, List.set_cons_succ, i64_w, i32_w, IntKind.wrap_u8, IntKind.wrap_u32]
                                              rfl
                                            exact norm_ (by first | (simp only [putAll, Act.put, List.setIfInBounds_toArray, List.set_cons_zero, List.set_cons_succ]; done) | (simp only [putAll, Act.put, List.setIfInBounds_toArray, List.set_cons_zero, List.set_cons_succ]; rfl)) (hJ11_19 (v175, gb180) _ ⟨(by (with_reducible repeat (first | apply Kd.R_alloc | apply Kd.R_drewN | apply Kd.R_drew)); exact HO176.out), (by (with_reducible repeat (first | refine blk_drewN ?_ _ | refine blk_drew ?_ | refine blk_alloc ?_ _)); exact BK180.out), GW180.out, GE180.out, (by repeat (first | (with_reducible first | exact HB.out | apply below_alloc | apply pw_below_drewN | apply below_drew1 | refine below_set ?_ GE180.out) | exact HB.out))⟩)
                                      · skip
                                        rintro ⟨v178, gb180⟩ w20 ⟨h0_, h1_, h2_, h3_, h4_⟩
                                        have n0_ : Aside0 (Kd.R (Kd.int .u8) 5 w20 w.heap.size (fun _ => True) v178 y177) := ⟨h0_⟩
                                        have n1_ : Aside0 (w20.heap[gb180]? = some (.cells #[.int .i64 0, .int .i64 0, .int .u32 0, .string (⟨#[]⟩ : ByteArray), .string (⟨#[]⟩ : ByteArray)] 24 (0, 0))) := ⟨h1_⟩
                                        have n2_ : Aside0 (w.heap.size ≤ gb180) := ⟨h2_⟩
                                        have n3_ : Aside0 (w.heap.size ≤ gb180) := ⟨h3_⟩
                                        have n4_ : Aside0 (Below w.heap.size w w20) := ⟨h4_⟩
                                        clear HB
                                        clear h0_ h1_ h2_ h3_ h4_
                                        have HO179 := n0_
                                        have BK180 := n1_
                                        have GW180 := n2_
                                        have GE180 := n3_
                                        have HB := n4_
                                        clear n0_ n1_ n2_ n3_ n4_
                                        have hHeld := trivial
                                        refine norm_ (a' := ?_) ?_ ?_
                                        rotate_left
                                        · simp only [putAll, Act.put, List.setIfInBounds_toArray, List.set_cons_zero, List.set_cons_succ]
                                          rfl
                                        refine two_ (i := 11) (j := 17) (Ni := some 31) (Nj := some 37) #[true, true, true, true, true, true, true, true, true, true, true, true, false, true, true, true, true, false, false, true, false] #[true, true, true, true, true, true, true, true, true, true, true, false, false, true, true, true, true, true, false, true, false] rfl rfl rfl rfl (two_of HT_.out (by kernel_rfl)) (by decide) (by decide) (fun K hK => ?_) (fun K hK => ?_)
                                        · skip
                                          refine Kd.R_make_step (Kd.int .u8) _ 5 (by rfl) (N := 31) rfl 52 _ _ rfl ji8 rfl rfl Tryd.underlying52 (.int .u8 0) 1 info5 rfl (by decide) (by omega) 0 (ok := fun _ => True) (okp := fun _ => True) rfl (fun _ hk => hk) trivial (of_decide_eq_true (by first | (with_reducible assumption) | assumption)) (Nat.le_trans (Nat.mul_le_mul_right _ (of_decide_eq_true (by first | (with_reducible assumption) | assumption) : ji8.toNat ≤ 281474976710656)) (by omega)) (Below.refl _ _) (Nat.le_refl _) ?_
                                          intro v175 w21 ho22 hb hg_ hnew_
                                          clear hg_ hnew_
                                          (first | rw [← Ny174.out] at ho22 | (simp only [Int.reduceToNat] at ho22; rw [← Ny174.out] at ho22))
                                          have n0_ := Aside0.mk (Kd.R_elder' (by (with_reducible repeat (first | apply Kd.R_alloc | apply Kd.R_drewN | apply Kd.R_drew)); exact HO179.out) (Kd.R_base ho22) hb)
                                          have n1_ := Aside0.mk (Kd.R_lower (Kd.R_new' ho22 (Kd.R_lt (by (with_reducible repeat (first | apply Kd.R_alloc | apply Kd.R_drewN | apply Kd.R_drew)); exact HO179.out))) (below_size (by repeat (first | (with_reducible first | exact HB.out | apply below_alloc | apply pw_below_drewN | apply below_drew1 | refine below_set ?_ GE180.out) | exact HB.out))))
                                          have n2_ := Aside0.mk (blk_below (g := gb180) (o := .cells #[.int .i64 0, .int .i64 0, .int .u32 0, .string (⟨#[]⟩ : ByteArray), .string (⟨#[]⟩ : ByteArray)] 24 (0, 0)) (by (with_reducible repeat (first | refine blk_drewN ?_ _ | refine blk_drew ?_ | refine blk_alloc ?_ _)); exact BK180.out) hb)
                                          have n3_ := Aside0.mk (below_step (by repeat (first | (with_reducible first | exact HB.out | apply below_alloc | apply pw_below_drewN | apply below_drew1 | refine below_set ?_ GE180.out) | exact HB.out)) hb)
                                          clear HO179
                                          clear BK180
                                          clear HB
                                          have HO179 := n0_
                                          have HO176 := n1_
                                          have BK180 := n2_
                                          have HB := n3_
                                          clear n0_ n1_ n2_ n3_
                                          clear hb ho22
                                          refine hK.out _ _ trivial (fun hHeld => ?_)
                                          clear hK K
                                          refine norm_ (a' := ?_) ?_ ?_
                                          rotate_left
                                          · show Act.put _ (some 31) _ = _
                                            simp only [Act.put, List.setIfInBounds_toArray, List.set_cons_zero, List.set_cons_succ, i64_w, i32_w, IntKind.wrap_u8, IntKind.wrap_u32]
                                            rfl
                                          exact norm_ (by first | (simp only [putAll, Act.put, List.setIfInBounds_toArray, List.set_cons_zero, List.set_cons_succ]; done) | (simp only [putAll, Act.put, List.setIfInBounds_toArray, List.set_cons_zero, List.set_cons_succ]; rfl)) (hJ11_16_19 (v175, v178, gb180) _ ⟨(by (with_reducible repeat (first | apply Kd.R_alloc | apply Kd.R_drewN | apply Kd.R_drew)); exact Kd.R_mono HO176.out (fun _ hk => hk.2)), (by (with_reducible repeat (first | apply Kd.R_alloc | apply Kd.R_drewN | apply Kd.R_drew)); exact Kd.R_mono HO179.out (fun _ hk => hk.2)), (by (with_reducible repeat (first | refine blk_drewN ?_ _ | refine blk_drew ?_ | refine blk_alloc ?_ _)); exact BK180.out), GW180.out, GE180.out, (by repeat (first | (with_reducible first | exact HB.out | apply below_alloc | apply pw_below_drewN | apply below_drew1 | refine below_set ?_ GE180.out) | exact HB.out))⟩)
                                        · skip
                                          have hcv21 := own_string (P := Tryd.prog) Tryd.underlying52 Tryd.underlying5 Tryd.underlying9 (Kd.own_of_R HO179.out)
                                          refine value_ (w1 := ?_) (v := ?_) (by rfl) rfl ?_ ?_
                                          rotate_left 2
                                          · go_simp
                                            constructor
                                            · rfl
                                            · rfl
                                          clear hcv21
                                          refine hK.out _ _ trivial (fun hHeld => ?_)
                                          clear hK K
                                          refine norm_ (a' := ?_) ?_ ?_
                                          rotate_left
                                          · show Act.put _ (some 37) _ = _
                                            simp only [Act.put, List.setIfInBounds_toArray, List.set_cons_zero, List.set_cons_succ, i64_w, i32_w, IntKind.wrap_u8, IntKind.wrap_u32]
                                            rfl
                                          exact norm_ (by first | (simp only [putAll, Act.put, List.setIfInBounds_toArray, List.set_cons_zero, List.set_cons_succ]; done) | (simp only [putAll, Act.put, List.setIfInBounds_toArray, List.set_cons_zero, List.set_cons_succ]; rfl)) (hJ16_17_19 (v178, gb180) _ ⟨(by (with_reducible repeat (first | apply Kd.R_alloc | apply Kd.R_drewN | apply Kd.R_drew)); exact HO179.out), (by (with_reducible repeat (first | refine blk_drewN ?_ _ | refine blk_drew ?_ | refine blk_alloc ?_ _)); exact BK180.out), GW180.out, GE180.out, (by repeat (first | (with_reducible first | exact HB.out | apply below_alloc | apply pw_below_drewN | apply below_drew1 | refine below_set ?_ GE180.out) | exact HB.out))⟩)
                                    · skip
                                      rintro v178 w20 ⟨h0_, h1_⟩
                                      have n0_ : Aside0 (Kd.R (Kd.int .u8) 5 w20 w.heap.size (fun _ => True) v178 y177) := ⟨h0_⟩
                                      have n1_ : Aside0 (Below w.heap.size w w20) := ⟨h1_⟩
                                      clear HB
                                      clear h0_ h1_
                                      have HO179 := n0_
                                      have HB := n1_
                                      clear n0_ n1_
                                      have hHeld := trivial
                                      refine norm_ (a' := ?_) ?_ ?_
                                      rotate_left
                                      · simp only [putAll, Act.put, List.setIfInBounds_toArray, List.set_cons_zero, List.set_cons_succ]
                                        rfl
                                      refine two_ (i := 11) (j := 19) (Ni := some 31) (Nj := some 12) #[true, true, true, true, true, true, true, true, true, true, true, true, false, true, true, true, true, true, false, false, false] #[true, true, true, true, true, true, true, true, true, true, true, false, false, true, true, true, true, true, false, true, false] rfl rfl rfl rfl (two_of HT_.out (by kernel_rfl)) (by decide) (by decide) (fun K hK => ?_) (fun K hK => ?_)
                                      · skip
                                        refine Kd.R_make_step (Kd.int .u8) _ 5 (by rfl) (N := 31) rfl 52 _ _ rfl ji8 rfl rfl Tryd.underlying52 (.int .u8 0) 1 info5 rfl (by decide) (by omega) 0 (ok := fun _ => True) (okp := fun _ => True) rfl (fun _ hk => hk) trivial (of_decide_eq_true (by first | (with_reducible assumption) | assumption)) (Nat.le_trans (Nat.mul_le_mul_right _ (of_decide_eq_true (by first | (with_reducible assumption) | assumption) : ji8.toNat ≤ 281474976710656)) (by omega)) (Below.refl _ _) (Nat.le_refl _) ?_
                                        intro v175 w21 ho22 hb hg_ hnew_
                                        clear hg_ hnew_
                                        (first | rw [← Ny174.out] at ho22 | (simp only [Int.reduceToNat] at ho22; rw [← Ny174.out] at ho22))
                                        have n0_ := Aside0.mk (Kd.R_elder' (by (with_reducible repeat (first | apply Kd.R_alloc | apply Kd.R_drewN | apply Kd.R_drew)); exact HO179.out) (Kd.R_base ho22) hb)
                                        have n1_ := Aside0.mk (Kd.R_lower (Kd.R_new' ho22 (Kd.R_lt (by (with_reducible repeat (first | apply Kd.R_alloc | apply Kd.R_drewN | apply Kd.R_drew)); exact HO179.out))) (below_size (by repeat (first | (with_reducible first | exact HB.out | apply below_alloc | apply pw_below_drewN | apply below_drew1) | exact HB.out))))
                                        have n2_ := Aside0.mk (below_step (by repeat (first | (with_reducible first | exact HB.out | apply below_alloc | apply pw_below_drewN | apply below_drew1) | exact HB.out)) hb)
                                        clear HO179
                                        clear HB
                                        have HO179 := n0_
                                        have HO176 := n1_
                                        have HB := n2_
                                        clear n0_ n1_ n2_
                                        clear hb ho22
                                        refine hK.out _ _ trivial (fun hHeld => ?_)
                                        clear hK K
                                        refine norm_ (a' := ?_) ?_ ?_
                                        rotate_left
                                        · show Act.put _ (some 31) _ = _
                                          simp only [Act.put, List.setIfInBounds_toArray, List.set_cons_zero, List.set_cons_succ, i64_w, i32_w, IntKind.wrap_u8, IntKind.wrap_u32]
                                          rfl
                                        exact norm_ (by first | (simp only [putAll, Act.put, List.setIfInBounds_toArray, List.set_cons_zero, List.set_cons_succ]; done) | (simp only [putAll, Act.put, List.setIfInBounds_toArray, List.set_cons_zero, List.set_cons_succ]; rfl)) (hJ11_16_17 (v175, v178) _ ⟨(by (with_reducible repeat (first | apply Kd.R_alloc | apply Kd.R_drewN | apply Kd.R_drew)); exact Kd.R_mono HO176.out (fun _ hk => hk.2)), (by (with_reducible repeat (first | apply Kd.R_alloc | apply Kd.R_drewN | apply Kd.R_drew)); exact Kd.R_mono HO179.out (fun _ hk => hk.2)), (by repeat (first | (with_reducible first | exact HB.out | apply below_alloc | apply pw_below_drewN | apply below_drew1) | exact HB.out))⟩)
                                      · skip
                                        refine box_step ?hg (N := 12) ?hd (cs := #[.int .i64 0, .int .i64 0, .int .u32 0, .string (⟨#[]⟩ : ByteArray), .string (⟨#[]⟩ : ByteArray)]) (t := 24) ?hr ?_; (case hd => rfl); (case hg => rfl); (case hr => first | (go_simp; done) | (go_simp; rfl) | (go_simp; simp only [IntKind.wrap_u8, IntKind.wrap_u32]; done) | (go_simp; simp only [IntKind.wrap_u8, IntKind.wrap_u32]; rfl))
                                        intro gb180 hg w21 hbox hb
                                        have n0_ := Aside0.mk (Kd.R_below (by (with_reducible repeat (first | apply Kd.R_alloc | apply Kd.R_drewN | apply Kd.R_drew)); exact HO179.out) hb)
                                        have n1_ := Aside0.mk (below_step (by repeat (first | (with_reducible first | exact HB.out | apply below_alloc | apply pw_below_drewN | apply below_drew1) | exact HB.out)) hb)
                                        have n2_ := Aside0.mk (hbox)
                                        have n3_ := Aside0.mk ((by rw [hg]; exact (below_size (by repeat (first | (with_reducible first | exact HB.out | apply below_alloc | apply pw_below_drewN | apply below_drew1) | exact HB.out))) : w.heap.size ≤ gb180))
                                        have n4_ := Aside0.mk ((by rw [hg]; exact (below_size (by repeat (first | (with_reducible first | exact HB.out | apply below_alloc | apply pw_below_drewN | apply below_drew1) | exact HB.out))) : w.heap.size ≤ gb180))
                                        clear HO179
                                        clear HB
                                        have HO179 := n0_
                                        have HB := n1_
                                        have BK180 := n2_
                                        have GW180 := n3_
                                        have GE180 := n4_
                                        clear n0_ n1_ n2_ n3_ n4_
                                        clear hb hbox hg
                                        refine hK.out _ _ trivial (fun hHeld => ?_)
                                        clear hK K
                                        refine norm_ (a' := ?_) ?_ ?_
                                        rotate_left
                                        · show Act.put _ (some 12) _ = _
                                          simp only [Act.put, List.setIfInBounds_toArray, List.set_cons_zero, List.set_cons_succ, i64_w, i32_w, IntKind.wrap_u8, IntKind.wrap_u32]
                                          rfl
                                        exact norm_ (by first | (simp only [putAll, Act.put, List.setIfInBounds_toArray, List.set_cons_zero, List.set_cons_succ]; done) | (simp only [putAll, Act.put, List.setIfInBounds_toArray, List.set_cons_zero, List.set_cons_succ]; rfl)) (hJ16_17_19 (v178, gb180) _ ⟨(by (with_reducible repeat (first | apply Kd.R_alloc | apply Kd.R_drewN | apply Kd.R_drew)); exact HO179.out), (by (with_reducible repeat (first | refine blk_drewN ?_ _ | refine blk_drew ?_ | refine blk_alloc ?_ _)); exact BK180.out), GW180.out, GE180.out, (by repeat (first | (with_reducible first | exact HB.out | apply below_alloc | apply pw_below_drewN | apply below_drew1 | refine below_set ?_ GE180.out) | exact HB.out))⟩)
                                  · skip
                                    rintro ⟨v175, gb180⟩ w20 ⟨h0_, h1_, h2_, h3_, h4_⟩
                                    have n0_ : Aside0 (Kd.R (Kd.int .u8) 5 w20 w.heap.size (fun _ => True) v175 y174) := ⟨h0_⟩
                                    have n1_ : Aside0 (w20.heap[gb180]? = some (.cells #[.int .i64 0, .int .i64 0, .int .u32 0, .string (⟨#[]⟩ : ByteArray), .string (⟨#[]⟩ : ByteArray)] 24 (0, 0))) := ⟨h1_⟩
                                    have n2_ : Aside0 (w.heap.size ≤ gb180) := ⟨h2_⟩
                                    have n3_ : Aside0 (w.heap.size ≤ gb180) := ⟨h3_⟩
                                    have n4_ : Aside0 (Below w.heap.size w w20) := ⟨h4_⟩
                                    clear HB
                                    clear h0_ h1_ h2_ h3_ h4_
                                    have HO176 := n0_
                                    have BK180 := n1_
                                    have GW180 := n2_
                                    have GE180 := n3_
                                    have HB := n4_
                                    clear n0_ n1_ n2_ n3_ n4_
                                    have hHeld := trivial
                                    refine norm_ (a' := ?_) ?_ ?_
                                    rotate_left
                                    · simp only [putAll, Act.put, List.setIfInBounds_toArray, List.set_cons_zero, List.set_cons_succ]
                                      rfl
                                    refine two_ (i := 12) (j := 16) (Ni := some 32) (Nj := some 36) #[true, true, true, true, true, true, true, true, true, true, true, true, true, true, true, true, false, false, false, true, false] #[true, true, true, true, true, true, true, true, true, true, true, true, false, true, true, true, true, false, false, true, false] rfl rfl rfl rfl (two_of HT_.out (by kernel_rfl)) (by decide) (by decide) (fun K hK => ?_) (fun K hK => ?_)
                                    · skip
                                      have hcv21 := own_string (P := Tryd.prog) Tryd.underlying52 Tryd.underlying5 Tryd.underlying9 (Kd.own_of_R HO176.out)
                                      refine value_ (w1 := ?_) (v := ?_) (by rfl) rfl ?_ ?_
                                      rotate_left 2
                                      · go_simp
                                        constructor
                                        · rfl
                                        · rfl
                                      clear hcv21
                                      refine hK.out _ _ trivial (fun hHeld => ?_)
                                      clear hK K
                                      refine norm_ (a' := ?_) ?_ ?_
                                      rotate_left
                                      · show Act.put _ (some 32) _ = _
                                        simp only [Act.put, List.setIfInBounds_toArray, List.set_cons_zero, List.set_cons_succ, i64_w, i32_w, IntKind.wrap_u8, IntKind.wrap_u32]
                                        rfl
                                      exact norm_ (by first | (simp only [putAll, Act.put, List.setIfInBounds_toArray, List.set_cons_zero, List.set_cons_succ]; done) | (simp only [putAll, Act.put, List.setIfInBounds_toArray, List.set_cons_zero, List.set_cons_succ]; rfl)) (hJ11_12_19 (v175, gb180) _ ⟨(by (with_reducible repeat (first | apply Kd.R_alloc | apply Kd.R_drewN | apply Kd.R_drew)); exact HO176.out), (by (with_reducible repeat (first | refine blk_drewN ?_ _ | refine blk_drew ?_ | refine blk_alloc ?_ _)); exact BK180.out), GW180.out, GE180.out, (by repeat (first | (with_reducible first | exact HB.out | apply below_alloc | apply pw_below_drewN | apply below_drew1 | refine below_set ?_ GE180.out) | exact HB.out))⟩)
                                    · skip
                                      refine Kd.R_make_step (Kd.int .u8) _ 5 (by rfl) (N := 36) rfl 52 _ _ rfl ji11 rfl rfl Tryd.underlying52 (.int .u8 0) 1 info5 rfl (by decide) (by omega) 0 (ok := fun _ => True) (okp := fun _ => True) rfl (fun _ hk => hk) trivial (of_decide_eq_true (by first | (with_reducible assumption) | assumption)) (Nat.le_trans (Nat.mul_le_mul_right _ (of_decide_eq_true (by first | (with_reducible assumption) | assumption) : ji11.toNat ≤ 281474976710656)) (by omega)) (Below.refl _ _) (Nat.le_refl _) ?_
                                      intro v178 w21 ho22 hb hg_ hnew_
                                      clear hg_ hnew_
                                      (first | rw [← Ny177.out] at ho22 | (simp only [Int.reduceToNat] at ho22; rw [← Ny177.out] at ho22))
                                      have n0_ := Aside0.mk (Kd.R_elder' (by (with_reducible repeat (first | apply Kd.R_alloc | apply Kd.R_drewN | apply Kd.R_drew)); exact HO176.out) (Kd.R_base ho22) hb)
                                      have n1_ := Aside0.mk (Kd.R_lower (Kd.R_new' ho22 (Kd.R_lt (by (with_reducible repeat (first | apply Kd.R_alloc | apply Kd.R_drewN | apply Kd.R_drew)); exact HO176.out))) (below_size (by repeat (first | (with_reducible first | exact HB.out | apply below_alloc | apply pw_below_drewN | apply below_drew1 | refine below_set ?_ GE180.out) | exact HB.out))))
                                      have n2_ := Aside0.mk (blk_below (g := gb180) (o := .cells #[.int .i64 0, .int .i64 0, .int .u32 0, .string (⟨#[]⟩ : ByteArray), .string (⟨#[]⟩ : ByteArray)] 24 (0, 0)) (by (with_reducible repeat (first | refine blk_drewN ?_ _ | refine blk_drew ?_ | refine blk_alloc ?_ _)); exact BK180.out) hb)
                                      have n3_ := Aside0.mk (below_step (by repeat (first | (with_reducible first | exact HB.out | apply below_alloc | apply pw_below_drewN | apply below_drew1 | refine below_set ?_ GE180.out) | exact HB.out)) hb)
                                      clear HO176
                                      clear BK180
                                      clear HB
                                      have HO176 := n0_
                                      have HO179 := n1_
                                      have BK180 := n2_
                                      have HB := n3_
                                      clear n0_ n1_ n2_ n3_
                                      clear hb ho22
                                      refine hK.out _ _ trivial (fun hHeld => ?_)
                                      clear hK K
                                      refine norm_ (a' := ?_) ?_ ?_
                                      rotate_left
                                      · show Act.put _ (some 36) _ = _
                                        simp only [Act.put, List.setIfInBounds_toArray, List.set_cons_zero, List.set_cons_succ, i64_w, i32_w, IntKind.wrap_u8, IntKind.wrap_u32]
                                        rfl
                                      exact norm_ (by first | (simp only [putAll, Act.put, List.setIfInBounds_toArray, List.set_cons_zero, List.set_cons_succ]; done) | (simp only [putAll, Act.put, List.setIfInBounds_toArray, List.set_cons_zero, List.set_cons_succ]; rfl)) (hJ11_16_19 (v175, v178, gb180) _ ⟨(by (with_reducible repeat (first | apply Kd.R_alloc | apply Kd.R_drewN | apply Kd.R_drew)); exact Kd.R_mono HO176.out (fun _ hk => hk.2)), (by (with_reducible repeat (first | apply Kd.R_alloc | apply Kd.R_drewN | apply Kd.R_drew)); exact Kd.R_mono HO179.out (fun _ hk => hk.2)), (by (with_reducible repeat (first | refine blk_drewN ?_ _ | refine blk_drew ?_ | refine blk_alloc ?_ _)); exact BK180.out), GW180.out, GE180.out, (by repeat (first | (with_reducible first | exact HB.out | apply below_alloc | apply pw_below_drewN | apply below_drew1 | refine below_set ?_ GE180.out) | exact HB.out))⟩)
                                · skip
                                  rintro ⟨v175, v178⟩ w21 ⟨h0_, h1_, h2_⟩
                                  have n0_ : Aside0 (Kd.R (Kd.int .u8) 5 w21 w.heap.size (fun k_ => some k_ ≠ (v178 : Value).ownBlock) v175 y174) := ⟨h0_⟩
                                  have n1_ : Aside0 (Kd.R (Kd.int .u8) 5 w21 w.heap.size (fun k_ => some k_ ≠ (v175 : Value).ownBlock) v178 y177) := ⟨h1_⟩
                                  have n2_ : Aside0 (Below w.heap.size w w21) := ⟨h2_⟩
                                  clear HB
                                  clear h0_ h1_ h2_
                                  have HO176 := n0_
                                  have HO179 := n1_
                                  have HB := n2_
                                  clear n0_ n1_ n2_
                                  have hHeld := trivial
                                  refine norm_ (a' := ?_) ?_ ?_
                                  rotate_left
                                  · simp only [putAll, Act.put, List.setIfInBounds_toArray, List.set_cons_zero, List.set_cons_succ]
                                    rfl
                                  refine three_ (i := 12) (j := 17) (k := 19) (Ni := some 32) (Nj := some 37) (Nk := some 12) #[true, true, true, true, true, true, true, true, true, true, true, true, true, true, true, true, true, false, false, false, false] #[true, true, true, true, true, true, true, true, true, true, true, true, false, true, true, true, true, true, false, false, false] #[true, true, true, true, true, true, true, true, true, true, true, true, false, true, true, true, true, false, false, true, false] rfl rfl rfl rfl rfl rfl (three_of HT_.out (by kernel_rfl)) (by decide) (by decide) (by decide) (fun K hK => ?_) (fun K hK => ?_) (fun K hK => ?_)
                                  · skip
                                    have hcv22 := own_string (P := Tryd.prog) Tryd.underlying52 Tryd.underlying5 Tryd.underlying9 (Kd.own_of_R HO176.out)
                                    refine value_ (w1 := ?_) (v := ?_) (by rfl) rfl ?_ ?_
                                    rotate_left 2
                                    · go_simp
                                      constructor
                                      · rfl
                                      · rfl
                                    clear hcv22
                                    refine hK.out _ _ trivial (fun hHeld => ?_)
                                    clear hK K
                                    refine norm_ (a' := ?_) ?_ ?_
                                    rotate_left
                                    · show Act.put _ (some 32) _ = _
                                      simp only [Act.put, List.setIfInBounds_toArray, List.set_cons_zero, List.set_cons_succ, i64_w, i32_w, IntKind.wrap_u8, IntKind.wrap_u32]
                                      rfl
                                    exact norm_ (by first | (simp only [putAll, Act.put, List.setIfInBounds_toArray, List.set_cons_zero, List.set_cons_succ]; done) | (simp only [putAll, Act.put, List.setIfInBounds_toArray, List.set_cons_zero, List.set_cons_succ]; rfl)) (hJ11_12_16 (v175, v178) _ ⟨(by (with_reducible repeat (first | apply Kd.R_alloc | apply Kd.R_drewN | apply Kd.R_drew)); exact HO176.out), (by (with_reducible repeat (first | apply Kd.R_alloc | apply Kd.R_drewN | apply Kd.R_drew)); exact HO179.out), (by repeat (first | (with_reducible first | exact HB.out | apply below_alloc | apply pw_below_drewN | apply below_drew1) | exact HB.out))⟩)
                                  · skip
                                    have hcv22 := own_string (P := Tryd.prog) Tryd.underlying52 Tryd.underlying5 Tryd.underlying9 (Kd.own_of_R HO179.out)
                                    refine value_ (w1 := ?_) (v := ?_) (by rfl) rfl ?_ ?_
                                    rotate_left 2
                                    · go_simp
                                      constructor
                                      · rfl
                                      · rfl
                                    clear hcv22
                                    refine hK.out _ _ trivial (fun hHeld => ?_)
                                    clear hK K
                                    refine norm_ (a' := ?_) ?_ ?_
                                    rotate_left
                                    · show Act.put _ (some 37) _ = _
                                      simp only [Act.put, List.setIfInBounds_toArray, List.set_cons_zero, List.set_cons_succ, i64_w, i32_w, IntKind.wrap_u8, IntKind.wrap_u32]
                                      rfl
                                    exact norm_ (by first | (simp only [putAll, Act.put, List.setIfInBounds_toArray, List.set_cons_zero, List.set_cons_succ]; done) | (simp only [putAll, Act.put, List.setIfInBounds_toArray, List.set_cons_zero, List.set_cons_succ]; rfl)) (hJ11_16_17 (v175, v178) _ ⟨(by (with_reducible repeat (first | apply Kd.R_alloc | apply Kd.R_drewN | apply Kd.R_drew)); exact HO176.out), (by (with_reducible repeat (first | apply Kd.R_alloc | apply Kd.R_drewN | apply Kd.R_drew)); exact HO179.out), (by repeat (first | (with_reducible first | exact HB.out | apply below_alloc | apply pw_below_drewN | apply below_drew1) | exact HB.out))⟩)
                                  · skip
                                    refine box_step ?hg (N := 12) ?hd (cs := #[.int .i64 0, .int .i64 0, .int .u32 0, .string (⟨#[]⟩ : ByteArray), .string (⟨#[]⟩ : ByteArray)]) (t := 24) ?hr ?_; (case hd => rfl); (case hg => rfl); (case hr => first | (go_simp; done) | (go_simp; rfl) | (go_simp; simp only [IntKind.wrap_u8, IntKind.wrap_u32]; done) | (go_simp; simp only [IntKind.wrap_u8, IntKind.wrap_u32]; rfl))
                                    intro gb180 hg w22 hbox hb
                                    have n0_ := Aside0.mk (Kd.R_below (by (with_reducible repeat (first | apply Kd.R_alloc | apply Kd.R_drewN | apply Kd.R_drew)); exact HO176.out) hb)
                                    have n1_ := Aside0.mk (Kd.R_below (by (with_reducible repeat (first | apply Kd.R_alloc | apply Kd.R_drewN | apply Kd.R_drew)); exact HO179.out) hb)
                                    have n2_ := Aside0.mk (below_step (by repeat (first | (with_reducible first | exact HB.out | apply below_alloc | apply pw_below_drewN | apply below_drew1) | exact HB.out)) hb)
                                    have n3_ := Aside0.mk (hbox)
                                    have n4_ := Aside0.mk ((by rw [hg]; exact (below_size (by repeat (first | (with_reducible first | exact HB.out | apply below_alloc | apply pw_below_drewN | apply below_drew1) | exact HB.out))) : w.heap.size ≤ gb180))
                                    have n5_ := Aside0.mk ((by rw [hg]; exact (below_size (by repeat (first | (with_reducible first | exact HB.out | apply below_alloc | apply pw_below_drewN | apply below_drew1) | exact HB.out))) : w.heap.size ≤ gb180))
                                    clear HO176
                                    clear HO179
                                    clear HB
                                    have HO176 := n0_
                                    have HO179 := n1_
                                    have HB := n2_
                                    have BK180 := n3_
                                    have GW180 := n4_
                                    have GE180 := n5_
                                    clear n0_ n1_ n2_ n3_ n4_ n5_
                                    clear hb hbox hg
                                    refine hK.out _ _ trivial (fun hHeld => ?_)
                                    clear hK K
                                    refine norm_ (a' := ?_) ?_ ?_
                                    rotate_left
                                    · show Act.put _ (some 12) _ = _
                                      simp only [Act.put, List.setIfInBounds_toArray, List.set_cons_zero, List.set_cons_succ, i64_w, i32_w, IntKind.wrap_u8, IntKind.wrap_u32]
                                      rfl
                                    exact norm_ (by first | (simp only [putAll, Act.put, List.setIfInBounds_toArray, List.set_cons_zero, List.set_cons_succ]; done) | (simp only [putAll, Act.put, List.setIfInBounds_toArray, List.set_cons_zero, List.set_cons_succ]; rfl)) (hJ11_16_19 (v175, v178, gb180) _ ⟨(by (with_reducible repeat (first | apply Kd.R_alloc | apply Kd.R_drewN | apply Kd.R_drew)); exact HO176.out), (by (with_reducible repeat (first | apply Kd.R_alloc | apply Kd.R_drewN | apply Kd.R_drew)); exact HO179.out), (by (with_reducible repeat (first | refine blk_drewN ?_ _ | refine blk_drew ?_ | refine blk_alloc ?_ _)); exact BK180.out), GW180.out, GE180.out, (by repeat (first | (with_reducible first | exact HB.out | apply below_alloc | apply pw_below_drewN | apply below_drew1 | refine below_set ?_ GE180.out) | exact HB.out))⟩)
                              · skip
                                rintro v175 w20 ⟨h0_, h1_⟩
                                have n0_ : Aside0 (Kd.R (Kd.int .u8) 5 w20 w.heap.size (fun _ => True) v175 y174) := ⟨h0_⟩
                                have n1_ : Aside0 (Below w.heap.size w w20) := ⟨h1_⟩
                                clear HB
                                clear h0_ h1_
                                have HO176 := n0_
                                have HB := n1_
                                clear n0_ n1_
                                have hHeld := trivial
                                refine norm_ (a' := ?_) ?_ ?_
                                rotate_left
                                · simp only [putAll, Act.put, List.setIfInBounds_toArray, List.set_cons_zero, List.set_cons_succ]
                                  rfl
                                refine two_ (i := 16) (j := 19) (Ni := some 36) (Nj := some 12) #[true, true, true, true, true, true, true, true, true, true, true, true, true, true, true, true, true, false, false, false, false] #[true, true, true, true, true, true, true, true, true, true, true, true, true, true, true, true, false, false, false, true, false] rfl rfl rfl rfl (two_of HT_.out (by kernel_rfl)) (by decide) (by decide) (fun K hK => ?_) (fun K hK => ?_)
                                · skip
                                  refine Kd.R_make_step (Kd.int .u8) _ 5 (by rfl) (N := 36) rfl 52 _ _ rfl ji11 rfl rfl Tryd.underlying52 (.int .u8 0) 1 info5 rfl (by decide) (by omega) 0 (ok := fun _ => True) (okp := fun _ => True) rfl (fun _ hk => hk) trivial (of_decide_eq_true (by first | (with_reducible assumption) | assumption)) (Nat.le_trans (Nat.mul_le_mul_right _ (of_decide_eq_true (by first | (with_reducible assumption) | assumption) : ji11.toNat ≤ 281474976710656)) (by omega)) (Below.refl _ _) (Nat.le_refl _) ?_
                                  intro v178 w21 ho22 hb hg_ hnew_
                                  clear hg_ hnew_
                                  (first | rw [← Ny177.out] at ho22 | (simp only [Int.reduceToNat] at ho22; rw [← Ny177.out] at ho22))
                                  have n0_ := Aside0.mk (Kd.R_elder' (by (with_reducible repeat (first | apply Kd.R_alloc | apply Kd.R_drewN | apply Kd.R_drew)); exact HO176.out) (Kd.R_base ho22) hb)
                                  have n1_ := Aside0.mk (Kd.R_lower (Kd.R_new' ho22 (Kd.R_lt (by (with_reducible repeat (first | apply Kd.R_alloc | apply Kd.R_drewN | apply Kd.R_drew)); exact HO176.out))) (below_size (by repeat (first | (with_reducible first | exact HB.out | apply below_alloc | apply pw_below_drewN | apply below_drew1) | exact HB.out))))
                                  have n2_ := Aside0.mk (below_step (by repeat (first | (with_reducible first | exact HB.out | apply below_alloc | apply pw_below_drewN | apply below_drew1) | exact HB.out)) hb)
                                  clear HO176
                                  clear HB
                                  have HO176 := n0_
                                  have HO179 := n1_
                                  have HB := n2_
                                  clear n0_ n1_ n2_
                                  clear hb ho22
                                  refine hK.out _ _ trivial (fun hHeld => ?_)
                                  clear hK K
                                  refine norm_ (a' := ?_) ?_ ?_
                                  rotate_left
                                  · show Act.put _ (some 36) _ = _
                                    simp only [Act.put, List.setIfInBounds_toArray, List.set_cons_zero, List.set_cons_succ, i64_w, i32_w, IntKind.wrap_u8, IntKind.wrap_u32]
                                    rfl
                                  exact norm_ (by first | (simp only [putAll, Act.put, List.setIfInBounds_toArray, List.set_cons_zero, List.set_cons_succ]; done) | (simp only [putAll, Act.put, List.setIfInBounds_toArray, List.set_cons_zero, List.set_cons_succ]; rfl)) (hJ11_12_16 (v175, v178) _ ⟨(by (with_reducible repeat (first | apply Kd.R_alloc | apply Kd.R_drewN | apply Kd.R_drew)); exact Kd.R_mono HO176.out (fun _ hk => hk.2)), (by (with_reducible repeat (first | apply Kd.R_alloc | apply Kd.R_drewN | apply Kd.R_drew)); exact Kd.R_mono HO179.out (fun _ hk => hk.2)), (by repeat (first | (with_reducible first | exact HB.out | apply below_alloc | apply pw_below_drewN | apply below_drew1) | exact HB.out))⟩)
                                · skip
                                  refine box_step ?hg (N := 12) ?hd (cs := #[.int .i64 0, .int .i64 0, .int .u32 0, .string (⟨#[]⟩ : ByteArray), .string (⟨#[]⟩ : ByteArray)]) (t := 24) ?hr ?_; (case hd => rfl); (case hg => rfl); (case hr => first | (go_simp; done) | (go_simp; rfl) | (go_simp; simp only [IntKind.wrap_u8, IntKind.wrap_u32]; done) | (go_simp; simp only [IntKind.wrap_u8, IntKind.wrap_u32]; rfl))
                                  intro gb180 hg w21 hbox hb
                                  have n0_ := Aside0.mk (Kd.R_below (by (with_reducible repeat (first | apply Kd.R_alloc | apply Kd.R_drewN | apply Kd.R_drew)); exact HO176.out) hb)
                                  have n1_ := Aside0.mk (below_step (by repeat (first | (with_reducible first | exact HB.out | apply below_alloc | apply pw_below_drewN | apply below_drew1) | exact HB.out)) hb)
                                  have n2_ := Aside0.mk (hbox)
                                  have n3_ := Aside0.mk ((by rw [hg]; exact (below_size (by repeat (first | (with_reducible first | exact HB.out | apply below_alloc | apply pw_below_drewN | apply below_drew1) | exact HB.out))) : w.heap.size ≤ gb180))
                                  have n4_ := Aside0.mk ((by rw [hg]; exact (below_size (by repeat (first | (with_reducible first | exact HB.out | apply below_alloc | apply pw_below_drewN | apply below_drew1) | exact HB.out))) : w.heap.size ≤ gb180))
                                  clear HO176
                                  clear HB
                                  have HO176 := n0_
                                  have HB := n1_
                                  have BK180 := n2_
                                  have GW180 := n3_
                                  have GE180 := n4_
                                  clear n0_ n1_ n2_ n3_ n4_
                                  clear hb hbox hg
                                  refine hK.out _ _ trivial (fun hHeld => ?_)
                                  clear hK K
                                  refine norm_ (a' := ?_) ?_ ?_
                                  rotate_left
                                  · show Act.put _ (some 12) _ = _
                                    simp only [Act.put, List.setIfInBounds_toArray, List.set_cons_zero, List.set_cons_succ, i64_w, i32_w, IntKind.wrap_u8, IntKind.wrap_u32]
                                    rfl
                                  exact norm_ (by first | (simp only [putAll, Act.put, List.setIfInBounds_toArray, List.set_cons_zero, List.set_cons_succ]; done) | (simp only [putAll, Act.put, List.setIfInBounds_toArray, List.set_cons_zero, List.set_cons_succ]; rfl)) (hJ11_12_19 (v175, gb180) _ ⟨(by (with_reducible repeat (first | apply Kd.R_alloc | apply Kd.R_drewN | apply Kd.R_drew)); exact HO176.out), (by (with_reducible repeat (first | refine blk_drewN ?_ _ | refine blk_drew ?_ | refine blk_alloc ?_ _)); exact BK180.out), GW180.out, GE180.out, (by repeat (first | (with_reducible first | exact HB.out | apply below_alloc | apply pw_below_drewN | apply below_drew1 | refine below_set ?_ GE180.out) | exact HB.out))⟩)
                            · skip
                              rintro ⟨v178, gb180⟩ w21 ⟨h0_, h1_, h2_, h3_, h4_⟩
                              have n0_ : Aside0 (Kd.R (Kd.int .u8) 5 w21 w.heap.size (fun _ => True) v178 y177) := ⟨h0_⟩
                              have n1_ : Aside0 (w21.heap[gb180]? = some (.cells #[.int .i64 0, .int .i64 0, .int .u32 0, .string (⟨#[]⟩ : ByteArray), .string (⟨#[]⟩ : ByteArray)] 24 (0, 0))) := ⟨h1_⟩
                              have n2_ : Aside0 (w.heap.size ≤ gb180) := ⟨h2_⟩
                              have n3_ : Aside0 (w.heap.size ≤ gb180) := ⟨h3_⟩
                              have n4_ : Aside0 (Below w.heap.size w w21) := ⟨h4_⟩
                              clear HB
                              clear h0_ h1_ h2_ h3_ h4_
                              have HO179 := n0_
                              have BK180 := n1_
                              have GW180 := n2_
                              have GE180 := n3_
                              have HB := n4_
                              clear n0_ n1_ n2_ n3_ n4_
                              have hHeld := trivial
                              refine norm_ (a' := ?_) ?_ ?_
                              rotate_left
                              · simp only [putAll, Act.put, List.setIfInBounds_toArray, List.set_cons_zero, List.set_cons_succ]
                                rfl
                              refine one_ (i := 11) (N := some 31) #[true, true, true, true, true, true, true, true, true, true, true, true, false, true, true, true, true, true, false, true, false] rfl rfl (one_of HT_.out (by kernel_rfl)) (by decide) (fun K hK => ?_)
                              refine Kd.R_make_step (Kd.int .u8) _ 5 (by rfl) (N := 31) rfl 52 _ _ rfl ji8 rfl rfl Tryd.underlying52 (.int .u8 0) 1 info5 rfl (by decide) (by omega) 0 (ok := fun _ => True) (okp := fun _ => True) rfl (fun _ hk => hk) trivial (of_decide_eq_true (by first | (with_reducible assumption) | assumption)) (Nat.le_trans (Nat.mul_le_mul_right _ (of_decide_eq_true (by first | (with_reducible assumption) | assumption) : ji8.toNat ≤ 281474976710656)) (by omega)) (Below.refl _ _) (Nat.le_refl _) ?_
                              intro v175 w22 ho23 hb hg_ hnew_
                              clear hg_ hnew_
                              (first | rw [← Ny174.out] at ho23 | (simp only [Int.reduceToNat] at ho23; rw [← Ny174.out] at ho23))
                              have n0_ := Aside0.mk (Kd.R_elder' (by (with_reducible repeat (first | apply Kd.R_alloc | apply Kd.R_drewN | apply Kd.R_drew)); exact HO179.out) (Kd.R_base ho23) hb)
                              have n1_ := Aside0.mk (Kd.R_lower (Kd.R_new' ho23 (Kd.R_lt (by (with_reducible repeat (first | apply Kd.R_alloc | apply Kd.R_drewN | apply Kd.R_drew)); exact HO179.out))) (below_size (by repeat (first | (with_reducible first | exact HB.out | apply below_alloc | apply pw_below_drewN | apply below_drew1 | refine below_set ?_ GE180.out) | exact HB.out))))
                              have n2_ := Aside0.mk (blk_below (g := gb180) (o := .cells #[.int .i64 0, .int .i64 0, .int .u32 0, .string (⟨#[]⟩ : ByteArray), .string (⟨#[]⟩ : ByteArray)] 24 (0, 0)) (by (with_reducible repeat (first | refine blk_drewN ?_ _ | refine blk_drew ?_ | refine blk_alloc ?_ _)); exact BK180.out) hb)
                              have n3_ := Aside0.mk (below_step (by repeat (first | (with_reducible first | exact HB.out | apply below_alloc | apply pw_below_drewN | apply below_drew1 | refine below_set ?_ GE180.out) | exact HB.out)) hb)
                              clear HO179
                              clear BK180
                              clear HB
                              have HO179 := n0_
                              have HO176 := n1_
                              have BK180 := n2_
                              have HB := n3_
                              clear n0_ n1_ n2_ n3_
                              clear hb ho23
                              refine hK.out _ _ trivial (fun hHeld => ?_)
                              clear hK K
                              refine norm_ (a' := ?_) ?_ ?_
                              rotate_left
                              · show Act.put _ (some 31) _ = _
                                simp only [Act.put, List.setIfInBounds_toArray, List.set_cons_zero, List.set_cons_succ, i64_w, i32_w, IntKind.wrap_u8, IntKind.wrap_u32]
                                rfl
                              exact norm_ (by first | (simp only [putAll, Act.put, List.setIfInBounds_toArray, List.set_cons_zero, List.set_cons_succ]; done) | (simp only [putAll, Act.put, List.setIfInBounds_toArray, List.set_cons_zero, List.set_cons_succ]; rfl)) (hJ11_16_17_19 (v175, v178, gb180) _ ⟨(by (with_reducible repeat (first | apply Kd.R_alloc | apply Kd.R_drewN | apply Kd.R_drew)); exact Kd.R_mono HO176.out (fun _ hk => hk.2)), (by (with_reducible repeat (first | apply Kd.R_alloc | apply Kd.R_drewN | apply Kd.R_drew)); exact Kd.R_mono HO179.out (fun _ hk => hk.2)), (by (with_reducible repeat (first | refine blk_drewN ?_ _ | refine blk_drew ?_ | refine blk_alloc ?_ _)); exact BK180.out), GW180.out, GE180.out, (by repeat (first | (with_reducible first | exact HB.out | apply below_alloc | apply pw_below_drewN | apply below_drew1 | refine below_set ?_ GE180.out) | exact HB.out))⟩)
                          · skip
                            rintro ⟨v175, v178, gb180⟩ w22 ⟨h0_, h1_, h2_, h3_, h4_, h5_⟩
                            have n0_ : Aside0 (Kd.R (Kd.int .u8) 5 w22 w.heap.size (fun k_ => some k_ ≠ (v178 : Value).ownBlock) v175 y174) := ⟨h0_⟩
                            have n1_ : Aside0 (Kd.R (Kd.int .u8) 5 w22 w.heap.size (fun k_ => some k_ ≠ (v175 : Value).ownBlock) v178 y177) := ⟨h1_⟩
                            have n2_ : Aside0 (w22.heap[gb180]? = some (.cells #[.int .i64 0, .int .i64 0, .int .u32 0, .string (⟨#[]⟩ : ByteArray), .string (⟨#[]⟩ : ByteArray)] 24 (0, 0))) := ⟨h2_⟩
                            have n3_ : Aside0 (w.heap.size ≤ gb180) := ⟨h3_⟩
                            have n4_ : Aside0 (w.heap.size ≤ gb180) := ⟨h4_⟩
                            have n5_ : Aside0 (Below w.heap.size w w22) := ⟨h5_⟩
                            clear HB
                            clear h0_ h1_ h2_ h3_ h4_ h5_
                            have HO176 := n0_
                            have HO179 := n1_
                            have BK180 := n2_
                            have GW180 := n3_
                            have GE180 := n4_
                            have HB := n5_
                            clear n0_ n1_ n2_ n3_ n4_ n5_
                            have hHeld := trivial
                            refine norm_ (a' := ?_) ?_ ?_
                            rotate_left
                            · simp only [putAll, Act.put, List.setIfInBounds_toArray, List.set_cons_zero, List.set_cons_succ]
                              rfl
                            refine two_ (i := 12) (j := 17) (Ni := some 32) (Nj := some 37) #[true, true, true, true, true, true, true, true, true, true, true, true, true, true, true, true, true, false, false, true, false] #[true, true, true, true, true, true, true, true, true, true, true, true, false, true, true, true, true, true, false, true, false] rfl rfl rfl rfl (two_of HT_.out (by kernel_rfl)) (by decide) (by decide) (fun K hK => ?_) (fun K hK => ?_)
                            · skip
                              have hcv23 := own_string (P := Tryd.prog) Tryd.underlying52 Tryd.underlying5 Tryd.underlying9 (Kd.own_of_R HO176.out)
                              refine value_ (w1 := ?_) (v := ?_) (by rfl) rfl ?_ ?_
                              rotate_left 2
                              · go_simp
                                constructor
                                · rfl
                                · rfl
                              clear hcv23
                              refine hK.out _ _ trivial (fun hHeld => ?_)
                              clear hK K
                              refine norm_ (a' := ?_) ?_ ?_
                              rotate_left
                              · show Act.put _ (some 32) _ = _
                                simp only [Act.put, List.setIfInBounds_toArray, List.set_cons_zero, List.set_cons_succ, i64_w, i32_w, IntKind.wrap_u8, IntKind.wrap_u32]
                                rfl
                              exact norm_ (by first | (simp only [putAll, Act.put, List.setIfInBounds_toArray, List.set_cons_zero, List.set_cons_succ]; done) | (simp only [putAll, Act.put, List.setIfInBounds_toArray, List.set_cons_zero, List.set_cons_succ]; rfl)) (hJ11_12_16_19 (v175, v178, gb180) _ ⟨(by (with_reducible repeat (first | apply Kd.R_alloc | apply Kd.R_drewN | apply Kd.R_drew)); exact HO176.out), (by (with_reducible repeat (first | apply Kd.R_alloc | apply Kd.R_drewN | apply Kd.R_drew)); exact HO179.out), (by (with_reducible repeat (first | refine blk_drewN ?_ _ | refine blk_drew ?_ | refine blk_alloc ?_ _)); exact BK180.out), GW180.out, GE180.out, (by repeat (first | (with_reducible first | exact HB.out | apply below_alloc | apply pw_below_drewN | apply below_drew1 | refine below_set ?_ GE180.out) | exact HB.out))⟩)
                            · skip
                              have hcv23 := own_string (P := Tryd.prog) Tryd.underlying52 Tryd.underlying5 Tryd.underlying9 (Kd.own_of_R HO179.out)
                              refine value_ (w1 := ?_) (v := ?_) (by rfl) rfl ?_ ?_
                              rotate_left 2
                              · go_simp
                                constructor
                                · rfl
                                · rfl
                              clear hcv23
                              refine hK.out _ _ trivial (fun hHeld => ?_)
                              clear hK K
                              refine norm_ (a' := ?_) ?_ ?_
                              rotate_left
                              · show Act.put _ (some 37) _ = _
                                simp only [Act.put, List.setIfInBounds_toArray, List.set_cons_zero, List.set_cons_succ, i64_w, i32_w, IntKind.wrap_u8, IntKind.wrap_u32]
                                rfl
                              exact norm_ (by first | (simp only [putAll, Act.put, List.setIfInBounds_toArray, List.set_cons_zero, List.set_cons_succ]; done) | (simp only [putAll, Act.put, List.setIfInBounds_toArray, List.set_cons_zero, List.set_cons_succ]; rfl)) (hJ11_16_17_19 (v175, v178, gb180) _ ⟨(by (with_reducible repeat (first | apply Kd.R_alloc | apply Kd.R_drewN | apply Kd.R_drew)); exact HO176.out), (by (with_reducible repeat (first | apply Kd.R_alloc | apply Kd.R_drewN | apply Kd.R_drew)); exact HO179.out), (by (with_reducible repeat (first | refine blk_drewN ?_ _ | refine blk_drew ?_ | refine blk_alloc ?_ _)); exact BK180.out), GW180.out, GE180.out, (by repeat (first | (with_reducible first | exact HB.out | apply below_alloc | apply pw_below_drewN | apply below_drew1 | refine below_set ?_ GE180.out) | exact HB.out))⟩)
                        · skip
                          rintro ⟨v175, v178⟩ w22 ⟨h0_, h1_, h2_⟩
                          have n0_ : Aside0 (Kd.R (Kd.int .u8) 5 w22 w.heap.size (fun k_ => some k_ ≠ (v178 : Value).ownBlock) v175 y174) := ⟨h0_⟩
                          have n1_ : Aside0 (Kd.R (Kd.int .u8) 5 w22 w.heap.size (fun k_ => some k_ ≠ (v175 : Value).ownBlock) v178 y177) := ⟨h1_⟩
                          have n2_ : Aside0 (Below w.heap.size w w22) := ⟨h2_⟩
                          clear HB
                          clear h0_ h1_ h2_
                          have HO176 := n0_
                          have HO179 := n1_
                          have HB := n2_
                          clear n0_ n1_ n2_
                          have hHeld := trivial
                          refine norm_ (a' := ?_) ?_ ?_
                          rotate_left
                          · simp only [putAll, Act.put, List.setIfInBounds_toArray, List.set_cons_zero, List.set_cons_succ]
                            rfl
                          refine two_ (i := 12) (j := 19) (Ni := some 32) (Nj := some 12) #[true, true, true, true, true, true, true, true, true, true, true, true, true, true, true, true, true, true, false, false, false] #[true, true, true, true, true, true, true, true, true, true, true, true, false, true, true, true, true, true, false, true, false] rfl rfl rfl rfl (two_of HT_.out (by kernel_rfl)) (by decide) (by decide) (fun K hK => ?_) (fun K hK => ?_)
                          · skip
                            have hcv23 := own_string (P := Tryd.prog) Tryd.underlying52 Tryd.underlying5 Tryd.underlying9 (Kd.own_of_R HO176.out)
                            refine value_ (w1 := ?_) (v := ?_) (by rfl) rfl ?_ ?_
                            rotate_left 2
                            · go_simp
                              constructor
                              · rfl
                              · rfl
                            clear hcv23
                            refine hK.out _ _ trivial (fun hHeld => ?_)
                            clear hK K
                            refine norm_ (a' := ?_) ?_ ?_
                            rotate_left
                            · show Act.put _ (some 32) _ = _
                              simp only [Act.put, List.setIfInBounds_toArray, List.set_cons_zero, List.set_cons_succ, i64_w, i32_w, IntKind.wrap_u8, IntKind.wrap_u32]
                              rfl
                            refine pure_ (i := 18) (N := some 38) (v := ?_) (a' := ?_) #[true, true, true, true, true, true, true, true, true, true, true, true, true, true, true, true, true, true, true, false, false] rfl rfl (any_of HT_.out (by kernel_rfl)) (fun _ _ _ h => h) (Or.inl ⟨by rfl, ?_⟩) ?_ ?_
                            rotate_left
                            · intro w'
                              go_simp
                              with_reducible rfl
                            rotate_left
                            · simp only [Act.put, List.setIfInBounds_toArray, List.set_cons_zero, List.set_cons_succ, i64_w, i32_w, IntKind.wrap_u8, IntKind.wrap_u32]
                              rfl
                            exact norm_ (by first | (simp only [putAll, Act.put, List.setIfInBounds_toArray, List.set_cons_zero, List.set_cons_succ]; done) | (simp only [putAll, Act.put, List.setIfInBounds_toArray, List.set_cons_zero, List.set_cons_succ]; rfl)) (hJ11_12_16_17 (v175, v178) _ ⟨(by (with_reducible repeat (first | apply Kd.R_alloc | apply Kd.R_drewN | apply Kd.R_drew)); exact HO176.out), (by (with_reducible repeat (first | apply Kd.R_alloc | apply Kd.R_drewN | apply Kd.R_drew)); exact HO179.out), (by repeat (first | (with_reducible first | exact HB.out | apply below_alloc | apply pw_below_drewN | apply below_drew1) | exact HB.out))⟩)
                          · skip
                            refine box_step ?hg (N := 12) ?hd (cs := #[.int .i64 0, .int .i64 0, .int .u32 0, .string (⟨#[]⟩ : ByteArray), .string (⟨#[]⟩ : ByteArray)]) (t := 24) ?hr ?_; (case hd => rfl); (case hg => rfl); (case hr => first | (go_simp; done) | (go_simp; rfl) | (go_simp; simp only [IntKind.wrap_u8, IntKind.wrap_u32]; done) | (go_simp; simp only [IntKind.wrap_u8, IntKind.wrap_u32]; rfl))
                            intro gb180 hg w23 hbox hb
                            have n0_ := Aside0.mk (Kd.R_below (by (with_reducible repeat (first | apply Kd.R_alloc | apply Kd.R_drewN | apply Kd.R_drew)); exact HO176.out) hb)
                            have n1_ := Aside0.mk (Kd.R_below (by (with_reducible repeat (first | apply Kd.R_alloc | apply Kd.R_drewN | apply Kd.R_drew)); exact HO179.out) hb)
                            have n2_ := Aside0.mk (below_step (by repeat (first | (with_reducible first | exact HB.out | apply below_alloc | apply pw_below_drewN | apply below_drew1) | exact HB.out)) hb)
                            have n3_ := Aside0.mk (hbox)
                            have n4_ := Aside0.mk ((by rw [hg]; exact (below_size (by repeat (first | (with_reducible first | exact HB.out | apply below_alloc | apply pw_below_drewN | apply below_drew1) | exact HB.out))) : w.heap.size ≤ gb180))
                            have n5_ := Aside0.mk ((by rw [hg]; exact (below_size (by repeat (first | (with_reducible first | exact HB.out | apply below_alloc | apply pw_below_drewN | apply below_drew1) | exact HB.out))) : w.heap.size ≤ gb180))
                            clear HO176
                            clear HO179
                            clear HB
                            have HO176 := n0_
                            have HO179 := n1_
                            have HB := n2_
                            have BK180 := n3_
                            have GW180 := n4_
                            have GE180 := n5_
                            clear n0_ n1_ n2_ n3_ n4_ n5_
                            clear hb hbox hg
                            refine hK.out _ _ trivial (fun hHeld => ?_)
                            clear hK K
                            refine norm_ (a' := ?_) ?_ ?_
                            rotate_left
                            · show Act.put _ (some 12) _ = _
                              simp only [Act.put, List.setIfInBounds_toArray, List.set_cons_zero, List.set_cons_succ, i64_w, i32_w, IntKind.wrap_u8, IntKind.wrap_u32]
                              rfl
                            exact norm_ (by first | (simp only [putAll, Act.put, List.setIfInBounds_toArray, List.set_cons_zero, List.set_cons_succ]; done) | (simp only [putAll, Act.put, List.setIfInBounds_toArray, List.set_cons_zero, List.set_cons_succ]; rfl)) (hJ11_16_17_19 (v175, v178, gb180) _ ⟨(by (with_reducible repeat (first | apply Kd.R_alloc | apply Kd.R_drewN | apply Kd.R_drew)); exact HO176.out), (by (with_reducible repeat (first | apply Kd.R_alloc | apply Kd.R_drewN | apply Kd.R_drew)); exact HO179.out), (by (with_reducible repeat (first | refine blk_drewN ?_ _ | refine blk_drew ?_ | refine blk_alloc ?_ _)); exact BK180.out), GW180.out, GE180.out, (by repeat (first | (with_reducible first | exact HB.out | apply below_alloc | apply pw_below_drewN | apply below_drew1 | refine below_set ?_ GE180.out) | exact HB.out))⟩)
                      · skip
                        rintro ⟨v175, gb180⟩ w21 ⟨h0_, h1_, h2_, h3_, h4_⟩
                        have n0_ : Aside0 (Kd.R (Kd.int .u8) 5 w21 w.heap.size (fun _ => True) v175 y174) := ⟨h0_⟩
                        have n1_ : Aside0 (w21.heap[gb180]? = some (.cells #[.int .i64 0, .int .i64 0, .int .u32 0, .string (⟨#[]⟩ : ByteArray), .string (⟨#[]⟩ : ByteArray)] 24 (0, 0))) := ⟨h1_⟩
                        have n2_ : Aside0 (w.heap.size ≤ gb180) := ⟨h2_⟩
                        have n3_ : Aside0 (w.heap.size ≤ gb180) := ⟨h3_⟩
                        have n4_ : Aside0 (Below w.heap.size w w21) := ⟨h4_⟩
                        clear HB
                        clear h0_ h1_ h2_ h3_ h4_
                        have HO176 := n0_
                        have BK180 := n1_
                        have GW180 := n2_
                        have GE180 := n3_
                        have HB := n4_
                        clear n0_ n1_ n2_ n3_ n4_
                        have hHeld := trivial
                        refine norm_ (a' := ?_) ?_ ?_
                        rotate_left
                        · simp only [putAll, Act.put, List.setIfInBounds_toArray, List.set_cons_zero, List.set_cons_succ]
                          rfl
                        refine one_ (i := 16) (N := some 36) #[true, true, true, true, true, true, true, true, true, true, true, true, true, true, true, true, true, false, false, true, false] rfl rfl (one_of HT_.out (by kernel_rfl)) (by decide) (fun K hK => ?_)
                        refine Kd.R_make_step (Kd.int .u8) _ 5 (by rfl) (N := 36) rfl 52 _ _ rfl ji11 rfl rfl Tryd.underlying52 (.int .u8 0) 1 info5 rfl (by decide) (by omega) 0 (ok := fun _ => True) (okp := fun _ => True) rfl (fun _ hk => hk) trivial (of_decide_eq_true (by first | (with_reducible assumption) | assumption)) (Nat.le_trans (Nat.mul_le_mul_right _ (of_decide_eq_true (by first | (with_reducible assumption) | assumption) : ji11.toNat ≤ 281474976710656)) (by omega)) (Below.refl _ _) (Nat.le_refl _) ?_
                        intro v178 w22 ho23 hb hg_ hnew_
                        clear hg_ hnew_
                        (first | rw [← Ny177.out] at ho23 | (simp only [Int.reduceToNat] at ho23; rw [← Ny177.out] at ho23))
                        have n0_ := Aside0.mk (Kd.R_elder' (by (with_reducible repeat (first | apply Kd.R_alloc | apply Kd.R_drewN | apply Kd.R_drew)); exact HO176.out) (Kd.R_base ho23) hb)
                        have n1_ := Aside0.mk (Kd.R_lower (Kd.R_new' ho23 (Kd.R_lt (by (with_reducible repeat (first | apply Kd.R_alloc | apply Kd.R_drewN | apply Kd.R_drew)); exact HO176.out))) (below_size (by repeat (first | (with_reducible first | exact HB.out | apply below_alloc | apply pw_below_drewN | apply below_drew1 | refine below_set ?_ GE180.out) | exact HB.out))))
                        have n2_ := Aside0.mk (blk_below (g := gb180) (o := .cells #[.int .i64 0, .int .i64 0, .int .u32 0, .string (⟨#[]⟩ : ByteArray), .string (⟨#[]⟩ : ByteArray)] 24 (0, 0)) (by (with_reducible repeat (first | refine blk_drewN ?_ _ | refine blk_drew ?_ | refine blk_alloc ?_ _)); exact BK180.out) hb)
                        have n3_ := Aside0.mk (below_step (by repeat (first | (with_reducible first | exact HB.out | apply below_alloc | apply pw_below_drewN | apply below_drew1 | refine below_set ?_ GE180.out) | exact HB.out)) hb)
                        clear HO176
                        clear BK180
                        clear HB
                        have HO176 := n0_
                        have HO179 := n1_
                        have BK180 := n2_
                        have HB := n3_
                        clear n0_ n1_ n2_ n3_
                        clear hb ho23
                        refine hK.out _ _ trivial (fun hHeld => ?_)
                        clear hK K
                        refine norm_ (a' := ?_) ?_ ?_
                        rotate_left
                        · show Act.put _ (some 36) _ = _
                          simp only [Act.put, List.setIfInBounds_toArray, List.set_cons_zero, List.set_cons_succ, i64_w, i32_w, IntKind.wrap_u8, IntKind.wrap_u32]
                          rfl
                        exact norm_ (by first | (simp only [putAll, Act.put, List.setIfInBounds_toArray, List.set_cons_zero, List.set_cons_succ]; done) | (simp only [putAll, Act.put, List.setIfInBounds_toArray, List.set_cons_zero, List.set_cons_succ]; rfl)) (hJ11_12_16_19 (v175, v178, gb180) _ ⟨(by (with_reducible repeat (first | apply Kd.R_alloc | apply Kd.R_drewN | apply Kd.R_drew)); exact Kd.R_mono HO176.out (fun _ hk => hk.2)), (by (with_reducible repeat (first | apply Kd.R_alloc | apply Kd.R_drewN | apply Kd.R_drew)); exact Kd.R_mono HO179.out (fun _ hk => hk.2)), (by (with_reducible repeat (first | refine blk_drewN ?_ _ | refine blk_drew ?_ | refine blk_alloc ?_ _)); exact BK180.out), GW180.out, GE180.out, (by repeat (first | (with_reducible first | exact HB.out | apply below_alloc | apply pw_below_drewN | apply below_drew1 | refine below_set ?_ GE180.out) | exact HB.out))⟩)
                    · skip
                      rintro ⟨v175, v178⟩ w22 ⟨h0_, h1_, h2_⟩
                      have n0_ : Aside0 (Kd.R (Kd.int .u8) 5 w22 w.heap.size (fun k_ => some k_ ≠ (v178 : Value).ownBlock) v175 y174) := ⟨h0_⟩
                      have n1_ : Aside0 (Kd.R (Kd.int .u8) 5 w22 w.heap.size (fun k_ => some k_ ≠ (v175 : Value).ownBlock) v178 y177) := ⟨h1_⟩
                      have n2_ : Aside0 (Below w.heap.size w w22) := ⟨h2_⟩
                      clear HB
                      clear h0_ h1_ h2_
                      have HO176 := n0_
                      have HO179 := n1_
                      have HB := n2_
                      clear n0_ n1_ n2_
                      have hHeld := trivial
                      refine norm_ (a' := ?_) ?_ ?_
                      rotate_left
                      · simp only [putAll, Act.put, List.setIfInBounds_toArray, List.set_cons_zero, List.set_cons_succ]
                        rfl
                      refine two_ (i := 17) (j := 19) (Ni := some 37) (Nj := some 12) #[true, true, true, true, true, true, true, true, true, true, true, true, true, true, true, true, true, true, false, false, false] #[true, true, true, true, true, true, true, true, true, true, true, true, true, true, true, true, true, false, false, true, false] rfl rfl rfl rfl (two_of HT_.out (by kernel_rfl)) (by decide) (by decide) (fun K hK => ?_) (fun K hK => ?_)
                      · skip
                        have hcv23 := own_string (P := Tryd.prog) Tryd.underlying52 Tryd.underlying5 Tryd.underlying9 (Kd.own_of_R HO179.out)
                        refine value_ (w1 := ?_) (v := ?_) (by rfl) rfl ?_ ?_
                        rotate_left 2
                        · go_simp
                          constructor
                          · rfl
                          · rfl
                        clear hcv23
                        refine hK.out _ _ trivial (fun hHeld => ?_)
                        clear hK K
                        refine norm_ (a' := ?_) ?_ ?_
                        rotate_left
                        · show Act.put _ (some 37) _ = _
                          simp only [Act.put, List.setIfInBounds_toArray, List.set_cons_zero, List.set_cons_succ, i64_w, i32_w, IntKind.wrap_u8, IntKind.wrap_u32]
                          rfl
                        refine pure_ (i := 18) (N := some 38) (v := ?_) (a' := ?_) #[true, true, true, true, true, true, true, true, true, true, true, true, true, true, true, true, true, true, true, false, false] rfl rfl (any_of HT_.out (by kernel_rfl)) (fun _ _ _ h => h) (Or.inl ⟨by rfl, ?_⟩) ?_ ?_
                        rotate_left
                        · intro w'
                          go_simp
                          with_reducible rfl
                        rotate_left
                        · simp only [Act.put, List.setIfInBounds_toArray, List.set_cons_zero, List.set_cons_succ, i64_w, i32_w, IntKind.wrap_u8, IntKind.wrap_u32]
                          rfl
                        exact norm_ (by first | (simp only [putAll, Act.put, List.setIfInBounds_toArray, List.set_cons_zero, List.set_cons_succ]; done) | (simp only [putAll, Act.put, List.setIfInBounds_toArray, List.set_cons_zero, List.set_cons_succ]; rfl)) (hJ11_12_16_17 (v175, v178) _ ⟨(by (with_reducible repeat (first | apply Kd.R_alloc | apply Kd.R_drewN | apply Kd.R_drew)); exact HO176.out), (by (with_reducible repeat (first | apply Kd.R_alloc | apply Kd.R_drewN | apply Kd.R_drew)); exact HO179.out), (by repeat (first | (with_reducible first | exact HB.out | apply below_alloc | apply pw_below_drewN | apply below_drew1) | exact HB.out))⟩)
                      · skip
                        refine box_step ?hg (N := 12) ?hd (cs := #[.int .i64 0, .int .i64 0, .int .u32 0, .string (⟨#[]⟩ : ByteArray), .string (⟨#[]⟩ : ByteArray)]) (t := 24) ?hr ?_; (case hd => rfl); (case hg => rfl); (case hr => first | (go_simp; done) | (go_simp; rfl) | (go_simp; simp only [IntKind.wrap_u8, IntKind.wrap_u32]; done) | (go_simp; simp only [IntKind.wrap_u8, IntKind.wrap_u32]; rfl))
                        intro gb180 hg w23 hbox hb
                        have n0_ := Aside0.mk (Kd.R_below (by (with_reducible repeat (first | apply Kd.R_alloc | apply Kd.R_drewN | apply Kd.R_drew)); exact HO176.out) hb)
                        have n1_ := Aside0.mk (Kd.R_below (by (with_reducible repeat (first | apply Kd.R_alloc | apply Kd.R_drewN | apply Kd.R_drew)); exact HO179.out) hb)
                        have n2_ := Aside0.mk (below_step (by repeat (first | (with_reducible first | exact HB.out | apply below_alloc | apply pw_below_drewN | apply below_drew1) | exact HB.out)) hb)
                        have n3_ := Aside0.mk (hbox)
                        have n4_ := Aside0.mk ((by rw [hg]; exact (below_size (by repeat (first | (with_reducible first | exact HB.out | apply below_alloc | apply pw_below_drewN | apply below_drew1) | exact HB.out))) : w.heap.size ≤ gb180))
                        have n5_ := Aside0.mk ((by rw [hg]; exact (below_size (by repeat (first | (with_reducible first | exact HB.out | apply below_alloc | apply pw_below_drewN | apply below_drew1) | exact HB.out))) : w.heap.size ≤ gb180))
                        clear HO176
                        clear HO179
                        clear HB
                        have HO176 := n0_
                        have HO179 := n1_
                        have HB := n2_
                        have BK180 := n3_
                        have GW180 := n4_
                        have GE180 := n5_
                        clear n0_ n1_ n2_ n3_ n4_ n5_
                        clear hb hbox hg
                        refine hK.out _ _ trivial (fun hHeld => ?_)
                        clear hK K
                        refine norm_ (a' := ?_) ?_ ?_
                        rotate_left
                        · show Act.put _ (some 12) _ = _
                          simp only [Act.put, List.setIfInBounds_toArray, List.set_cons_zero, List.set_cons_succ, i64_w, i32_w, IntKind.wrap_u8, IntKind.wrap_u32]
                          rfl
                        exact norm_ (by first | (simp only [putAll, Act.put, List.setIfInBounds_toArray, List.set_cons_zero, List.set_cons_succ]; done) | (simp only [putAll, Act.put, List.setIfInBounds_toArray, List.set_cons_zero, List.set_cons_succ]; rfl)) (hJ11_12_16_19 (v175, v178, gb180) _ ⟨(by (with_reducible repeat (first | apply Kd.R_alloc | apply Kd.R_drewN | apply Kd.R_drew)); exact HO176.out), (by (with_reducible repeat (first | apply Kd.R_alloc | apply Kd.R_drewN | apply Kd.R_drew)); exact HO179.out), (by (with_reducible repeat (first | refine blk_drewN ?_ _ | refine blk_drew ?_ | refine blk_alloc ?_ _)); exact BK180.out), GW180.out, GE180.out, (by repeat (first | (with_reducible first | exact HB.out | apply below_alloc | apply pw_below_drewN | apply below_drew1 | refine below_set ?_ GE180.out) | exact HB.out))⟩)
                  · skip
                    rintro ⟨v175, v178, gb180⟩ w23 ⟨h0_, h1_, h2_, h3_, h4_, h5_⟩
                    have n0_ : Aside0 (Kd.R (Kd.int .u8) 5 w23 w.heap.size (fun k_ => some k_ ≠ (v178 : Value).ownBlock) v175 y174) := ⟨h0_⟩
                    have n1_ : Aside0 (Kd.R (Kd.int .u8) 5 w23 w.heap.size (fun k_ => some k_ ≠ (v175 : Value).ownBlock) v178 y177) := ⟨h1_⟩
                    have n2_ : Aside0 (w23.heap[gb180]? = some (.cells #[.int .i64 0, .int .i64 0, .int .u32 0, .string (⟨#[]⟩ : ByteArray), .string (⟨#[]⟩ : ByteArray)] 24 (0, 0))) := ⟨h2_⟩
                    have n3_ : Aside0 (w.heap.size ≤ gb180) := ⟨h3_⟩
                    have n4_ : Aside0 (w.heap.size ≤ gb180) := ⟨h4_⟩
                    have n5_ : Aside0 (Below w.heap.size w w23) := ⟨h5_⟩
                    clear HB
                    clear h0_ h1_ h2_ h3_ h4_ h5_
                    have HO176 := n0_
                    have HO179 := n1_
                    have BK180 := n2_
                    have GW180 := n3_
                    have GE180 := n4_
                    have HB := n5_
                    clear n0_ n1_ n2_ n3_ n4_ n5_
                    have hHeld := trivial
                    refine norm_ (a' := ?_) ?_ ?_
                    rotate_left
                    · simp only [putAll, Act.put, List.setIfInBounds_toArray, List.set_cons_zero, List.set_cons_succ]
                      rfl
                    refine one_ (i := 12) (N := some 32) #[true, true, true, true, true, true, true, true, true, true, true, true, true, true, true, true, true, true, false, true, false] rfl rfl (one_of HT_.out (by kernel_rfl)) (by decide) (fun K hK => ?_)
                    have hcv24 := own_string (P := Tryd.prog) Tryd.underlying52 Tryd.underlying5 Tryd.underlying9 (Kd.own_of_R HO176.out)
                    refine value_ (w1 := ?_) (v := ?_) (by rfl) rfl ?_ ?_
                    rotate_left 2
                    · go_simp
                      constructor
                      · rfl
                      · rfl
                    clear hcv24
                    refine hK.out _ _ trivial (fun hHeld => ?_)
                    clear hK K
                    refine norm_ (a' := ?_) ?_ ?_
                    rotate_left
                    · show Act.put _ (some 32) _ = _
                      simp only [Act.put, List.setIfInBounds_toArray, List.set_cons_zero, List.set_cons_succ, i64_w, i32_w, IntKind.wrap_u8, IntKind.wrap_u32]
                      rfl
                    refine pure_ (i := 18) (N := some 38) (v := ?_) (a' := ?_) #[true, true, true, true, true, true, true, true, true, true, true, true, true, true, true, true, true, true, true, true, false] rfl rfl (any_of HT_.out (by kernel_rfl)) (fun _ _ _ h => h) (Or.inl ⟨by rfl, ?_⟩) ?_ ?_
                    rotate_left
                    · intro w'
                      go_simp
                      with_reducible rfl
                    rotate_left
                    · simp only [Act.put, List.setIfInBounds_toArray, List.set_cons_zero, List.set_cons_succ, i64_w, i32_w, IntKind.wrap_u8, IntKind.wrap_u32]
                      rfl
                    exact norm_ (by first | (simp only [putAll, Act.put, List.setIfInBounds_toArray, List.set_cons_zero, List.set_cons_succ]; done) | (simp only [putAll, Act.put, List.setIfInBounds_toArray, List.set_cons_zero, List.set_cons_succ]; rfl)) (hJ11_12_16_17_19 (v175, v178, gb180) _ ⟨(by (with_reducible repeat (first | apply Kd.R_alloc | apply Kd.R_drewN | apply Kd.R_drew)); exact HO176.out), (by (with_reducible repeat (first | apply Kd.R_alloc | apply Kd.R_drewN | apply Kd.R_drew)); exact HO179.out), (by (with_reducible repeat (first | refine blk_drewN ?_ _ | refine blk_drew ?_ | refine blk_alloc ?_ _)); exact BK180.out), GW180.out, GE180.out, (by repeat (first | (with_reducible first | exact HB.out | apply below_alloc | apply pw_below_drewN | apply below_drew1 | refine below_set ?_ GE180.out) | exact HB.out))⟩)
                · skip
                  rintro ⟨v175, v178, gb180⟩ w23 ⟨h0_, h1_, h2_, h3_, h4_, h5_⟩
                  have n0_ : Aside0 (Kd.R (Kd.int .u8) 5 w23 w.heap.size (fun k_ => some k_ ≠ (v178 : Value).ownBlock) v175 y174) := ⟨h0_⟩
                  have n1_ : Aside0 (Kd.R (Kd.int .u8) 5 w23 w.heap.size (fun k_ => some k_ ≠ (v175 : Value).ownBlock) v178 y177) := ⟨h1_⟩
                  have n2_ : Aside0 (w23.heap[gb180]? = some (.cells #[.int .i64 0, .int .i64 0, .int .u32 0, .string (⟨#[]⟩ : ByteArray), .string (⟨#[]⟩ : ByteArray)] 24 (0, 0))) := ⟨h2_⟩
                  have n3_ : Aside0 (w.heap.size ≤ gb180) := ⟨h3_⟩
                  have n4_ : Aside0 (w.heap.size ≤ gb180) := ⟨h4_⟩
                  have n5_ : Aside0 (Below w.heap.size w w23) := ⟨h5_⟩
                  clear HB
                  clear h0_ h1_ h2_ h3_ h4_ h5_
                  have HO176 := n0_
                  have HO179 := n1_
                  have BK180 := n2_
                  have GW180 := n3_
                  have GE180 := n4_
                  have HB := n5_
                  clear n0_ n1_ n2_ n3_ n4_ n5_
                  have hHeld := trivial
                  refine norm_ (a' := ?_) ?_ ?_
                  rotate_left
                  · simp only [putAll, Act.put, List.setIfInBounds_toArray, List.set_cons_zero, List.set_cons_succ]
                    rfl
                  refine one_ (i := 17) (N := some 37) #[true, true, true, true, true, true, true, true, true, true, true, true, true, true, true, true, true, true, false, true, false] rfl rfl (one_of HT_.out (by kernel_rfl)) (by decide) (fun K hK => ?_)
                  have hcv24 := own_string (P := Tryd.prog) Tryd.underlying52 Tryd.underlying5 Tryd.underlying9 (Kd.own_of_R HO179.out)
                  refine value_ (w1 := ?_) (v := ?_) (by rfl) rfl ?_ ?_
                  rotate_left 2
                  · go_simp
                    constructor
                    · rfl
                    · rfl
                  clear hcv24
                  refine hK.out _ _ trivial (fun hHeld => ?_)
                  clear hK K
                  refine norm_ (a' := ?_) ?_ ?_
                  rotate_left
                  · show Act.put _ (some 37) _ = _
                    simp only [Act.put, List.setIfInBounds_toArray, List.set_cons_zero, List.set_cons_succ, i64_w, i32_w, IntKind.wrap_u8, IntKind.wrap_u32]
                    rfl
                  refine pure_ (i := 18) (N := some 38) (v := ?_) (a' := ?_) #[true, true, true, true, true, true, true, true, true, true, true, true, true, true, true, true, true, true, true, true, false] rfl rfl (any_of HT_.out (by kernel_rfl)) (fun _ _ _ h => h) (Or.inl ⟨by rfl, ?_⟩) ?_ ?_
                  rotate_left
                  · intro w'
                    go_simp
                    with_reducible rfl
                  rotate_left
                  · simp only [Act.put, List.setIfInBounds_toArray, List.set_cons_zero, List.set_cons_succ, i64_w, i32_w, IntKind.wrap_u8, IntKind.wrap_u32]
                    rfl
                  exact norm_ (by first | (simp only [putAll, Act.put, List.setIfInBounds_toArray, List.set_cons_zero, List.set_cons_succ]; done) | (simp only [putAll, Act.put, List.setIfInBounds_toArray, List.set_cons_zero, List.set_cons_succ]; rfl)) (hJ11_12_16_17_19 (v175, v178, gb180) _ ⟨(by (with_reducible repeat (first | apply Kd.R_alloc | apply Kd.R_drewN | apply Kd.R_drew)); exact HO176.out), (by (with_reducible repeat (first | apply Kd.R_alloc | apply Kd.R_drewN | apply Kd.R_drew)); exact HO179.out), (by (with_reducible repeat (first | refine blk_drewN ?_ _ | refine blk_drew ?_ | refine blk_alloc ?_ _)); exact BK180.out), GW180.out, GE180.out, (by repeat (first | (with_reducible first | exact HB.out | apply below_alloc | apply pw_below_drewN | apply below_drew1 | refine below_set ?_ GE180.out) | exact HB.out))⟩)
              · skip
                rintro ⟨v175, v178⟩ w23 ⟨h0_, h1_, h2_⟩
                have n0_ : Aside0 (Kd.R (Kd.int .u8) 5 w23 w.heap.size (fun k_ => some k_ ≠ (v178 : Value).ownBlock) v175 y174) := ⟨h0_⟩
                have n1_ : Aside0 (Kd.R (Kd.int .u8) 5 w23 w.heap.size (fun k_ => some k_ ≠ (v175 : Value).ownBlock) v178 y177) := ⟨h1_⟩
                have n2_ : Aside0 (Below w.heap.size w w23) := ⟨h2_⟩
                clear HB
                clear h0_ h1_ h2_
                have HO176 := n0_
                have HO179 := n1_
                have HB := n2_
                clear n0_ n1_ n2_
                have hHeld := trivial
                refine norm_ (a' := ?_) ?_ ?_
                rotate_left
                · simp only [putAll, Act.put, List.setIfInBounds_toArray, List.set_cons_zero, List.set_cons_succ]
                  rfl
                refine one_ (i := 19) (N := some 12) #[true, true, true, true, true, true, true, true, true, true, true, true, true, true, true, true, true, true, true, true, false] rfl rfl (one_of HT_.out (by kernel_rfl)) (by decide) (fun K hK => ?_)
                refine box_step ?hg (N := 12) ?hd (cs := #[.int .i64 0, .int .i64 0, .int .u32 0, .string (⟨#[]⟩ : ByteArray), .string (⟨#[]⟩ : ByteArray)]) (t := 24) ?hr ?_; (case hd => rfl); (case hg => rfl); (case hr => first | (go_simp; done) | (go_simp; rfl) | (go_simp; simp only [IntKind.wrap_u8, IntKind.wrap_u32]; done) | (go_simp; simp only [IntKind.wrap_u8, IntKind.wrap_u32]; rfl))
                intro gb180 hg w24 hbox hb
                have n0_ := Aside0.mk (Kd.R_below (by (with_reducible repeat (first | apply Kd.R_alloc | apply Kd.R_drewN | apply Kd.R_drew)); exact HO176.out) hb)
                have n1_ := Aside0.mk (Kd.R_below (by (with_reducible repeat (first | apply Kd.R_alloc | apply Kd.R_drewN | apply Kd.R_drew)); exact HO179.out) hb)
                have n2_ := Aside0.mk (below_step (by repeat (first | (with_reducible first | exact HB.out | apply below_alloc | apply pw_below_drewN | apply below_drew1) | exact HB.out)) hb)
                have n3_ := Aside0.mk (hbox)
                have n4_ := Aside0.mk ((by rw [hg]; exact (below_size (by repeat (first | (with_reducible first | exact HB.out | apply below_alloc | apply pw_below_drewN | apply below_drew1) | exact HB.out))) : w.heap.size ≤ gb180))
                have n5_ := Aside0.mk ((by rw [hg]; exact (below_size (by repeat (first | (with_reducible first | exact HB.out | apply below_alloc | apply pw_below_drewN | apply below_drew1) | exact HB.out))) : w.heap.size ≤ gb180))
                clear HO176
                clear HO179
                clear HB
                have HO176 := n0_
                have HO179 := n1_
                have HB := n2_
                have BK180 := n3_
                have GW180 := n4_
                have GE180 := n5_
                clear n0_ n1_ n2_ n3_ n4_ n5_
                clear hb hbox hg
                refine hK.out _ _ trivial (fun hHeld => ?_)
                clear hK K
                refine norm_ (a' := ?_) ?_ ?_
                rotate_left
                · show Act.put _ (some 12) _ = _
                  simp only [Act.put, List.setIfInBounds_toArray, List.set_cons_zero, List.set_cons_succ, i64_w, i32_w, IntKind.wrap_u8, IntKind.wrap_u32]
                  rfl
                exact norm_ (by first | (simp only [putAll, Act.put, List.setIfInBounds_toArray, List.set_cons_zero, List.set_cons_succ]; done) | (simp only [putAll, Act.put, List.setIfInBounds_toArray, List.set_cons_zero, List.set_cons_succ]; rfl)) (hJ11_12_16_17_19 (v175, v178, gb180) _ ⟨(by (with_reducible repeat (first | apply Kd.R_alloc | apply Kd.R_drewN | apply Kd.R_drew)); exact HO176.out), (by (with_reducible repeat (first | apply Kd.R_alloc | apply Kd.R_drewN | apply Kd.R_drew)); exact HO179.out), (by (with_reducible repeat (first | refine blk_drewN ?_ _ | refine blk_drew ?_ | refine blk_alloc ?_ _)); exact BK180.out), GW180.out, GE180.out, (by repeat (first | (with_reducible first | exact HB.out | apply below_alloc | apply pw_below_drewN | apply below_drew1 | refine below_set ?_ GE180.out) | exact HB.out))⟩)
            rintro ⟨v175, v178, gb180⟩ w24 ⟨h0_, h1_, h2_, h3_, h4_, h5_⟩
            have n0_ : Aside0 (Kd.R (Kd.int .u8) 5 w24 w.heap.size (fun k_ => some k_ ≠ (v178 : Value).ownBlock) v175 y174) := ⟨h0_⟩
            have n1_ : Aside0 (Kd.R (Kd.int .u8) 5 w24 w.heap.size (fun k_ => some k_ ≠ (v175 : Value).ownBlock) v178 y177) := ⟨h1_⟩
            have n2_ : Aside0 (w24.heap[gb180]? = some (.cells #[.int .i64 0, .int .i64 0, .int .u32 0, .string (⟨#[]⟩ : ByteArray), .string (⟨#[]⟩ : ByteArray)] 24 (0, 0))) := ⟨h2_⟩
            have n3_ : Aside0 (w.heap.size ≤ gb180) := ⟨h3_⟩
            have n4_ : Aside0 (w.heap.size ≤ gb180) := ⟨h4_⟩
            have n5_ : Aside0 (Below w.heap.size w w24) := ⟨h5_⟩
            clear HB
            clear h0_ h1_ h2_ h3_ h4_ h5_
            have HO176 := n0_
            have HO179 := n1_
            have BK180 := n2_
            have GW180 := n3_
            have GE180 := n4_
            have HB := n5_
            clear n0_ n1_ n2_ n3_ n4_ n5_
            have hHeld := trivial
            refine norm_ (a' := ?_) ?_ ?_
            rotate_left
            · simp only [putAll, Act.put, List.setIfInBounds_toArray, List.set_cons_zero, List.set_cons_succ]
              rfl
            refine one_ (i := 20) (N := none) #[true, true, true, true, true, true, true, true, true, true, true, true, true, true, true, true, true, true, true, true, true] rfl rfl (one_of HT_.out (by kernel_rfl)) (by decide) (fun K hK => ?_)
            have hs25 : w24.cell? ⟨gb180, 0, none⟩ = some (.int .i64 0) := (blk_cell BK180.out 0).trans rfl
            have hfs25 := blk_frozen BK180.out 0
            have hs26 : w24.cell? ⟨gb180, 1, none⟩ = some (.int .i64 0) := (blk_cell BK180.out 1).trans rfl
            have hfs26 := blk_frozen BK180.out 1
            have hs27 : w24.cell? ⟨gb180, 2, none⟩ = some (.int .u32 0) := (blk_cell BK180.out 2).trans rfl
            have hfs27 := blk_frozen BK180.out 2
            have hs28 : w24.cell? ⟨gb180, 3, none⟩ = some (.string (⟨#[]⟩ : ByteArray)) := (blk_cell BK180.out 3).trans rfl
            have hfs28 := blk_frozen BK180.out 3
            have hs29 : w24.cell? ⟨gb180, 4, none⟩ = some (.string (⟨#[]⟩ : ByteArray)) := (blk_cell BK180.out 4).trans rfl
            have hfs29 := blk_frozen BK180.out 4
            refine skip_ (w1 := ?_) (by rfl) rfl ?_ ?_
            rotate_left
            · go_simp
              rfl
            refine hK.out _ _ trivial (fun hHeld => ?_)
            clear hK K
            refine done_ (done_of HT_.out (by kernel_rfl)) ?_
            go_upto_region 5 with (fail)
            go_cut [13] (fun v13 wc => ∃ (kq : Nat) (x13_13 : Bool), v13 = .bool x13_13 ∧ Aside0 (comitialaw07_CmdBounds.j0 kq true x13_13 (wrap64 (Int.tmod a0 6)) (wrap64 (a1)) ((Int.tmod a2 4) % 4294967296) (strOfNums y174) (strOfNums y177) = some r) ∧ Aside0 (kq ≤ k) ∧ Aside0 (wc.heap[gb180]? = some (.cells #[.int .i64 (wrap64 (Int.tmod a0 6)), .int .i64 (wrap64 (a1)), .int .u32 ((Int.tmod a2 4) % 4294967296), .string (strOfNums y174), .string (strOfNums y177)] 24 (0, 0))) ∧ Aside0 (Below w.heap.size w wc))
            case first =>
              have H := HC14.out
              clear HC14
              by_cases c30 : (wrap64 (Int.tmod a0 6)) = 0
              · rw [if_pos c30] at H
                have c30b0 : ((wrap64 (Int.tmod a0 6)) == 0) = true := beq_iff_eq.mpr c30
                have c30b1 : ((wrap64 (Int.tmod a0 6)) != 0) = false := bne_eq_false_iff_eq.mpr c30
                clear c30
                (first | rw [c30b0] | (simp only [i64_w, i32_w]; rw [c30b0]) | skip)
                by_cases c31 : (wrap64 (a1)) = 0
                · rw [if_pos c31] at H
                  have c31b0 : ((wrap64 (a1)) == 0) = true := beq_iff_eq.mpr c31
                  have c31b1 : ((wrap64 (a1)) != 0) = false := bne_eq_false_iff_eq.mpr c31
                  clear c31
                  by_cases c32 : ((Int.tmod a2 4) % 4294967296) = 0
                  · rw [if_pos c32] at H
                    have c32b0 : (((Int.tmod a2 4) % 4294967296) == 0) = true := beq_iff_eq.mpr c32
                    have c32b1 : (((Int.tmod a2 4) % 4294967296) != 0) = false := bne_eq_false_iff_eq.mpr c32
                    clear c32
                    by_cases c33 : (strOfNums y174).toList = ([] : List UInt8)
                    · rw [if_pos c33] at H
                      have c33b0 : ((strOfNums y174).toList == ([] : List UInt8)) = true := beq_iff_eq.mpr c33
                      have c33b1 : ((strOfNums y174).toList != ([] : List UInt8)) = false := bne_eq_false_iff_eq.mpr c33
                      clear c33
                      have H' := Aside0.mk H
                      clear H
                      have hcz34_0 : w24.cell? ⟨gb180, 0, none⟩ = some (.int .i64 0) := (blk_cell BK180.out 0).trans rfl
                      have hcz34_1 : w24.cell? ⟨gb180, 1, none⟩ = some (.int .i64 0) := (blk_cell BK180.out 1).trans rfl
                      have hcz34_2 : w24.cell? ⟨gb180, 2, none⟩ = some (.int .u32 0) := (blk_cell BK180.out 2).trans rfl
                      have hcz34_3 : w24.cell? ⟨gb180, 3, none⟩ = some (.string (⟨#[]⟩ : ByteArray)) := (blk_cell BK180.out 3).trans rfl
                      have hcz34_4 : w24.cell? ⟨gb180, 4, none⟩ = some (.string (⟨#[]⟩ : ByteArray)) := (blk_cell BK180.out 4).trans rfl
                      have hfz34_0 := blk_frozen BK180.out 0
                      have hfz34_1 := blk_frozen BK180.out 1
                      have hfz34_2 := blk_frozen BK180.out 2
                      have hfz34_3 := blk_frozen BK180.out 3
                      have hfz34_4 := blk_frozen BK180.out 4
                      go_wp2
                      go_meet
                      case rel => exact ⟨_, (((strOfNums y177).toList == ([] : List UInt8))), (by first | rfl | (simp; done) | (simp [*]; done)), H', ⟨by first | omega | exact Nat.le_refl _⟩, ⟨by (with_reducible repeat (first | refine blk_drewN ?_ _ | refine blk_drew ?_ | refine blk_alloc ?_ _)); refine blk_put (cs := #[.int .i64 (wrap64 (Int.tmod a0 6)), .int .i64 (wrap64 (a1)), .int .u32 ((Int.tmod a2 4) % 4294967296), .string (strOfNums y174), .string (⟨#[]⟩ : ByteArray)]) ?_ 4 _ rfl; (with_reducible repeat (first | refine blk_drewN ?_ _ | refine blk_drew ?_ | refine blk_alloc ?_ _)); refine blk_put (cs := #[.int .i64 (wrap64 (Int.tmod a0 6)), .int .i64 (wrap64 (a1)), .int .u32 ((Int.tmod a2 4) % 4294967296), .string (⟨#[]⟩ : ByteArray), .string (⟨#[]⟩ : ByteArray)]) ?_ 3 _ rfl; (with_reducible repeat (first | refine blk_drewN ?_ _ | refine blk_drew ?_ | refine blk_alloc ?_ _)); refine blk_put (cs := #[.int .i64 (wrap64 (Int.tmod a0 6)), .int .i64 (wrap64 (a1)), .int .u32 0, .string (⟨#[]⟩ : ByteArray), .string (⟨#[]⟩ : ByteArray)]) ?_ 2 _ rfl; (with_reducible repeat (first | refine blk_drewN ?_ _ | refine blk_drew ?_ | refine blk_alloc ?_ _)); refine blk_put (cs := #[.int .i64 (wrap64 (Int.tmod a0 6)), .int .i64 0, .int .u32 0, .string (⟨#[]⟩ : ByteArray), .string (⟨#[]⟩ : ByteArray)]) ?_ 1 _ rfl; (with_reducible repeat (first | refine blk_drewN ?_ _ | refine blk_drew ?_ | refine blk_alloc ?_ _)); refine blk_put (cs := #[.int .i64 0, .int .i64 0, .int .u32 0, .string (⟨#[]⟩ : ByteArray), .string (⟨#[]⟩ : ByteArray)]) ?_ 0 _ rfl; (with_reducible repeat (first | refine blk_drewN ?_ _ | refine blk_drew ?_ | refine blk_alloc ?_ _)); exact BK180.out⟩, ⟨by repeat (first | (with_reducible first | exact HB.out | apply below_alloc | apply pw_below_drewN | apply below_drew1 | refine below_set ?_ GE180.out) | exact HB.out)⟩⟩
                    · rw [if_neg c33] at H
                      have c33b0 : ((strOfNums y174).toList == ([] : List UInt8)) = false := beq_eq_false_iff_ne.mpr c33
                      have c33b1 : ((strOfNums y174).toList != ([] : List UInt8)) = true := bne_iff_ne.mpr c33
                      have H' := Aside0.mk H
                      clear H
                      have hcz35_0 : w24.cell? ⟨gb180, 0, none⟩ = some (.int .i64 0) := (blk_cell BK180.out 0).trans rfl
                      have hcz35_1 : w24.cell? ⟨gb180, 1, none⟩ = some (.int .i64 0) := (blk_cell BK180.out 1).trans rfl
                      have hcz35_2 : w24.cell? ⟨gb180, 2, none⟩ = some (.int .u32 0) := (blk_cell BK180.out 2).trans rfl
                      have hcz35_3 : w24.cell? ⟨gb180, 3, none⟩ = some (.string (⟨#[]⟩ : ByteArray)) := (blk_cell BK180.out 3).trans rfl
                      have hcz35_4 : w24.cell? ⟨gb180, 4, none⟩ = some (.string (⟨#[]⟩ : ByteArray)) := (blk_cell BK180.out 4).trans rfl
                      have hfz35_0 := blk_frozen BK180.out 0
                      have hfz35_1 := blk_frozen BK180.out 1
                      have hfz35_2 := blk_frozen BK180.out 2
                      have hfz35_3 := blk_frozen BK180.out 3
                      have hfz35_4 := blk_frozen BK180.out 4
                      go_wp2
                      go_meet
                      case rel => exact ⟨_, (false), (by first | rfl | (simp; done) | (simp [*]; done)), H', ⟨by first | omega | exact Nat.le_refl _⟩, ⟨by (with_reducible repeat (first | refine blk_drewN ?_ _ | refine blk_drew ?_ | refine blk_alloc ?_ _)); refine blk_put (cs := #[.int .i64 (wrap64 (Int.tmod a0 6)), .int .i64 (wrap64 (a1)), .int .u32 ((Int.tmod a2 4) % 4294967296), .string (strOfNums y174), .string (⟨#[]⟩ : ByteArray)]) ?_ 4 _ rfl; (with_reducible repeat (first | refine blk_drewN ?_ _ | refine blk_drew ?_ | refine blk_alloc ?_ _)); refine blk_put (cs := #[.int .i64 (wrap64 (Int.tmod a0 6)), .int .i64 (wrap64 (a1)), .int .u32 ((Int.tmod a2 4) % 4294967296), .string (⟨#[]⟩ : ByteArray), .string (⟨#[]⟩ : ByteArray)]) ?_ 3 _ rfl; (with_reducible repeat (first | refine blk_drewN ?_ _ | refine blk_drew ?_ | refine blk_alloc ?_ _)); refine blk_put (cs := #[.int .i64 (wrap64 (Int.tmod a0 6)), .int .i64 (wrap64 (a1)), .int .u32 0, .string (⟨#[]⟩ : ByteArray), .string (⟨#[]⟩ : ByteArray)]) ?_ 2 _ rfl; (with_reducible repeat (first | refine blk_drewN ?_ _ | refine blk_drew ?_ | refine blk_alloc ?_ _)); refine blk_put (cs := #[.int .i64 (wrap64 (Int.tmod a0 6)), .int .i64 0, .int .u32 0, .string (⟨#[]⟩ : ByteArray), .string (⟨#[]⟩ : ByteArray)]) ?_ 1 _ rfl; (with_reducible repeat (first | refine blk_drewN ?_ _ | refine blk_drew ?_ | refine blk_alloc ?_ _)); refine blk_put (cs := #[.int .i64 0, .int .i64 0, .int .u32 0, .string (⟨#[]⟩ : ByteArray), .string (⟨#[]⟩ : ByteArray)]) ?_ 0 _ rfl; (with_reducible repeat (first | refine blk_drewN ?_ _ | refine blk_drew ?_ | refine blk_alloc ?_ _)); exact BK180.out⟩, ⟨by repeat (first | (with_reducible first | exact HB.out | apply below_alloc | apply pw_below_drewN | apply below_drew1 | refine below_set ?_ GE180.out) | exact HB.out)⟩⟩
                  · rw [if_neg c32] at H
                    have c32b0 : (((Int.tmod a2 4) % 4294967296) == 0) = false := beq_eq_false_iff_ne.mpr c32
                    have c32b1 : (((Int.tmod a2 4) % 4294967296) != 0) = true := bne_iff_ne.mpr c32
                    have H' := Aside0.mk H
                    clear H
                    have hcz36_0 : w24.cell? ⟨gb180, 0, none⟩ = some (.int .i64 0) := (blk_cell BK180.out 0).trans rfl
                    have hcz36_1 : w24.cell? ⟨gb180, 1, none⟩ = some (.int .i64 0) := (blk_cell BK180.out 1).trans rfl
                    have hcz36_2 : w24.cell? ⟨gb180, 2, none⟩ = some (.int .u32 0) := (blk_cell BK180.out 2).trans rfl
                    have hcz36_3 : w24.cell? ⟨gb180, 3, none⟩ = some (.string (⟨#[]⟩ : ByteArray)) := (blk_cell BK180.out 3).trans rfl
                    have hcz36_4 : w24.cell? ⟨gb180, 4, none⟩ = some (.string (⟨#[]⟩ : ByteArray)) := (blk_cell BK180.out 4).trans rfl
                    have hfz36_0 := blk_frozen BK180.out 0
                    have hfz36_1 := blk_frozen BK180.out 1
                    have hfz36_2 := blk_frozen BK180.out 2
                    have hfz36_3 := blk_frozen BK180.out 3
                    have hfz36_4 := blk_frozen BK180.out 4
                    go_wp2
                    go_meet
                    case rel => exact ⟨_, (false), (by first | rfl | (simp; done) | (simp [*]; done)), H', ⟨by first | omega | exact Nat.le_refl _⟩, ⟨by (with_reducible repeat (first | refine blk_drewN ?_ _ | refine blk_drew ?_ | refine blk_alloc ?_ _)); refine blk_put (cs := #[.int .i64 (wrap64 (Int.tmod a0 6)), .int .i64 (wrap64 (a1)), .int .u32 ((Int.tmod a2 4) % 4294967296), .string (strOfNums y174), .string (⟨#[]⟩ : ByteArray)]) ?_ 4 _ rfl; (with_reducible repeat (first | refine blk_drewN ?_ _ | refine blk_drew ?_ | refine blk_alloc ?_ _)); refine blk_put (cs := #[.int .i64 (wrap64 (Int.tmod a0 6)), .int .i64 (wrap64 (a1)), .int .u32 ((Int.tmod a2 4) % 4294967296), .string (⟨#[]⟩ : ByteArray), .string (⟨#[]⟩ : ByteArray)]) ?_ 3 _ rfl; (with_reducible repeat (first | refine blk_drewN ?_ _ | refine blk_drew ?_ | refine blk_alloc ?_ _)); refine blk_put (cs := #[.int .i64 (wrap64 (Int.tmod a0 6)), .int .i64 (wrap64 (a1)), .int .u32 0, .string (⟨#[]⟩ : ByteArray), .string (⟨#[]⟩ : ByteArray)]) ?_ 2 _ rfl; (with_reducible repeat (first | refine blk_drewN ?_ _ | refine blk_drew ?_ | refine blk_alloc ?_ _)); refine blk_put (cs := #[.int .i64 (wrap64 (Int.tmod a0 6)), .int .i64 0, .int .u32 0, .string (⟨#[]⟩ : ByteArray), .string (⟨#[]⟩ : ByteArray)]) ?_ 1 _ rfl; (with_reducible repeat (first | refine blk_drewN ?_ _ | refine blk_drew ?_ | refine blk_alloc ?_ _)); refine blk_put (cs := #[.int .i64 0, .int .i64 0, .int .u32 0, .string (⟨#[]⟩ : ByteArray), .string (⟨#[]⟩ : ByteArray)]) ?_ 0 _ rfl; (with_reducible repeat (first | refine blk_drewN ?_ _ | refine blk_drew ?_ | refine blk_alloc ?_ _)); exact BK180.out⟩, ⟨by repeat (first | (with_reducible first | exact HB.out | apply below_alloc | apply pw_below_drewN | apply below_drew1 | refine below_set ?_ GE180.out) | exact HB.out)⟩⟩
                · rw [if_neg c31] at H
                  have c31b0 : ((wrap64 (a1)) == 0) = false := beq_eq_false_iff_ne.mpr c31
                  have c31b1 : ((wrap64 (a1)) != 0) = true := bne_iff_ne.mpr c31
                  have H' := Aside0.mk H
                  clear H
                  have hcz37_0 : w24.cell? ⟨gb180, 0, none⟩ = some (.int .i64 0) := (blk_cell BK180.out 0).trans rfl
                  have hcz37_1 : w24.cell? ⟨gb180, 1, none⟩ = some (.int .i64 0) := (blk_cell BK180.out 1).trans rfl
                  have hcz37_2 : w24.cell? ⟨gb180, 2, none⟩ = some (.int .u32 0) := (blk_cell BK180.out 2).trans rfl
                  have hcz37_3 : w24.cell? ⟨gb180, 3, none⟩ = some (.string (⟨#[]⟩ : ByteArray)) := (blk_cell BK180.out 3).trans rfl
                  have hcz37_4 : w24.cell? ⟨gb180, 4, none⟩ = some (.string (⟨#[]⟩ : ByteArray)) := (blk_cell BK180.out 4).trans rfl
                  have hfz37_0 := blk_frozen BK180.out 0
                  have hfz37_1 := blk_frozen BK180.out 1
                  have hfz37_2 := blk_frozen BK180.out 2
                  have hfz37_3 := blk_frozen BK180.out 3
                  have hfz37_4 := blk_frozen BK180.out 4
                  go_wp2
                  go_meet
                  case rel => exact ⟨_, (false), (by first | rfl | (simp; done) | (simp [*]; done)), H', ⟨by first | omega | exact Nat.le_refl _⟩, ⟨by (with_reducible repeat (first | refine blk_drewN ?_ _ | refine blk_drew ?_ | refine blk_alloc ?_ _)); refine blk_put (cs := #[.int .i64 (wrap64 (Int.tmod a0 6)), .int .i64 (wrap64 (a1)), .int .u32 ((Int.tmod a2 4) % 4294967296), .string (strOfNums y174), .string (⟨#[]⟩ : ByteArray)]) ?_ 4 _ rfl; (with_reducible repeat (first | refine blk_drewN ?_ _ | refine blk_drew ?_ | refine blk_alloc ?_ _)); refine blk_put (cs := #[.int .i64 (wrap64 (Int.tmod a0 6)), .int .i64 (wrap64 (a1)), .int .u32 ((Int.tmod a2 4) % 4294967296), .string (⟨#[]⟩ : ByteArray), .string (⟨#[]⟩ : ByteArray)]) ?_ 3 _ rfl; (with_reducible repeat (first | refine blk_drewN ?_ _ | refine blk_drew ?_ | refine blk_alloc ?_ _)); refine blk_put (cs := #[.int .i64 (wrap64 (Int.tmod a0 6)), .int .i64 (wrap64 (a1)), .int .u32 0, .string (⟨#[]⟩ : ByteArray), .string (⟨#[]⟩ : ByteArray)]) ?_ 2 _ rfl; (with_reducible repeat (first | refine blk_drewN ?_ _ | refine blk_drew ?_ | refine blk_alloc ?_ _)); refine blk_put (cs := #[.int .i64 (wrap64 (Int.tmod a0 6)), .int .i64 0, .int .u32 0, .string (⟨#[]⟩ : ByteArray), .string (⟨#[]⟩ : ByteArray)]) ?_ 1 _ rfl; (with_reducible repeat (first | refine blk_drewN ?_ _ | refine blk_drew ?_ | refine blk_alloc ?_ _)); refine blk_put (cs := #[.int .i64 0, .int .i64 0, .int .u32 0, .string (⟨#[]⟩ : ByteArray), .string (⟨#[]⟩ : ByteArray)]) ?_ 0 _ rfl; (with_reducible repeat (first | refine blk_drewN ?_ _ | refine blk_drew ?_ | refine blk_alloc ?_ _)); exact BK180.out⟩, ⟨by repeat (first | (with_reducible first | exact HB.out | apply below_alloc | apply pw_below_drewN | apply below_drew1 | refine below_set ?_ GE180.out) | exact HB.out)⟩⟩
              · rw [if_neg c30] at H
                have c30b0 : ((wrap64 (Int.tmod a0 6)) == 0) = false := beq_eq_false_iff_ne.mpr c30
                have c30b1 : ((wrap64 (Int.tmod a0 6)) != 0) = true := bne_iff_ne.mpr c30
                (first | rw [c30b0] | (simp only [i64_w, i32_w]; rw [c30b0]) | skip)
                have H' := Aside0.mk H
                clear H
                have hcz38_0 : w24.cell? ⟨gb180, 0, none⟩ = some (.int .i64 0) := (blk_cell BK180.out 0).trans rfl
                have hcz38_1 : w24.cell? ⟨gb180, 1, none⟩ = some (.int .i64 0) := (blk_cell BK180.out 1).trans rfl
                have hcz38_2 : w24.cell? ⟨gb180, 2, none⟩ = some (.int .u32 0) := (blk_cell BK180.out 2).trans rfl
                have hcz38_3 : w24.cell? ⟨gb180, 3, none⟩ = some (.string (⟨#[]⟩ : ByteArray)) := (blk_cell BK180.out 3).trans rfl
                have hcz38_4 : w24.cell? ⟨gb180, 4, none⟩ = some (.string (⟨#[]⟩ : ByteArray)) := (blk_cell BK180.out 4).trans rfl
                have hfz38_0 := blk_frozen BK180.out 0
                have hfz38_1 := blk_frozen BK180.out 1
                have hfz38_2 := blk_frozen BK180.out 2
                have hfz38_3 := blk_frozen BK180.out 3
                have hfz38_4 := blk_frozen BK180.out 4
                go_wp2
                go_meet
                case rel => exact ⟨_, (false), (by first | rfl | (simp; done) | (simp [*]; done)), H', ⟨by first | omega | exact Nat.le_refl _⟩, ⟨by (with_reducible repeat (first | refine blk_drewN ?_ _ | refine blk_drew ?_ | refine blk_alloc ?_ _)); refine blk_put (cs := #[.int .i64 (wrap64 (Int.tmod a0 6)), .int .i64 (wrap64 (a1)), .int .u32 ((Int.tmod a2 4) % 4294967296), .string (strOfNums y174), .string (⟨#[]⟩ : ByteArray)]) ?_ 4 _ rfl; (with_reducible repeat (first | refine blk_drewN ?_ _ | refine blk_drew ?_ | refine blk_alloc ?_ _)); refine blk_put (cs := #[.int .i64 (wrap64 (Int.tmod a0 6)), .int .i64 (wrap64 (a1)), .int .u32 ((Int.tmod a2 4) % 4294967296), .string (⟨#[]⟩ : ByteArray), .string (⟨#[]⟩ : ByteArray)]) ?_ 3 _ rfl; (with_reducible repeat (first | refine blk_drewN ?_ _ | refine blk_drew ?_ | refine blk_alloc ?_ _)); refine blk_put (cs := #[.int .i64 (wrap64 (Int.tmod a0 6)), .int .i64 (wrap64 (a1)), .int .u32 0, .string (⟨#[]⟩ : ByteArray), .string (⟨#[]⟩ : ByteArray)]) ?_ 2 _ rfl; (with_reducible repeat (first | refine blk_drewN ?_ _ | refine blk_drew ?_ | refine blk_alloc ?_ _)); refine blk_put (cs := #[.int .i64 (wrap64 (Int.tmod a0 6)), .int .i64 0, .int .u32 0, .string (⟨#[]⟩ : ByteArray), .string (⟨#[]⟩ : ByteArray)]) ?_ 1 _ rfl; (with_reducible repeat (first | refine blk_drewN ?_ _ | refine blk_drew ?_ | refine blk_alloc ?_ _)); refine blk_put (cs := #[.int .i64 0, .int .i64 0, .int .u32 0, .string (⟨#[]⟩ : ByteArray), .string (⟨#[]⟩ : ByteArray)]) ?_ 0 _ rfl; (with_reducible repeat (first | refine blk_drewN ?_ _ | refine blk_drew ?_ | refine blk_alloc ?_ _)); exact BK180.out⟩, ⟨by repeat (first | (with_reducible first | exact HB.out | apply below_alloc | apply pw_below_drewN | apply below_drew1 | refine below_set ?_ GE180.out) | exact HB.out)⟩⟩
            case rest =>
              clear HC14
              try clear p2
              try clear hcv2
              try clear c3
              try clear p6
              try clear hcv23
              try clear hcv24
              try clear c30
              try clear c30b0
              try clear c30b1
              try clear c31
              try clear c31b0
              try clear c31b1
              try clear c32
              try clear c32b0
              try clear c32b1
              try clear c33
              try clear c33b0
              try clear c33b1
              try clear hcz34_0
              try clear hcz34_1
              try clear hcz34_2
              try clear hcz34_3
              try clear hcz34_4
              try clear hcz35_0
              try clear hcz35_1
              try clear hcz35_2
              try clear hcz35_3
              try clear hcz35_4
              try clear hcz36_0
              try clear hcz36_1
              try clear hcz36_2
              try clear hcz36_3
              try clear hcz36_4
              try clear hcz37_0
              try clear hcz37_1
              try clear hcz37_2
              try clear hcz37_3
              try clear hcz37_4
              try clear hcz38_0
              try clear hcz38_1
              try clear hcz38_2
              try clear hcz38_3
              try clear hcz38_4
              try clear hfz34_0
              try clear hfz34_1
              try clear hfz34_2
              try clear hfz34_3
              try clear hfz34_4
              try clear hfz35_0
              try clear hfz35_1
              try clear hfz35_2
              try clear hfz35_3
              try clear hfz35_4
              try clear hfz36_0
              try clear hfz36_1
              try clear hfz36_2
              try clear hfz36_3
              try clear hfz36_4
              try clear hfz37_0
              try clear hfz37_1
              try clear hfz37_2
              try clear hfz37_3
              try clear hfz37_4
              try clear hfz38_0
              try clear hfz38_1
              try clear hfz38_2
              try clear hfz38_3
              try clear hfz38_4
              obtain ⟨kq, x13_13, rfl, HA, HJ13, BK180, HB⟩ := hcut
              cases kq with
              | zero => exact absurd HA.out (by simp [comitialaw07_CmdBounds.j0])
              | succ kj13 =>
                have H := HA.out
                clear HA
                simp only [comitialaw07_CmdBounds.j0] at H
                have HC39 := Aside0.mk H
                clear H
                go_upto_region 6 with (fail)
                go_cut [14] (fun v14 wc => ∃ (kq : Nat) (x14_38 : Bool), v14 = .bool x14_38 ∧ Aside0 (comitialaw07_CmdBounds.j1 kq true x13_13 x14_38 (wrap64 (Int.tmod a0 6)) (wrap64 (a1)) ((Int.tmod a2 4) % 4294967296) (strOfNums y174) (strOfNums y177) = some r) ∧ Aside0 (kq ≤ kj13) ∧ Aside0 (wc.heap[gb180]? = some (.cells #[.int .i64 (wrap64 (Int.tmod a0 6)), .int .i64 (wrap64 (a1)), .int .u32 ((Int.tmod a2 4) % 4294967296), .string (strOfNums y174), .string (strOfNums y177)] 24 (0, 0))) ∧ Aside0 (Below w.heap.size w wc))
                case first =>
                  have H := HC39.out
                  clear HC39
                  by_cases c40 : (wrap64 (Int.tmod a0 6)) ≥ 1
                  · rw [if_pos c40] at H
                    have c40b0 : decide (1 ≤ (wrap64 (Int.tmod a0 6))) = true := decide_eq_true c40
                    clear c40
                    (first | rw [c40b0] | (simp only [i64_w, i32_w]; rw [c40b0]) | skip)
                    by_cases c41 : (wrap64 (Int.tmod a0 6)) ≤ 3
                    · rw [if_pos c41] at H
                      have c41b0 : decide ((wrap64 (Int.tmod a0 6)) ≤ 3) = true := decide_eq_true c41
                      clear c41
                      by_cases c42 : (wrap64 (a1)) ≥ 1
                      · rw [if_pos c42] at H
                        have c42b0 : decide (1 ≤ (wrap64 (a1))) = true := decide_eq_true c42
                        clear c42
                        by_cases c43 : (wrap64 (a1)) ≤ 64
                        · rw [if_pos c43] at H
                          have c43b0 : decide ((wrap64 (a1)) ≤ 64) = true := decide_eq_true c43
                          clear c43
                          by_cases c44 : ((Int.tmod a2 4) % 4294967296) ≥ 1
                          · rw [if_pos c44] at H
                            have c44b0 : decide (1 ≤ ((Int.tmod a2 4) % 4294967296)) = true := decide_eq_true c44
                            clear c44
                            by_cases c45 : ((strOfNums y174).size : Int) ≥ 1
                            · rw [if_pos c45] at H
                              have c45b0 : decide (1 ≤ ((strOfNums y174).size : Int)) = true := decide_eq_true c45
                              have c45b1 : decide (1 ≤ (strOfNums y174).size) = true := decide_eq_true (by omega)
                              clear c45
                              by_cases c46 : ((strOfNums y174).size : Int) ≤ 16
                              · rw [if_pos c46] at H
                                have c46b0 : decide (((strOfNums y174).size : Int) ≤ 16) = true := decide_eq_true c46
                                have c46b1 : decide ((strOfNums y174).size ≤ 16) = true := decide_eq_true (by omega)
                                clear c46
                                by_cases c47 : ((strOfNums y177).size : Int) ≤ 32
                                · rw [if_pos c47] at H
                                  have c47b0 : decide (((strOfNums y177).size : Int) ≤ 32) = true := decide_eq_true c47
                                  have c47b1 : decide ((strOfNums y177).size ≤ 32) = true := decide_eq_true (by omega)
                                  clear c47
                                  by_cases c48 : (wrap64 (Int.tmod a0 6)) = 1
                                  · rw [if_pos c48] at H
                                    have c48b0 : ((wrap64 (Int.tmod a0 6)) == 1) = true := beq_iff_eq.mpr c48
                                    have c48b1 : ((wrap64 (Int.tmod a0 6)) != 1) = false := bne_eq_false_iff_eq.mpr c48
                                    clear c48
                                    have H' := Aside0.mk H
                                    clear H
                                    have hcz49_0 : wc.cell? ⟨gb180, 0, none⟩ = some (.int .i64 (wrap64 (Int.tmod a0 6))) := (blk_cell BK180.out 0).trans rfl
                                    have hcz49_1 : wc.cell? ⟨gb180, 1, none⟩ = some (.int .i64 (wrap64 (a1))) := (blk_cell BK180.out 1).trans rfl
                                    have hcz49_2 : wc.cell? ⟨gb180, 2, none⟩ = some (.int .u32 ((Int.tmod a2 4) % 4294967296)) := (blk_cell BK180.out 2).trans rfl
                                    have hcz49_3 : wc.cell? ⟨gb180, 3, none⟩ = some (.string (strOfNums y174)) := (blk_cell BK180.out 3).trans rfl
                                    have hcz49_4 : wc.cell? ⟨gb180, 4, none⟩ = some (.string (strOfNums y177)) := (blk_cell BK180.out 4).trans rfl
                                    have hfz49_0 := blk_frozen BK180.out 0
                                    have hfz49_1 := blk_frozen BK180.out 1
                                    have hfz49_2 := blk_frozen BK180.out 2
                                    have hfz49_3 := blk_frozen BK180.out 3
                                    have hfz49_4 := blk_frozen BK180.out 4
                                    go_wp2
                                    go_meet
                                    case rel => exact ⟨_, (true), (by first | rfl | (simp; done) | (simp [*]; done)), H', ⟨by have := HJ13.out; first | omega | exact Nat.le_refl _⟩, ⟨by (with_reducible repeat (first | refine blk_drewN ?_ _ | refine blk_drew ?_ | refine blk_alloc ?_ _)); exact BK180.out⟩, ⟨by repeat (first | (with_reducible first | exact HB.out | apply below_alloc | apply pw_below_drewN | apply below_drew1 | refine below_set ?_ GE180.out) | exact HB.out)⟩⟩
                                  · rw [if_neg c48] at H
                                    have c48b0 : ((wrap64 (Int.tmod a0 6)) == 1) = false := beq_eq_false_iff_ne.mpr c48
                                    have c48b1 : ((wrap64 (Int.tmod a0 6)) != 1) = true := bne_iff_ne.mpr c48
                                    have H' := Aside0.mk H
                                    clear H
                                    have hcz50_0 : wc.cell? ⟨gb180, 0, none⟩ = some (.int .i64 (wrap64 (Int.tmod a0 6))) := (blk_cell BK180.out 0).trans rfl
                                    have hcz50_1 : wc.cell? ⟨gb180, 1, none⟩ = some (.int .i64 (wrap64 (a1))) := (blk_cell BK180.out 1).trans rfl
                                    have hcz50_2 : wc.cell? ⟨gb180, 2, none⟩ = some (.int .u32 ((Int.tmod a2 4) % 4294967296)) := (blk_cell BK180.out 2).trans rfl
                                    have hcz50_3 : wc.cell? ⟨gb180, 3, none⟩ = some (.string (strOfNums y174)) := (blk_cell BK180.out 3).trans rfl
                                    have hcz50_4 : wc.cell? ⟨gb180, 4, none⟩ = some (.string (strOfNums y177)) := (blk_cell BK180.out 4).trans rfl
                                    have hfz50_0 := blk_frozen BK180.out 0
                                    have hfz50_1 := blk_frozen BK180.out 1
                                    have hfz50_2 := blk_frozen BK180.out 2
                                    have hfz50_3 := blk_frozen BK180.out 3
                                    have hfz50_4 := blk_frozen BK180.out 4
                                    go_wp2
                                    go_meet
                                    case rel => exact ⟨_, (((strOfNums y177).toList == ([] : List UInt8))), (by first | rfl | (simp; done) | (simp [*]; done)), H', ⟨by have := HJ13.out; first | omega | exact Nat.le_refl _⟩, ⟨by (with_reducible repeat (first | refine blk_drewN ?_ _ | refine blk_drew ?_ | refine blk_alloc ?_ _)); exact BK180.out⟩, ⟨by repeat (first | (with_reducible first | exact HB.out | apply below_alloc | apply pw_below_drewN | apply below_drew1 | refine below_set ?_ GE180.out) | exact HB.out)⟩⟩
                                · rw [if_neg c47] at H
                                  have c47b0 : decide (((strOfNums y177).size : Int) ≤ 32) = false := decide_eq_false c47
                                  have c47b1 : decide ((strOfNums y177).size ≤ 32) = false := decide_eq_false (by omega)
                                  clear c47
                                  have H' := Aside0.mk H
                                  clear H
                                  have hcz51_0 : wc.cell? ⟨gb180, 0, none⟩ = some (.int .i64 (wrap64 (Int.tmod a0 6))) := (blk_cell BK180.out 0).trans rfl
                                  have hcz51_1 : wc.cell? ⟨gb180, 1, none⟩ = some (.int .i64 (wrap64 (a1))) := (blk_cell BK180.out 1).trans rfl
                                  have hcz51_2 : wc.cell? ⟨gb180, 2, none⟩ = some (.int .u32 ((Int.tmod a2 4) % 4294967296)) := (blk_cell BK180.out 2).trans rfl
                                  have hcz51_3 : wc.cell? ⟨gb180, 3, none⟩ = some (.string (strOfNums y174)) := (blk_cell BK180.out 3).trans rfl
                                  have hcz51_4 : wc.cell? ⟨gb180, 4, none⟩ = some (.string (strOfNums y177)) := (blk_cell BK180.out 4).trans rfl
                                  have hfz51_0 := blk_frozen BK180.out 0
                                  have hfz51_1 := blk_frozen BK180.out 1
                                  have hfz51_2 := blk_frozen BK180.out 2
                                  have hfz51_3 := blk_frozen BK180.out 3
                                  have hfz51_4 := blk_frozen BK180.out 4
                                  go_wp2
                                  go_meet
                                  case rel => exact ⟨_, (false), (by first | rfl | (simp; done) | (simp [*]; done)), H', ⟨by have := HJ13.out; first | omega | exact Nat.le_refl _⟩, ⟨by (with_reducible repeat (first | refine blk_drewN ?_ _ | refine blk_drew ?_ | refine blk_alloc ?_ _)); exact BK180.out⟩, ⟨by repeat (first | (with_reducible first | exact HB.out | apply below_alloc | apply pw_below_drewN | apply below_drew1 | refine below_set ?_ GE180.out) | exact HB.out)⟩⟩
                              · rw [if_neg c46] at H
                                have c46b0 : decide (((strOfNums y174).size : Int) ≤ 16) = false := decide_eq_false c46
                                have c46b1 : decide ((strOfNums y174).size ≤ 16) = false := decide_eq_false (by omega)
                                clear c46
                                have H' := Aside0.mk H
                                clear H
                                have hcz52_0 : wc.cell? ⟨gb180, 0, none⟩ = some (.int .i64 (wrap64 (Int.tmod a0 6))) := (blk_cell BK180.out 0).trans rfl
                                have hcz52_1 : wc.cell? ⟨gb180, 1, none⟩ = some (.int .i64 (wrap64 (a1))) := (blk_cell BK180.out 1).trans rfl
                                have hcz52_2 : wc.cell? ⟨gb180, 2, none⟩ = some (.int .u32 ((Int.tmod a2 4) % 4294967296)) := (blk_cell BK180.out 2).trans rfl
                                have hcz52_3 : wc.cell? ⟨gb180, 3, none⟩ = some (.string (strOfNums y174)) := (blk_cell BK180.out 3).trans rfl
                                have hcz52_4 : wc.cell? ⟨gb180, 4, none⟩ = some (.string (strOfNums y177)) := (blk_cell BK180.out 4).trans rfl
                                have hfz52_0 := blk_frozen BK180.out 0
                                have hfz52_1 := blk_frozen BK180.out 1
                                have hfz52_2 := blk_frozen BK180.out 2
                                have hfz52_3 := blk_frozen BK180.out 3
                                have hfz52_4 := blk_frozen BK180.out 4
                                go_wp2
                                go_meet
                                case rel => exact ⟨_, (false), (by first | rfl | (simp; done) | (simp [*]; done)), H', ⟨by have := HJ13.out; first | omega | exact Nat.le_refl _⟩, ⟨by (with_reducible repeat (first | refine blk_drewN ?_ _ | refine blk_drew ?_ | refine blk_alloc ?_ _)); exact BK180.out⟩, ⟨by repeat (first | (with_reducible first | exact HB.out | apply below_alloc | apply pw_below_drewN | apply below_drew1 | refine below_set ?_ GE180.out) | exact HB.out)⟩⟩
                            · rw [if_neg c45] at H
                              have c45b0 : decide (1 ≤ ((strOfNums y174).size : Int)) = false := decide_eq_false c45
                              have c45b1 : decide (1 ≤ (strOfNums y174).size) = false := decide_eq_false (by omega)
                              clear c45
                              have H' := Aside0.mk H
                              clear H
                              have hcz53_0 : wc.cell? ⟨gb180, 0, none⟩ = some (.int .i64 (wrap64 (Int.tmod a0 6))) := (blk_cell BK180.out 0).trans rfl
                              have hcz53_1 : wc.cell? ⟨gb180, 1, none⟩ = some (.int .i64 (wrap64 (a1))) := (blk_cell BK180.out 1).trans rfl
                              have hcz53_2 : wc.cell? ⟨gb180, 2, none⟩ = some (.int .u32 ((Int.tmod a2 4) % 4294967296)) := (blk_cell BK180.out 2).trans rfl
                              have hcz53_3 : wc.cell? ⟨gb180, 3, none⟩ = some (.string (strOfNums y174)) := (blk_cell BK180.out 3).trans rfl
                              have hcz53_4 : wc.cell? ⟨gb180, 4, none⟩ = some (.string (strOfNums y177)) := (blk_cell BK180.out 4).trans rfl
                              have hfz53_0 := blk_frozen BK180.out 0
                              have hfz53_1 := blk_frozen BK180.out 1
                              have hfz53_2 := blk_frozen BK180.out 2
                              have hfz53_3 := blk_frozen BK180.out 3
                              have hfz53_4 := blk_frozen BK180.out 4
                              go_wp2
                              go_meet
                              case rel => exact ⟨_, (false), (by first | rfl | (simp; done) | (simp [*]; done)), H', ⟨by have := HJ13.out; first | omega | exact Nat.le_refl _⟩, ⟨by (with_reducible repeat (first | refine blk_drewN ?_ _ | refine blk_drew ?_ | refine blk_alloc ?_ _)); exact BK180.out⟩, ⟨by repeat (first | (with_reducible first | exact HB.out | apply below_alloc | apply pw_below_drewN | apply below_drew1 | refine below_set ?_ GE180.out) | exact HB.out)⟩⟩
                          · rw [if_neg c44] at H
                            have c44b0 : decide (1 ≤ ((Int.tmod a2 4) % 4294967296)) = false := decide_eq_false c44
                            clear c44
                            have H' := Aside0.mk H
                            clear H
                            have hcz54_0 : wc.cell? ⟨gb180, 0, none⟩ = some (.int .i64 (wrap64 (Int.tmod a0 6))) := (blk_cell BK180.out 0).trans rfl
                            have hcz54_1 : wc.cell? ⟨gb180, 1, none⟩ = some (.int .i64 (wrap64 (a1))) := (blk_cell BK180.out 1).trans rfl
                            have hcz54_2 : wc.cell? ⟨gb180, 2, none⟩ = some (.int .u32 ((Int.tmod a2 4) % 4294967296)) := (blk_cell BK180.out 2).trans rfl
                            have hcz54_3 : wc.cell? ⟨gb180, 3, none⟩ = some (.string (strOfNums y174)) := (blk_cell BK180.out 3).trans rfl
                            have hcz54_4 : wc.cell? ⟨gb180, 4, none⟩ = some (.string (strOfNums y177)) := (blk_cell BK180.out 4).trans rfl
                            have hfz54_0 := blk_frozen BK180.out 0
                            have hfz54_1 := blk_frozen BK180.out 1
                            have hfz54_2 := blk_frozen BK180.out 2
                            have hfz54_3 := blk_frozen BK180.out 3
                            have hfz54_4 := blk_frozen BK180.out 4
                            go_wp2
                            go_meet
                            case rel => exact ⟨_, (false), (by first | rfl | (simp; done) | (simp [*]; done)), H', ⟨by have := HJ13.out; first | omega | exact Nat.le_refl _⟩, ⟨by (with_reducible repeat (first | refine blk_drewN ?_ _ | refine blk_drew ?_ | refine blk_alloc ?_ _)); exact BK180.out⟩, ⟨by repeat (first | (with_reducible first | exact HB.out | apply below_alloc | apply pw_below_drewN | apply below_drew1 | refine below_set ?_ GE180.out) | exact HB.out)⟩⟩
                        · rw [if_neg c43] at H
                          have c43b0 : decide ((wrap64 (a1)) ≤ 64) = false := decide_eq_false c43
                          clear c43
                          have H' := Aside0.mk H
                          clear H
                          have hcz55_0 : wc.cell? ⟨gb180, 0, none⟩ = some (.int .i64 (wrap64 (Int.tmod a0 6))) := (blk_cell BK180.out 0).trans rfl
                          have hcz55_1 : wc.cell? ⟨gb180, 1, none⟩ = some (.int .i64 (wrap64 (a1))) := (blk_cell BK180.out 1).trans rfl
                          have hcz55_2 : wc.cell? ⟨gb180, 2, none⟩ = some (.int .u32 ((Int.tmod a2 4) % 4294967296)) := (blk_cell BK180.out 2).trans rfl
                          have hcz55_3 : wc.cell? ⟨gb180, 3, none⟩ = some (.string (strOfNums y174)) := (blk_cell BK180.out 3).trans rfl
                          have hcz55_4 : wc.cell? ⟨gb180, 4, none⟩ = some (.string (strOfNums y177)) := (blk_cell BK180.out 4).trans rfl
                          have hfz55_0 := blk_frozen BK180.out 0
                          have hfz55_1 := blk_frozen BK180.out 1
                          have hfz55_2 := blk_frozen BK180.out 2
                          have hfz55_3 := blk_frozen BK180.out 3
                          have hfz55_4 := blk_frozen BK180.out 4
                          go_wp2
                          go_meet
                          case rel => exact ⟨_, (false), (by first | rfl | (simp; done) | (simp [*]; done)), H', ⟨by have := HJ13.out; first | omega | exact Nat.le_refl _⟩, ⟨by (with_reducible repeat (first | refine blk_drewN ?_ _ | refine blk_drew ?_ | refine blk_alloc ?_ _)); exact BK180.out⟩, ⟨by repeat (first | (with_reducible first | exact HB.out | apply below_alloc | apply pw_below_drewN | apply below_drew1 | refine below_set ?_ GE180.out) | exact HB.out)⟩⟩
                      · rw [if_neg c42] at H
                        have c42b0 : decide (1 ≤ (wrap64 (a1))) = false := decide_eq_false c42
                        clear c42
                        have H' := Aside0.mk H
                        clear H
                        have hcz56_0 : wc.cell? ⟨gb180, 0, none⟩ = some (.int .i64 (wrap64 (Int.tmod a0 6))) := (blk_cell BK180.out 0).trans rfl
                        have hcz56_1 : wc.cell? ⟨gb180, 1, none⟩ = some (.int .i64 (wrap64 (a1))) := (blk_cell BK180.out 1).trans rfl
                        have hcz56_2 : wc.cell? ⟨gb180, 2, none⟩ = some (.int .u32 ((Int.tmod a2 4) % 4294967296)) := (blk_cell BK180.out 2).trans rfl
                        have hcz56_3 : wc.cell? ⟨gb180, 3, none⟩ = some (.string (strOfNums y174)) := (blk_cell BK180.out 3).trans rfl
                        have hcz56_4 : wc.cell? ⟨gb180, 4, none⟩ = some (.string (strOfNums y177)) := (blk_cell BK180.out 4).trans rfl
                        have hfz56_0 := blk_frozen BK180.out 0
                        have hfz56_1 := blk_frozen BK180.out 1
                        have hfz56_2 := blk_frozen BK180.out 2
                        have hfz56_3 := blk_frozen BK180.out 3
                        have hfz56_4 := blk_frozen BK180.out 4
                        go_wp2
                        go_meet
                        case rel => exact ⟨_, (false), (by first | rfl | (simp; done) | (simp [*]; done)), H', ⟨by have := HJ13.out; first | omega | exact Nat.le_refl _⟩, ⟨by (with_reducible repeat (first | refine blk_drewN ?_ _ | refine blk_drew ?_ | refine blk_alloc ?_ _)); exact BK180.out⟩, ⟨by repeat (first | (with_reducible first | exact HB.out | apply below_alloc | apply pw_below_drewN | apply below_drew1 | refine below_set ?_ GE180.out) | exact HB.out)⟩⟩
                    · rw [if_neg c41] at H
                      have c41b0 : decide ((wrap64 (Int.tmod a0 6)) ≤ 3) = false := decide_eq_false c41
                      clear c41
                      have H' := Aside0.mk H
                      clear H
                      have hcz57_0 : wc.cell? ⟨gb180, 0, none⟩ = some (.int .i64 (wrap64 (Int.tmod a0 6))) := (blk_cell BK180.out 0).trans rfl
                      have hcz57_1 : wc.cell? ⟨gb180, 1, none⟩ = some (.int .i64 (wrap64 (a1))) := (blk_cell BK180.out 1).trans rfl
                      have hcz57_2 : wc.cell? ⟨gb180, 2, none⟩ = some (.int .u32 ((Int.tmod a2 4) % 4294967296)) := (blk_cell BK180.out 2).trans rfl
                      have hcz57_3 : wc.cell? ⟨gb180, 3, none⟩ = some (.string (strOfNums y174)) := (blk_cell BK180.out 3).trans rfl
                      have hcz57_4 : wc.cell? ⟨gb180, 4, none⟩ = some (.string (strOfNums y177)) := (blk_cell BK180.out 4).trans rfl
                      have hfz57_0 := blk_frozen BK180.out 0
                      have hfz57_1 := blk_frozen BK180.out 1
                      have hfz57_2 := blk_frozen BK180.out 2
                      have hfz57_3 := blk_frozen BK180.out 3
                      have hfz57_4 := blk_frozen BK180.out 4
                      go_wp2
                      go_meet
                      case rel => exact ⟨_, (false), (by first | rfl | (simp; done) | (simp [*]; done)), H', ⟨by have := HJ13.out; first | omega | exact Nat.le_refl _⟩, ⟨by (with_reducible repeat (first | refine blk_drewN ?_ _ | refine blk_drew ?_ | refine blk_alloc ?_ _)); exact BK180.out⟩, ⟨by repeat (first | (with_reducible first | exact HB.out | apply below_alloc | apply pw_below_drewN | apply below_drew1 | refine below_set ?_ GE180.out) | exact HB.out)⟩⟩
                  · rw [if_neg c40] at H
                    have c40b0 : decide (1 ≤ (wrap64 (Int.tmod a0 6))) = false := decide_eq_false c40
                    clear c40
                    (first | rw [c40b0] | (simp only [i64_w, i32_w]; rw [c40b0]) | skip)
                    have H' := Aside0.mk H
                    clear H
                    have hcz58_0 : wc.cell? ⟨gb180, 0, none⟩ = some (.int .i64 (wrap64 (Int.tmod a0 6))) := (blk_cell BK180.out 0).trans rfl
                    have hcz58_1 : wc.cell? ⟨gb180, 1, none⟩ = some (.int .i64 (wrap64 (a1))) := (blk_cell BK180.out 1).trans rfl
                    have hcz58_2 : wc.cell? ⟨gb180, 2, none⟩ = some (.int .u32 ((Int.tmod a2 4) % 4294967296)) := (blk_cell BK180.out 2).trans rfl
                    have hcz58_3 : wc.cell? ⟨gb180, 3, none⟩ = some (.string (strOfNums y174)) := (blk_cell BK180.out 3).trans rfl
                    have hcz58_4 : wc.cell? ⟨gb180, 4, none⟩ = some (.string (strOfNums y177)) := (blk_cell BK180.out 4).trans rfl
                    have hfz58_0 := blk_frozen BK180.out 0
                    have hfz58_1 := blk_frozen BK180.out 1
                    have hfz58_2 := blk_frozen BK180.out 2
                    have hfz58_3 := blk_frozen BK180.out 3
                    have hfz58_4 := blk_frozen BK180.out 4
                    go_wp2
                    go_meet
                    case rel => exact ⟨_, (false), (by first | rfl | (simp; done) | (simp [*]; done)), H', ⟨by have := HJ13.out; first | omega | exact Nat.le_refl _⟩, ⟨by (with_reducible repeat (first | refine blk_drewN ?_ _ | refine blk_drew ?_ | refine blk_alloc ?_ _)); exact BK180.out⟩, ⟨by repeat (first | (with_reducible first | exact HB.out | apply below_alloc | apply pw_below_drewN | apply below_drew1 | refine below_set ?_ GE180.out) | exact HB.out)⟩⟩
                case rest =>
                  clear HC39
                  try clear p2
                  try clear hcv2
                  try clear c3
                  try clear c4
                  try clear p6
                  try clear hcv23
                  try clear hcv24
                  try clear c30
                  try clear c30b0
                  try clear c30b1
                  try clear c31
                  try clear c31b0
                  try clear c31b1
                  try clear c32
                  try clear c32b0
                  try clear c32b1
                  try clear c33
                  try clear c33b0
                  try clear c33b1
                  try clear c40
                  try clear c40b0
                  try clear c41
                  try clear c41b0
                  try clear c42
                  try clear c42b0
                  try clear c43
                  try clear c43b0
                  try clear c44
                  try clear c44b0
                  try clear c45
                  try clear c45b0
                  try clear c45b1
                  try clear c46
                  try clear c46b0
                  try clear c46b1
                  try clear c47
                  try clear c47b0
                  try clear c47b1
                  try clear c48
                  try clear c48b0
                  try clear c48b1
                  try clear hcz34_0
                  try clear hcz34_1
                  try clear hcz34_2
                  try clear hcz34_3
                  try clear hcz34_4
                  try clear hcz35_0
                  try clear hcz35_1
                  try clear hcz35_2
                  try clear hcz35_3
                  try clear hcz35_4
                  try clear hcz36_0
                  try clear hcz36_1
                  try clear hcz36_2
                  try clear hcz36_3
                  try clear hcz36_4
                  try clear hcz37_0
                  try clear hcz37_1
                  try clear hcz37_2
                  try clear hcz37_3
                  try clear hcz37_4
                  try clear hcz38_0
                  try clear hcz38_1
                  try clear hcz38_2
                  try clear hcz38_3
                  try clear hcz38_4
                  try clear hcz49_0
                  try clear hcz49_1
                  try clear hcz49_2
                  try clear hcz49_3
                  try clear hcz49_4
                  try clear hcz50_0
                  try clear hcz50_1
                  try clear hcz50_2
                  try clear hcz50_3
                  try clear hcz50_4
                  try clear hcz51_0
                  try clear hcz51_1
                  try clear hcz51_2
                  try clear hcz51_3
                  try clear hcz51_4
                  try clear hcz52_0
                  try clear hcz52_1
                  try clear hcz52_2
                  try clear hcz52_3
                  try clear hcz52_4
                  try clear hcz53_0
                  try clear hcz53_1
                  try clear hcz53_2
                  try clear hcz53_3
                  try clear hcz53_4
                  try clear hcz54_0
                  try clear hcz54_1
                  try clear hcz54_2
                  try clear hcz54_3
                  try clear hcz54_4
                  try clear hcz55_0
                  try clear hcz55_1
                  try clear hcz55_2
                  try clear hcz55_3
                  try clear hcz55_4
                  try clear hcz56_0
                  try clear hcz56_1
                  try clear hcz56_2
                  try clear hcz56_3
                  try clear hcz56_4
                  try clear hcz57_0
                  try clear hcz57_1
                  try clear hcz57_2
                  try clear hcz57_3
                  try clear hcz57_4
                  try clear hcz58_0
                  try clear hcz58_1
                  try clear hcz58_2
                  try clear hcz58_3
                  try clear hcz58_4
                  try clear hfz34_0
                  try clear hfz34_1
                  try clear hfz34_2
                  try clear hfz34_3
                  try clear hfz34_4
                  try clear hfz35_0
                  try clear hfz35_1
                  try clear hfz35_2
                  try clear hfz35_3
                  try clear hfz35_4
                  try clear hfz36_0
                  try clear hfz36_1
                  try clear hfz36_2
                  try clear hfz36_3
                  try clear hfz36_4
                  try clear hfz37_0
                  try clear hfz37_1
                  try clear hfz37_2
                  try clear hfz37_3
                  try clear hfz37_4
                  try clear hfz38_0
                  try clear hfz38_1
                  try clear hfz38_2
                  try clear hfz38_3
                  try clear hfz38_4
                  try clear hfz49_0
                  try clear hfz49_1
                  try clear hfz49_2
                  try clear hfz49_3
                  try clear hfz49_4
                  try clear hfz50_0
                  try clear hfz50_1
                  try clear hfz50_2
                  try clear hfz50_3
                  try clear hfz50_4
                  try clear hfz51_0
                  try clear hfz51_1
                  try clear hfz51_2
                  try clear hfz51_3
                  try clear hfz51_4
                  try clear hfz52_0
                  try clear hfz52_1
                  try clear hfz52_2
                  try clear hfz52_3
                  try clear hfz52_4
                  try clear hfz53_0
                  try clear hfz53_1
                  try clear hfz53_2
                  try clear hfz53_3
                  try clear hfz53_4
                  try clear hfz54_0
                  try clear hfz54_1
                  try clear hfz54_2
                  try clear hfz54_3
                  try clear hfz54_4
                  try clear hfz55_0
                  try clear hfz55_1
                  try clear hfz55_2
                  try clear hfz55_3
                  try clear hfz55_4
                  try clear hfz56_0
                  try clear hfz56_1
                  try clear hfz56_2
                  try clear hfz56_3
                  try clear hfz56_4
                  try clear hfz57_0
                  try clear hfz57_1
                  try clear hfz57_2
                  try clear hfz57_3
                  try clear hfz57_4
                  try clear hfz58_0
                  try clear hfz58_1
                  try clear hfz58_2
                  try clear hfz58_3
                  try clear hfz58_4
                  try clear p2
                  try clear p6
                  obtain ⟨kq, x14_38, rfl, HA, HJ38, BK180, HB⟩ := hcut
                  cases kq with
                  | zero => exact absurd HA.out (by simp [comitialaw07_CmdBounds.j1])
                  | succ kj38 =>
                    have H := HA.out
                    clear HA
                    simp only [comitialaw07_CmdBounds.j1] at H
                    replace H := Option.bind_eq_some_iff.mp H
                    obtain ⟨⟨t181, t182⟩, A590, H⟩ := H
                    replace H : (if true = true then ((cmd_Right.f kj38 (wrap64 (Int.tmod a0 6)) (wrap64 (a1)) ((Int.tmod a2 4) % 4294967296) (strOfNums y174) (strOfNums y177)).bind fun t183 => (if x14_38 = true then (if (t183 == true) = true then (some (t182 == true)) else (some false)) else (if (t183 == x13_13) = true then (some (t182 == x13_13)) else (some false)))) else (some false)) = some r := H
                    have A59 := Aside0.mk A590
                    clear A590
                    have H1 : ((cmd_Right.f kj38 (wrap64 (Int.tmod a0 6)) (wrap64 (a1)) ((Int.tmod a2 4) % 4294967296) (strOfNums y174) (strOfNums y177)).bind fun t183 => (if x14_38 = true then (if (t183 == true) = true then (some (t182 == true)) else (some false)) else (if (t183 == x13_13) = true then (some (t182 == x13_13)) else (some false)))) = some r := by first | (with_reducible exact H) | (rw [if_pos rfl] at H; exact H) | (rw [if_pos trivial] at H; exact H) | (rw [if_neg not_false] at H; exact H)
                    clear H
                    have H := H1
                    clear H1
                    replace H := Option.bind_eq_some_iff.mp H
                    obtain ⟨t183, A600, H⟩ := H
                    replace H : (if x14_38 = true then (if (t183 == true) = true then (some (t182 == true)) else (some false)) else (if (t183 == x13_13) = true then (some (t182 == x13_13)) else (some false))) = some r := H
                    have A60 := Aside0.mk A600
                    clear A600
                    by_cases c61 : x14_38 = true
                    · subst c61
                      have H1 : (if (t183 == true) = true then (some (t182 == true)) else (some false)) = some r := by rw [if_pos rfl] at H; exact H
                      clear H
                      have H := H1
                      clear H1
                      by_cases c62 : (t183 == true) = true
                      · rw [if_pos c62] at H
                        have c62b0 : (t183 == true) = true := c62
                        (try (have c62b1 : decide (t183 = true) = true := by simpa using c62))
                        (try (have c62b2 : (t183 == true) = true := by simpa using c62))
                        clear c62
                        obtain rfl := Option.some.inj H
                        have hcz63_0 : wc.cell? ⟨gb180, 0, none⟩ = some (.int .i64 (wrap64 (Int.tmod a0 6))) := (blk_cell BK180.out 0).trans rfl
                        have hcz63_1 : wc.cell? ⟨gb180, 1, none⟩ = some (.int .i64 (wrap64 (a1))) := (blk_cell BK180.out 1).trans rfl
                        have hcz63_2 : wc.cell? ⟨gb180, 2, none⟩ = some (.int .u32 ((Int.tmod a2 4) % 4294967296)) := (blk_cell BK180.out 2).trans rfl
                        have hcz63_3 : wc.cell? ⟨gb180, 3, none⟩ = some (.string (strOfNums y174)) := (blk_cell BK180.out 3).trans rfl
                        have hcz63_4 : wc.cell? ⟨gb180, 4, none⟩ = some (.string (strOfNums y177)) := (blk_cell BK180.out 4).trans rfl
                        have hfz63_0 := blk_frozen BK180.out 0
                        have hfz63_1 := blk_frozen BK180.out 1
                        have hfz63_2 := blk_frozen BK180.out 2
                        have hfz63_3 := blk_frozen BK180.out 3
                        have hfz63_4 := blk_frozen BK180.out 4
                        go_wp2_with (first | ((with_reducible refine gate_callee (f := 11) rfl ?_); refine goesL_ (some 115) rfl rfl Tryd.func11 (by kernel_rfl) rfl #[.agg #[.int .i64 (wrap64 (Int.tmod a0 6)), .int .i64 (wrap64 (a1)), .int .u32 ((Int.tmod a2 4) % 4294967296), .string (strOfNums y174), .string (strOfNums y177)]] rfl (by (try simp only [List.map_toArray, List.map_cons, List.map_nil]); first | done | rfl | (simp only [List.length_drop, List.length_take]; rfl)) ?_; (with_reducible refine (cmd_Bytes.calls kj38 (wrap64 (Int.tmod a0 6)) (wrap64 (a1)) ((Int.tmod a2 4) % 4294967296) (strOfNums y174) (strOfNums y177) t181 t182 _ A59.out).mono ?_); rintro e w64 ⟨rfl, hb⟩; refine ⟨_, rfl, ?_⟩; have n0_ := Aside0.mk (blk_below (g := gb180) (o := .cells #[.int .i64 (wrap64 (Int.tmod a0 6)), .int .i64 (wrap64 (a1)), .int .u32 ((Int.tmod a2 4) % 4294967296), .string (strOfNums y174), .string (strOfNums y177)] 24 (0, 0)) (by (with_reducible repeat (first | refine blk_drewN ?_ _ | refine blk_drew ?_ | refine blk_alloc ?_ _)); exact BK180.out) hb); have n1_ := Aside0.mk (below_step (by repeat (first | (with_reducible first | exact HB.out | apply below_alloc | apply pw_below_drewN | apply below_drew1 | refine below_set ?_ GE180.out) | exact HB.out)) hb); clear BK180; clear HB; have BK180 := n0_; have HB := n1_; clear n0_ n1_; (try clear hb); (try clear hb2); (try clear hk); (try clear hi); have hcz65_0 : w64.cell? ⟨gb180, 0, none⟩ = some (.int .i64 (wrap64 (Int.tmod a0 6))) := (blk_cell BK180.out 0).trans rfl; have hcz65_1 : w64.cell? ⟨gb180, 1, none⟩ = some (.int .i64 (wrap64 (a1))) := (blk_cell BK180.out 1).trans rfl; have hcz65_2 : w64.cell? ⟨gb180, 2, none⟩ = some (.int .u32 ((Int.tmod a2 4) % 4294967296)) := (blk_cell BK180.out 2).trans rfl; have hcz65_3 : w64.cell? ⟨gb180, 3, none⟩ = some (.string (strOfNums y174)) := (blk_cell BK180.out 3).trans rfl; have hcz65_4 : w64.cell? ⟨gb180, 4, none⟩ = some (.string (strOfNums y177)) := (blk_cell BK180.out 4).trans rfl; have hfz65_0 := blk_frozen BK180.out 0; have hfz65_1 := blk_frozen BK180.out 1; have hfz65_2 := blk_frozen BK180.out 2; have hfz65_3 := blk_frozen BK180.out 3; have hfz65_4 := blk_frozen BK180.out 4) | (go_at_call 14; (with_reducible refine (cmd_Right.calls kj38 (wrap64 (Int.tmod a0 6)) (wrap64 (a1)) ((Int.tmod a2 4) % 4294967296) (strOfNums y174) (strOfNums y177) t183 _ A60.out).mono ?_); rintro e w66 ⟨rfl, hb⟩; have n0_ := Aside0.mk (blk_below (g := gb180) (o := .cells #[.int .i64 (wrap64 (Int.tmod a0 6)), .int .i64 (wrap64 (a1)), .int .u32 ((Int.tmod a2 4) % 4294967296), .string (strOfNums y174), .string (strOfNums y177)] 24 (0, 0)) (by (with_reducible repeat (first | refine blk_drewN ?_ _ | refine blk_drew ?_ | refine blk_alloc ?_ _)); exact BK180.out) hb); have n1_ := Aside0.mk (below_step (by repeat (first | (with_reducible first | exact HB.out | apply below_alloc | apply pw_below_drewN | apply below_drew1 | refine below_set ?_ GE180.out) | exact HB.out)) hb); clear BK180; clear HB; have BK180 := n0_; have HB := n1_; clear n0_ n1_; (try clear hb); (try clear hb2); (try clear hk); (try clear hi)))
                        go_ret
                        exact ⟨by first | rfl | (simp [errW_none, errW_some] <;> rfl) | (simp only [← hji8, ← hji11]; first | rfl | (simp [errW_none, errW_some] <;> rfl)) | (simp [*, errW_none, errW_some] <;> rfl), by repeat (first | (with_reducible first | exact HB.out | apply below_alloc | apply pw_below_drewN | apply below_drew1 | refine below_set ?_ GE180.out) | exact HB.out)⟩
                      · rw [if_neg c62] at H
                        have c62b0 : (t183 == true) = false := by simpa using c62
                        (try (have c62b1 : decide (t183 = true) = false := by simpa using c62))
                        (try (have c62b2 : (t183 == true) = false := by simpa using c62))
                        (try (have c62b3 : ¬ (t183 = true) := by simpa using c62))
                        clear c62
                        obtain rfl := Option.some.inj H
                        have hcz67_0 : wc.cell? ⟨gb180, 0, none⟩ = some (.int .i64 (wrap64 (Int.tmod a0 6))) := (blk_cell BK180.out 0).trans rfl
                        have hcz67_1 : wc.cell? ⟨gb180, 1, none⟩ = some (.int .i64 (wrap64 (a1))) := (blk_cell BK180.out 1).trans rfl
                        have hcz67_2 : wc.cell? ⟨gb180, 2, none⟩ = some (.int .u32 ((Int.tmod a2 4) % 4294967296)) := (blk_cell BK180.out 2).trans rfl
                        have hcz67_3 : wc.cell? ⟨gb180, 3, none⟩ = some (.string (strOfNums y174)) := (blk_cell BK180.out 3).trans rfl
                        have hcz67_4 : wc.cell? ⟨gb180, 4, none⟩ = some (.string (strOfNums y177)) := (blk_cell BK180.out 4).trans rfl
                        have hfz67_0 := blk_frozen BK180.out 0
                        have hfz67_1 := blk_frozen BK180.out 1
                        have hfz67_2 := blk_frozen BK180.out 2
                        have hfz67_3 := blk_frozen BK180.out 3
                        have hfz67_4 := blk_frozen BK180.out 4
                        go_wp2_with (first | ((with_reducible refine gate_callee (f := 11) rfl ?_); refine goesL_ (some 115) rfl rfl Tryd.func11 (by kernel_rfl) rfl #[.agg #[.int .i64 (wrap64 (Int.tmod a0 6)), .int .i64 (wrap64 (a1)), .int .u32 ((Int.tmod a2 4) % 4294967296), .string (strOfNums y174), .string (strOfNums y177)]] rfl (by (try simp only [List.map_toArray, List.map_cons, List.map_nil]); first | done | rfl | (simp only [List.length_drop, List.length_take]; rfl)) ?_; (with_reducible refine (cmd_Bytes.calls kj38 (wrap64 (Int.tmod a0 6)) (wrap64 (a1)) ((Int.tmod a2 4) % 4294967296) (strOfNums y174) (strOfNums y177) t181 t182 _ A59.out).mono ?_); rintro e w68 ⟨rfl, hb⟩; refine ⟨_, rfl, ?_⟩; have n0_ := Aside0.mk (blk_below (g := gb180) (o := .cells #[.int .i64 (wrap64 (Int.tmod a0 6)), .int .i64 (wrap64 (a1)), .int .u32 ((Int.tmod a2 4) % 4294967296), .string (strOfNums y174), .string (strOfNums y177)] 24 (0, 0)) (by (with_reducible repeat (first | refine blk_drewN ?_ _ | refine blk_drew ?_ | refine blk_alloc ?_ _)); exact BK180.out) hb); have n1_ := Aside0.mk (below_step (by repeat (first | (with_reducible first | exact HB.out | apply below_alloc | apply pw_below_drewN | apply below_drew1 | refine below_set ?_ GE180.out) | exact HB.out)) hb); clear BK180; clear HB; have BK180 := n0_; have HB := n1_; clear n0_ n1_; (try clear hb); (try clear hb2); (try clear hk); (try clear hi); have hcz69_0 : w68.cell? ⟨gb180, 0, none⟩ = some (.int .i64 (wrap64 (Int.tmod a0 6))) := (blk_cell BK180.out 0).trans rfl; have hcz69_1 : w68.cell? ⟨gb180, 1, none⟩ = some (.int .i64 (wrap64 (a1))) := (blk_cell BK180.out 1).trans rfl; have hcz69_2 : w68.cell? ⟨gb180, 2, none⟩ = some (.int .u32 ((Int.tmod a2 4) % 4294967296)) := (blk_cell BK180.out 2).trans rfl; have hcz69_3 : w68.cell? ⟨gb180, 3, none⟩ = some (.string (strOfNums y174)) := (blk_cell BK180.out 3).trans rfl; have hcz69_4 : w68.cell? ⟨gb180, 4, none⟩ = some (.string (strOfNums y177)) := (blk_cell BK180.out 4).trans rfl; have hfz69_0 := blk_frozen BK180.out 0; have hfz69_1 := blk_frozen BK180.out 1; have hfz69_2 := blk_frozen BK180.out 2; have hfz69_3 := blk_frozen BK180.out 3; have hfz69_4 := blk_frozen BK180.out 4) | (go_at_call 14; (with_reducible refine (cmd_Right.calls kj38 (wrap64 (Int.tmod a0 6)) (wrap64 (a1)) ((Int.tmod a2 4) % 4294967296) (strOfNums y174) (strOfNums y177) t183 _ A60.out).mono ?_); rintro e w70 ⟨rfl, hb⟩; have n0_ := Aside0.mk (blk_below (g := gb180) (o := .cells #[.int .i64 (wrap64 (Int.tmod a0 6)), .int .i64 (wrap64 (a1)), .int .u32 ((Int.tmod a2 4) % 4294967296), .string (strOfNums y174), .string (strOfNums y177)] 24 (0, 0)) (by (with_reducible repeat (first | refine blk_drewN ?_ _ | refine blk_drew ?_ | refine blk_alloc ?_ _)); exact BK180.out) hb); have n1_ := Aside0.mk (below_step (by repeat (first | (with_reducible first | exact HB.out | apply below_alloc | apply pw_below_drewN | apply below_drew1 | refine below_set ?_ GE180.out) | exact HB.out)) hb); clear BK180; clear HB; have BK180 := n0_; have HB := n1_; clear n0_ n1_; (try clear hb); (try clear hb2); (try clear hk); (try clear hi)))
                        go_ret
                        exact ⟨by first | rfl | (simp [errW_none, errW_some] <;> rfl) | (simp only [← hji8, ← hji11]; first | rfl | (simp [errW_none, errW_some] <;> rfl)) | (simp [*, errW_none, errW_some] <;> rfl), by repeat (first | (with_reducible first | exact HB.out | apply below_alloc | apply pw_below_drewN | apply below_drew1 | refine below_set ?_ GE180.out) | exact HB.out)⟩
                    · replace c61 := Bool.eq_false_iff.mpr c61
                      subst c61
                      have H1 : (if (t183 == x13_13) = true then (some (t182 == x13_13)) else (some false)) = some r := by rw [if_neg (show ¬ (false = true) by decide)] at H; exact H
                      clear H
                      have H := H1
                      clear H1
                      by_cases c71 : (t183 == x13_13) = true
                      · rw [if_pos c71] at H
                        have c71b0 : (t183 == x13_13) = true := c71
                        (try (have c71b1 : decide (t183 = x13_13) = true := by simpa using c71))
                        (try (have c71b2 : (t183 == x13_13) = true := by simpa using c71))
                        clear c71
                        obtain rfl := Option.some.inj H
                        have hcz72_0 : wc.cell? ⟨gb180, 0, none⟩ = some (.int .i64 (wrap64 (Int.tmod a0 6))) := (blk_cell BK180.out 0).trans rfl
                        have hcz72_1 : wc.cell? ⟨gb180, 1, none⟩ = some (.int .i64 (wrap64 (a1))) := (blk_cell BK180.out 1).trans rfl
                        have hcz72_2 : wc.cell? ⟨gb180, 2, none⟩ = some (.int .u32 ((Int.tmod a2 4) % 4294967296)) := (blk_cell BK180.out 2).trans rfl
                        have hcz72_3 : wc.cell? ⟨gb180, 3, none⟩ = some (.string (strOfNums y174)) := (blk_cell BK180.out 3).trans rfl
                        have hcz72_4 : wc.cell? ⟨gb180, 4, none⟩ = some (.string (strOfNums y177)) := (blk_cell BK180.out 4).trans rfl
                        have hfz72_0 := blk_frozen BK180.out 0
                        have hfz72_1 := blk_frozen BK180.out 1
                        have hfz72_2 := blk_frozen BK180.out 2
                        have hfz72_3 := blk_frozen BK180.out 3
                        have hfz72_4 := blk_frozen BK180.out 4
                        go_wp2_with (first | ((with_reducible refine gate_callee (f := 11) rfl ?_); refine goesL_ (some 115) rfl rfl Tryd.func11 (by kernel_rfl) rfl #[.agg #[.int .i64 (wrap64 (Int.tmod a0 6)), .int .i64 (wrap64 (a1)), .int .u32 ((Int.tmod a2 4) % 4294967296), .string (strOfNums y174), .string (strOfNums y177)]] rfl (by (try simp only [List.map_toArray, List.map_cons, List.map_nil]); first | done | rfl | (simp only [List.length_drop, List.length_take]; rfl)) ?_; (with_reducible refine (cmd_Bytes.calls kj38 (wrap64 (Int.tmod a0 6)) (wrap64 (a1)) ((Int.tmod a2 4) % 4294967296) (strOfNums y174) (strOfNums y177) t181 t182 _ A59.out).mono ?_); rintro e w73 ⟨rfl, hb⟩; refine ⟨_, rfl, ?_⟩; have n0_ := Aside0.mk (blk_below (g := gb180) (o := .cells #[.int .i64 (wrap64 (Int.tmod a0 6)), .int .i64 (wrap64 (a1)), .int .u32 ((Int.tmod a2 4) % 4294967296), .string (strOfNums y174), .string (strOfNums y177)] 24 (0, 0)) (by (with_reducible repeat (first | refine blk_drewN ?_ _ | refine blk_drew ?_ | refine blk_alloc ?_ _)); exact BK180.out) hb); have n1_ := Aside0.mk (below_step (by repeat (first | (with_reducible first | exact HB.out | apply below_alloc | apply pw_below_drewN | apply below_drew1 | refine below_set ?_ GE180.out) | exact HB.out)) hb); clear BK180; clear HB; have BK180 := n0_; have HB := n1_; clear n0_ n1_; (try clear hb); (try clear hb2); (try clear hk); (try clear hi); have hcz74_0 : w73.cell? ⟨gb180, 0, none⟩ = some (.int .i64 (wrap64 (Int.tmod a0 6))) := (blk_cell BK180.out 0).trans rfl; have hcz74_1 : w73.cell? ⟨gb180, 1, none⟩ = some (.int .i64 (wrap64 (a1))) := (blk_cell BK180.out 1).trans rfl; have hcz74_2 : w73.cell? ⟨gb180, 2, none⟩ = some (.int .u32 ((Int.tmod a2 4) % 4294967296)) := (blk_cell BK180.out 2).trans rfl; have hcz74_3 : w73.cell? ⟨gb180, 3, none⟩ = some (.string (strOfNums y174)) := (blk_cell BK180.out 3).trans rfl; have hcz74_4 : w73.cell? ⟨gb180, 4, none⟩ = some (.string (strOfNums y177)) := (blk_cell BK180.out 4).trans rfl; have hfz74_0 := blk_frozen BK180.out 0; have hfz74_1 := blk_frozen BK180.out 1; have hfz74_2 := blk_frozen BK180.out 2; have hfz74_3 := blk_frozen BK180.out 3; have hfz74_4 := blk_frozen BK180.out 4) | (go_at_call 14; (with_reducible refine (cmd_Right.calls kj38 (wrap64 (Int.tmod a0 6)) (wrap64 (a1)) ((Int.tmod a2 4) % 4294967296) (strOfNums y174) (strOfNums y177) t183 _ A60.out).mono ?_); rintro e w75 ⟨rfl, hb⟩; have n0_ := Aside0.mk (blk_below (g := gb180) (o := .cells #[.int .i64 (wrap64 (Int.tmod a0 6)), .int .i64 (wrap64 (a1)), .int .u32 ((Int.tmod a2 4) % 4294967296), .string (strOfNums y174), .string (strOfNums y177)] 24 (0, 0)) (by (with_reducible repeat (first | refine blk_drewN ?_ _ | refine blk_drew ?_ | refine blk_alloc ?_ _)); exact BK180.out) hb); have n1_ := Aside0.mk (below_step (by repeat (first | (with_reducible first | exact HB.out | apply below_alloc | apply pw_below_drewN | apply below_drew1 | refine below_set ?_ GE180.out) | exact HB.out)) hb); clear BK180; clear HB; have BK180 := n0_; have HB := n1_; clear n0_ n1_; (try clear hb); (try clear hb2); (try clear hk); (try clear hi)))
                        go_ret
                        exact ⟨by first | rfl | (simp [errW_none, errW_some] <;> rfl) | (simp only [← hji8, ← hji11]; first | rfl | (simp [errW_none, errW_some] <;> rfl)) | (simp [*, errW_none, errW_some] <;> rfl), by repeat (first | (with_reducible first | exact HB.out | apply below_alloc | apply pw_below_drewN | apply below_drew1 | refine below_set ?_ GE180.out) | exact HB.out)⟩
                      · rw [if_neg c71] at H
                        have c71b0 : (t183 == x13_13) = false := by simpa using c71
                        (try (have c71b1 : decide (t183 = x13_13) = false := by simpa using c71))
                        (try (have c71b2 : (t183 == x13_13) = false := by simpa using c71))
                        (try (have c71b3 : ¬ (t183 = x13_13) := by simpa using c71))
                        clear c71
                        obtain rfl := Option.some.inj H
                        have hcz76_0 : wc.cell? ⟨gb180, 0, none⟩ = some (.int .i64 (wrap64 (Int.tmod a0 6))) := (blk_cell BK180.out 0).trans rfl
                        have hcz76_1 : wc.cell? ⟨gb180, 1, none⟩ = some (.int .i64 (wrap64 (a1))) := (blk_cell BK180.out 1).trans rfl
                        have hcz76_2 : wc.cell? ⟨gb180, 2, none⟩ = some (.int .u32 ((Int.tmod a2 4) % 4294967296)) := (blk_cell BK180.out 2).trans rfl
                        have hcz76_3 : wc.cell? ⟨gb180, 3, none⟩ = some (.string (strOfNums y174)) := (blk_cell BK180.out 3).trans rfl
                        have hcz76_4 : wc.cell? ⟨gb180, 4, none⟩ = some (.string (strOfNums y177)) := (blk_cell BK180.out 4).trans rfl
                        have hfz76_0 := blk_frozen BK180.out 0
                        have hfz76_1 := blk_frozen BK180.out 1
                        have hfz76_2 := blk_frozen BK180.out 2
                        have hfz76_3 := blk_frozen BK180.out 3
                        have hfz76_4 := blk_frozen BK180.out 4
                        go_wp2_with (first | ((with_reducible refine gate_callee (f := 11) rfl ?_); refine goesL_ (some 115) rfl rfl Tryd.func11 (by kernel_rfl) rfl #[.agg #[.int .i64 (wrap64 (Int.tmod a0 6)), .int .i64 (wrap64 (a1)), .int .u32 ((Int.tmod a2 4) % 4294967296), .string (strOfNums y174), .string (strOfNums y177)]] rfl (by (try simp only [List.map_toArray, List.map_cons, List.map_nil]); first | done | rfl | (simp only [List.length_drop, List.length_take]; rfl)) ?_; (with_reducible refine (cmd_Bytes.calls kj38 (wrap64 (Int.tmod a0 6)) (wrap64 (a1)) ((Int.tmod a2 4) % 4294967296) (strOfNums y174) (strOfNums y177) t181 t182 _ A59.out).mono ?_); rintro e w77 ⟨rfl, hb⟩; refine ⟨_, rfl, ?_⟩; have n0_ := Aside0.mk (blk_below (g := gb180) (o := .cells #[.int .i64 (wrap64 (Int.tmod a0 6)), .int .i64 (wrap64 (a1)), .int .u32 ((Int.tmod a2 4) % 4294967296), .string (strOfNums y174), .string (strOfNums y177)] 24 (0, 0)) (by (with_reducible repeat (first | refine blk_drewN ?_ _ | refine blk_drew ?_ | refine blk_alloc ?_ _)); exact BK180.out) hb); have n1_ := Aside0.mk (below_step (by repeat (first | (with_reducible first | exact HB.out | apply below_alloc | apply pw_below_drewN | apply below_drew1 | refine below_set ?_ GE180.out) | exact HB.out)) hb); clear BK180; clear HB; have BK180 := n0_; have HB := n1_; clear n0_ n1_; (try clear hb); (try clear hb2); (try clear hk); (try clear hi); have hcz78_0 : w77.cell? ⟨gb180, 0, none⟩ = some (.int .i64 (wrap64 (Int.tmod a0 6))) := (blk_cell BK180.out 0).trans rfl; have hcz78_1 : w77.cell? ⟨gb180, 1, none⟩ = some (.int .i64 (wrap64 (a1))) := (blk_cell BK180.out 1).trans rfl; have hcz78_2 : w77.cell? ⟨gb180, 2, none⟩ = some (.int .u32 ((Int.tmod a2 4) % 4294967296)) := (blk_cell BK180.out 2).trans rfl; have hcz78_3 : w77.cell? ⟨gb180, 3, none⟩ = some (.string (strOfNums y174)) := (blk_cell BK180.out 3).trans rfl; have hcz78_4 : w77.cell? ⟨gb180, 4, none⟩ = some (.string (strOfNums y177)) := (blk_cell BK180.out 4).trans rfl; have hfz78_0 := blk_frozen BK180.out 0; have hfz78_1 := blk_frozen BK180.out 1; have hfz78_2 := blk_frozen BK180.out 2; have hfz78_3 := blk_frozen BK180.out 3; have hfz78_4 := blk_frozen BK180.out 4) | (go_at_call 14; (with_reducible refine (cmd_Right.calls kj38 (wrap64 (Int.tmod a0 6)) (wrap64 (a1)) ((Int.tmod a2 4) % 4294967296) (strOfNums y174) (strOfNums y177) t183 _ A60.out).mono ?_); rintro e w79 ⟨rfl, hb⟩; have n0_ := Aside0.mk (blk_below (g := gb180) (o := .cells #[.int .i64 (wrap64 (Int.tmod a0 6)), .int .i64 (wrap64 (a1)), .int .u32 ((Int.tmod a2 4) % 4294967296), .string (strOfNums y174), .string (strOfNums y177)] 24 (0, 0)) (by (with_reducible repeat (first | refine blk_drewN ?_ _ | refine blk_drew ?_ | refine blk_alloc ?_ _)); exact BK180.out) hb); have n1_ := Aside0.mk (below_step (by repeat (first | (with_reducible first | exact HB.out | apply below_alloc | apply pw_below_drewN | apply below_drew1 | refine below_set ?_ GE180.out) | exact HB.out)) hb); clear BK180; clear HB; have BK180 := n0_; have HB := n1_; clear n0_ n1_; (try clear hb); (try clear hb2); (try clear hk); (try clear hi)))
                        go_ret
                        exact ⟨by first | rfl | (simp [errW_none, errW_some] <;> rfl) | (simp only [← hji8, ← hji11]; first | rfl | (simp [errW_none, errW_some] <;> rfl)) | (simp [*, errW_none, errW_some] <;> rfl), by repeat (first | (with_reducible first | exact HB.out | apply below_alloc | apply pw_below_drewN | apply below_drew1 | refine below_set ?_ GE180.out) | exact HB.out)⟩
          · rw [if_neg c13] at H
            exact absurd H (by simp)
        · rw [if_neg c12] at H
          exact absurd H (by simp)
      · rw [if_neg c10] at H
        exact absurd H (by simp)
    · rw [if_neg c9] at H
      exact absurd H (by simp)
  · replace c7 := Bool.eq_false_iff.mpr c7
    subst c7
    have H1 : (some false) = some r := by rw [if_neg (show ¬ (false = true) by decide)] at H; exact H
    clear H
    have H := H1
    clear H1
    obtain rfl := Option.some.inj H
    go_enter Tryd.func7, Tryd.ntmps7
    go_wp2_with (first | ((with_reducible refine gate_callee (f := 9) rfl ?_); refine goesL_ (some 17) rfl rfl Tryd.func9 (by kernel_rfl) rfl #[] rfl (by (try simp only [List.map_toArray, List.map_cons, List.map_nil]); first | done | rfl | (simp only [List.length_drop, List.length_take]; rfl)) ?_; (with_reducible refine (comitialaw07_examples.calls k  false _ ?side1 A6.out).mono ?_); (case side1 => first | (with_reducible exact HSC_.out) | exact Strconv.Tab.below HSC_.out (by repeat (first | (with_reducible first | exact HB.out | apply below_alloc | apply pw_below_drewN | apply below_drew1) | exact HB.out))); rintro e w80 ⟨rfl, hb⟩; refine ⟨_, rfl, ?_⟩; have n0_ := Aside0.mk (below_step (by repeat (first | (with_reducible first | exact HB.out | apply below_alloc | apply pw_below_drewN | apply below_drew1) | exact HB.out)) hb); clear HB; have HB := n0_; clear n0_; (try clear hb); (try clear hb2); (try clear hk); (try clear hi)))
    go_ret
    exact ⟨by first | rfl | (simp [errW_none, errW_some] <;> rfl) | (simp [*, errW_none, errW_some] <;> rfl), by repeat (first | (with_reducible first | exact HB.out | apply below_alloc | apply pw_below_drewN | apply below_drew1) | exact HB.out)⟩

/-- THE ONE PURE STATEMENT of comitialaw07_CmdBounds. -/
def comitialaw07_CmdBounds.Pure : Prop := ∀ (a0 : Int) (a1 : Int) (a2 : Int) (a3 : Int) (a4 : Int), (Lit.int .i8 a0).wf = true → (Lit.int .i8 a1).wf = true → (Lit.int .u8 a2).wf = true → (Lit.int .u8 a3).wf = true → (Lit.int .u8 a4).wf = true → ∃ k, comitialaw07_CmdBounds.f k a0 a1 a2 a3 a4 = some true

end Go.Proofs.YtlljdocflfpnkaaDoor.PCmdBounds
